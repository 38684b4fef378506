/- Every order of a region that draws it comes to what the text's order comes to. -/
import Derived.Test.YtpmnhbjbkoackaaDoorEn11
namespace Go.Proofs.YtpmnhbjbkoackaaDoor.En
open Go Go.RowKit
set_option linter.unusedVariables false
set_option linter.unusedSimpArgs false
variable {P : Program} {E : EnvT} {GL : World → Prop} {wt : World} {Fb : Nat → Nat → Prop} {w w' : World} {g g' : Gh} {o : Oper} {I : Ini}

theorem OpR_sound {S : St} {a : Act} {p : PVal} {us : List (Nat × Res)} {T : List Nat} {K' : Act → World → Prop} {Q' : Exit → Act → World → Prop} (hE : EnvOk P E) (hGL : GL wt) (h : SR wt Fb I S a w g) (hop : OpR P E GL o S p us T) (hd : dstOk S.n o.dst)
    (hK : ∀ a' w' g', SR wt Fb I (S.put o.dst p us) a' w' g' → K' a' w') : o.wp P a w K' Q' := by
  rcases hop with ⟨c, h1, h2, rfl⟩ | ⟨cl, fo, fid, ho, hcal, hfn, hcall, fn, hfn1, hfn2, hfn3⟩
  · obtain ⟨nx, v, w', g', hrun, hnx, hpv, heff⟩ := step_sound h.hr h.evs (stepF_mono hE h1) h2
    have hsr := h.step hd hpv heff
    unfold Oper.wp
    rw [hrun]
    rcases hnx with rfl | ⟨rfl, rfl⟩
    · exact hK _ _ _ hsr
    · exact hK _ _ _ hsr
  · have hfv := h.evs fo
    rw [fnOf_spec hfn] at hfv
    have hfv' : a.eval fo = .func (.func fid) #[] #[] := hfv.1
    have hrun : (execOp a.eval o).run P w = .ok (.enter fid (List.toArray (cl.args.toList.map a.eval))) w := by
      have hbn : fn.body.isNone = false := by cases hb : fn.body <;> simp [hb] at hfn2 ⊢
      simp only [execOp, ho, resolve, hcal, Sem.run_bind, Sem.run_pure, Result.andThen, Deferred.ofValue, hfv', invoke, callFunc, run_program, hfn1]
      simp [hfn3, hbn]
      apply Array.ext'; simp
    unfold Oper.wp
    rw [hrun]
    refine (callR_sound hcall wt w Fb g _ hGL h.hr (args_eval h.evs)).mono fun e w' ⟨g', hout, heff⟩ => ?_
    obtain ⟨v, rfl, hpv⟩ := hout
    exact hK _ _ _ (h.step hd hpv heff)
theorem SX_cons {o : Oper} {l : List Oper} {r : Rec} {rs : List Rec} {S : St} : ∀ k, SX (o :: l) (r :: rs) S (fun _ => true) (k + 1) = SX l rs (S.put o.dst r.p r.us) (fun _ => true) k
  | 0 => by simp [SX]
  | k + 1 => by
    have ih := SX_cons (o := o) (l := l) (r := r) (rs := rs) (S := S) k
    show (match (o :: l)[k + 1]?, (r :: rs)[k + 1]? with
      | some o1, some r1 => if (fun _ => true) (k + 1) = true then (SX (o :: l) (r :: rs) S (fun _ => true) (k + 1)).put o1.dst r1.p r1.us else SX (o :: l) (r :: rs) S (fun _ => true) (k + 1)
      | _, _ => SX (o :: l) (r :: rs) S (fun _ => true) (k + 1)) = _
    rw [ih]
    simp only [List.getElem?_cons_succ]
    rfl
theorem runs_at {ops : Array Oper} : ∀ {l : List Oper} {rs : List Rec} {S S' : St}, Runs P E GL ops l S rs S' →
    rs.length = l.length ∧ S' = SX l rs S (fun _ => true) l.length ∧ ∀ (k : Nat) (o : Oper) (r : Rec), l[k]? = some o → rs[k]? = some r → Did P E GL ops o (SX l rs S (fun _ => true) k) r.p r.us r.T
  | [], [], S, S', h => ⟨rfl, h, fun k o r ho => by simp at ho⟩
  | o :: l, r :: rs, S, S', h => by
    obtain ⟨h1, h2, h3⟩ := runs_at h.2
    refine ⟨by simp [h1], by rw [h2]; exact (SX_cons _).symm, fun k o' r' ho hr => ?_⟩
    cases k with
    | zero => simp at ho hr; subst ho hr; exact h.1
    | succ k => rw [SX_cons]; exact h3 k o' r' (by simpa using ho) (by simpa using hr)
  | [], _ :: _, _, _, h => h.elim
  | _ :: _, [], _, _, h => h.elim
theorem fold_bits {l : List Edge} {acc : List Nat} : ∀ (m : Nat) (j : Nat), (l.foldl (fun m e => m ||| (1 <<< e.on) ||| acc.getD e.on 0) m).testBit j = true →
    m.testBit j = true ∨ ∃ e ∈ l, j = e.on ∨ (acc.getD e.on 0).testBit j = true := by
  induction l with
  | nil => intro m j h; exact .inl h
  | cons e l ih =>
    intro m j h
    simp only [List.foldl_cons] at h
    rcases ih _ j h with h | ⟨e', he', h⟩
    · simp only [Nat.testBit_or, Bool.or_eq_true] at h
      rcases h with (h | h) | h
      · exact .inl h
      · right
        refine ⟨e, by simp, .inl ?_⟩
        have : (1 <<< e.on).testBit j = decide (e.on = j) := by
          rw [Nat.one_shiftLeft, Nat.testBit_two_pow]
        rw [this] at h
        simpa using (of_decide_eq_true h).symm
      · exact .inr ⟨e, by simp, .inr h⟩
    · exact .inr ⟨e', by simp [he'], h⟩
/-- Closed towards what stands ahead. -/
def Down (l : List Oper) (X : Nat → Bool) : Prop := ∀ (i : Nat) (o : Oper), l[i]? = some o → X i = true → ∀ e ∈ o.after, Region.binds .any e = true → X e.on = true
theorem befGo_spec {l : List Oper} {X : Nat → Bool} (hX : Down l X) : ∀ (rest : List Oper) (acc : List Nat), (∀ (k : Nat) (o : Oper), rest[k]? = some o → l[acc.length + k]? = some o) →
    (∀ (i : Nat) (o : Oper), i < acc.length → l[i]? = some o → (∀ e ∈ o.after, Region.binds .any e = true → X e.on = true) → ∀ j, (acc.getD i 0).testBit j = true → X j = true) →
    (∀ i o, l[i]? = some o → i < acc.length + rest.length → (∀ e ∈ o.after, Region.binds .any e = true → X e.on = true) → ∀ j, ((befGo rest acc).getD i 0).testBit j = true → X j = true)
  | [], acc, _, h, i, o, ho, hi, he, j, hj => h i o (by simpa using hi) ho he j hj
  | o :: rest, acc, hl, h, i, o', ho', hi, he, j, hj => by
    refine befGo_spec hX rest (acc ++ [_]) (fun k o1 h1 => ?_) (fun k o1 hk h1 he1 j1 hj1 => ?_) i o' ho' (by simp at hi ⊢; omega) he j hj
    · have := hl (k + 1) o1 (by simpa using h1)
      rw [List.length_append]
      simpa [Nat.add_assoc, Nat.add_comm 1 k] using this
    · rcases Nat.lt_or_ge k acc.length with hlt | hge
      · rw [List.getD_eq_getElem?_getD, List.getElem?_append_left hlt, ← List.getD_eq_getElem?_getD] at hj1
        exact h k o1 hlt h1 he1 j1 hj1
      · have ek : k = acc.length := by simp at hk; omega
        subst ek
        have e1 : o1 = o := by
          have := hl 0 o rfl
          simp at this
          rw [this] at h1
          exact (Option.some.inj h1).symm
        subst e1
        rw [List.getD_eq_getElem?_getD, List.getElem?_append_right (Nat.le_refl _)] at hj1
        simp only [Nat.sub_self, List.getElem?_cons_zero, Option.getD_some] at hj1
        rcases fold_bits _ _ hj1 with h0 | ⟨e, hem, h2⟩
        · simp at h0
        · simp only [List.mem_filter] at hem
          have hon : X e.on = true := he1 e (by simpa using hem.1) hem.2
          rcases h2 with rfl | h2
          · exact hon
          · have hlt : e.on < acc.length := by
              rcases Nat.lt_or_ge e.on acc.length with h | h
              · exact h
              · rw [List.getD_eq_getElem?_getD, List.getElem?_eq_none h] at h2; simp at h2
            have hmem : ∃ o2, l[e.on]? = some o2 := by
              have hn : acc.length < l.length := (List.getElem?_eq_some_iff.1 h1).1
              exact ⟨_, List.getElem?_eq_getElem (by omega)⟩
            obtain ⟨o2, ho2⟩ := hmem
            exact h e.on o2 hlt ho2 (fun e' he' hb' => hX e.on o2 ho2 hon e' he' hb') j1 h2
theorem valX_ins {V : Type} {f : Nat → Option V} {b : Option V} {X : Nat → Bool} {i : Nat} (hX : X i = false) : ∀ n, i < n → (f i ≠ none → ∀ j, i < j → j < n → f j ≠ none → X j = false) →
    valX f b (fun j => X j || j == i) n = (f i).or (valX f b X n)
  | 0, h, _ => by omega
  | n + 1, h, hc => by
    by_cases e : i = n
    · subst e
      have h1 : valX f b (fun j => X j || j == i) i = valX f b X i := valX_agree i fun j hj _ => by
        have : (j == i) = false := by simpa using (show j ≠ i by omega)
        simp [this]
      simp only [valX, h1, hX, Bool.false_or, BEq.rfl, if_true, Bool.false_eq_true, if_false]
    · have hlt : i < n := by omega
      have ih := valX_ins (f := f) (b := b) hX n hlt (fun h1 j h2 h3 h4 => hc h1 j h2 (by omega) h4)
      have hn : (n == i) = false := by simpa using (show n ≠ i by omega)
      simp only [valX, ih, hn, Bool.or_false]
      by_cases hx : X n = true
      · rw [if_pos hx, if_pos hx]
        by_cases hf : f i = none
        · simp [hf]
        · have : f n = none := by
            cases hq : f n with
            | none => rfl
            | some v => have := hc hf n (by omega) (by omega) (by rw [hq]; simp); rw [hx] at this; cases this
          simp [this]
      · rw [if_neg hx, if_neg hx]
theorem lookup_key {us : List (Nat × Res)} {id : Nat} (h : us.lookup id ≠ none) : id ∈ us.map (·.1) := by
  induction us with
  | nil => simp at h
  | cons x us ih =>
    obtain ⟨k, r⟩ := x
    simp only [List.lookup] at h
    split at h
    · rename_i e
      have : id = k := by simpa using e
      simp [this]
    · exact List.mem_cons_of_mem _ (ih h)
theorem confOk_spec {ops : Array Oper} {rs : List Rec} (h : confOk ops (rs.map Rec.tr) = true) :
    (∀ (k : Nat) (o : Oper), ops.toList[k]? = some o → ∀ e ∈ o.after, Region.binds .any e = true → e.on < k) ∧
    ∀ (i j : Nat) (oi oj : Oper) (ri rj : Rec), i < j → ops.toList[i]? = some oi → ops.toList[j]? = some oj → rs[i]? = some ri → rs[j]? = some rj →
      ((befGo ops.toList []).getD j 0).testBit i = true ∨ apart2 ops oi oj ri.tr rj.tr = true := by
  simp only [confOk, Bool.and_eq_true] at h
  obtain ⟨h1, h2⟩ := h
  refine ⟨fun k o ho e he hb => ?_, fun i j oi oj ri rj hij hoi hoj hri hrj => ?_⟩
  · rw [List.all_eq_true] at h1
    have := h1 (o, k) (by rw [List.mem_zipIdx_iff_getElem?]; exact ho)
    rw [List.all_eq_true] at this
    have := this e (by simpa using he)
    simp only [hb, Bool.not_true, Bool.false_or] at this
    exact of_decide_eq_true this
  · rw [List.all_eq_true] at h2
    have hi := h2 ((oi, ri.tr), i) (by rw [List.mem_zipIdx_iff_getElem?]; simp [List.getElem?_zip_eq_some, hoi, hri])
    rw [List.all_eq_true] at hi
    have := hi ((oj, rj.tr), j) (by rw [List.mem_zipIdx_iff_getElem?]; simp [List.getElem?_zip_eq_some, hoj, hrj])
    simp only [hij, decide_true, Bool.not_true, Bool.false_or, Bool.or_eq_true] at this
    exact this
theorem apart2_slots {ops : Array Oper} {oi oj : Oper} {ti tj : List Nat × List Nat} (h : apart2 ops oi oj ti tj = true) : oi.apart ops oj = true ∧ (∀ x ∈ ti.1, x ∉ tj.2 ∧ x ∉ tj.1) ∧ (∀ x ∈ tj.1, x ∉ ti.2) := by
  simp only [apart2, Bool.and_eq_true, List.all_eq_true] at h
  obtain ⟨⟨h1, h2⟩, h3⟩ := h
  exact ⟨h1, fun x hx => by simpa using h2 x hx, fun x hx => by simpa using h3 x hx⟩
theorem looks_operand {ops : Array Oper} {o : Oper} {t : Nat} (h : Operand.tmp t ∈ o.op.operands) : t ∈ o.looksAt ops := by
  simp only [Oper.looksAt, List.mem_append, List.mem_filterMap]
  exact .inl ⟨.tmp t, by simpa using h, rfl⟩
theorem looks_guard {ops : Array Oper} {o : Oper} {j t : Nat} {want : Bool} (hg : o.guard = some (j, want)) (h : (ops[j]?).bind (·.dst) = some t) : t ∈ o.looksAt ops := by
  simp only [Oper.looksAt, List.mem_append]
  exact .inr (by rw [hg]; simp only [h]; simp)
theorem ready_nil {ops : Array Oper} {listed : Array Bool} (hsz : listed.size = ops.size) (hed : ∀ (k : Nat) (o : Oper), ops.toList[k]? = some o → ∀ e ∈ o.after, Region.binds .any e = true → e.on < k)
    (h : Region.ready .any ops listed = []) : ∀ j, j < ops.size → listed.getD j false = true := by
  intro j
  induction j using Nat.strongRecOn with
  | _ j ih =>
    intro hj
    cases hq : listed.getD j false with
    | true => rfl
    | false =>
      exfalso
      have hmem : j ∈ Region.ready .any ops listed := by
        simp only [Region.ready, List.mem_filter, List.mem_range]
        refine ⟨hj, ?_⟩
        have h1 : listed.getD j true = false := by
          rw [Array.getD_eq_getD_getElem?] at hq ⊢
          rw [Array.getElem?_eq_getElem (by omega)] at hq ⊢
          simpa using hq
        simp only [h1, Bool.not_false, Bool.true_and]
        rw [Array.getElem?_eq_getElem hj]
        simp only [Option.map_some, Option.getD_some, Array.all_eq_true']
        intro e he
        cases hb : Region.binds .any e with
        | false => simp
        | true =>
          have := hed j ops[j] (by rw [Array.getElem?_toList, Array.getElem?_eq_getElem hj]) e he hb
          simp [ih e.on this (by omega)]
      rw [h] at hmem
      cases hmem
theorem mem_ready_spec {ops : Array Oper} {listed : Array Bool} {i : Nat} (hsz : listed.size = ops.size) (h : i ∈ Region.ready .any ops listed) :
    ∃ o, ops[i]? = some o ∧ i < ops.size ∧ listed.getD i false = false ∧ ∀ e ∈ o.after, Region.binds .any e = true → listed.getD e.on false = true := by
  simp only [Region.ready, List.mem_filter, List.mem_range, Bool.and_eq_true] at h
  obtain ⟨hi, h1, h2⟩ := h
  rw [Array.getElem?_eq_getElem hi] at h2
  simp only [Option.map_some, Option.getD_some, Array.all_eq_true'] at h2
  refine ⟨ops[i], Array.getElem?_eq_getElem hi, hi, ?_, fun e he hb => ?_⟩
  · rw [Array.getD_eq_getD_getElem?] at h1 ⊢
    rw [Array.getElem?_eq_getElem (by omega)] at h1 ⊢
    simpa using h1
  · have := h2 e he
    simpa [hb] using this
/-- Every order comes to what the text's order comes to. -/
theorem any_order {ops : Array Oper} {S0 Sn : St} {rs : List Rec} {Q' : Exit → Act → World → Prop} (hE : EnvOk P E) (hGL : GL wt) (hruns : Runs P E GL ops ops.toList S0 rs Sn) (hconf : confOk ops (rs.map Rec.tr) = true)
    (hQ : ∀ a w g, SR wt Fb I Sn a w g → Q' .normal a w) :
    ∀ (fuel : Nat) (listed : Array Bool) (a : Act) (w : World) (g : Gh), listed.size = ops.size → (ops.size ≤ fuel + (listed.toList.filter id).length) → Down ops.toList (fun j => listed.getD j false) →
      SR wt Fb I (SX ops.toList rs S0 (fun j => listed.getD j false) ops.size) a w g → wpAny P .any ops Q' fuel listed a w := by
  obtain ⟨hlen, hSn, hdid⟩ := runs_at hruns
  obtain ⟨hed, hcf⟩ := confOk_spec hconf
  have hsz0 : ops.toList.length = ops.size := by simp
  have hdone : ∀ {listed : Array Bool} {a : Act} {w : World} {g : Gh}, (∀ j, j < ops.size → listed.getD j false = true) → SR wt Fb I (SX ops.toList rs S0 (fun j => listed.getD j false) ops.size) a w g → Q' .normal a w := by
    intro listed a w g hall hsr
    refine hQ a w g (hsr.congr ?_ (fun t => ?_) (fun id => ?_))
    · rw [hSn, SX_n, SX_n]
    · rw [hSn, hsz0, SX_tmps, SX_tmps]
      exact valX_agree _ fun j hj _ => by simp [hall j hj]
    · rw [hSn, hsz0, SX_R, SX_R]
      exact valX_agree _ fun j hj _ => by simp [hall j hj]
  intro fuel
  induction fuel with
  | zero =>
    intro listed a w g hls hcount hdown hsr
    have hall : ∀ j, j < ops.size → listed.getD j false = true := by
      have h1 : (listed.toList.filter id).length = listed.toList.length := by
        have := List.length_filter_le id listed.toList
        simp at hcount this ⊢; omega
      rw [List.length_filter_eq_length_iff] at h1
      intro j hj
      rw [Array.getD_eq_getD_getElem?, Array.getElem?_eq_getElem (by omega)]
      exact h1 _ (by simp)
    refine ⟨?_, hdone hall hsr⟩
    cases hq : Region.ready .any ops listed with
    | nil => rfl
    | cons i l =>
      obtain ⟨o, h1, h2, h3, _⟩ := mem_ready_spec hls (i := i) (by rw [hq]; simp)
      rw [hall i h2] at h3
      cases h3
  | succ fuel ih =>
    intro listed a w g hls hcount hdown hsr
    refine ⟨fun hnil => hdone (ready_nil hls hed hnil) hsr, fun i hi => ?_⟩
    obtain ⟨o, hoi, hlt, hnot, hpre⟩ := mem_ready_spec hls hi
    have hol : ops.toList[i]? = some o := by rw [Array.getElem?_toList]; exact hoi
    obtain ⟨r, hr⟩ : ∃ r, rs[i]? = some r := ⟨_, List.getElem?_eq_getElem (by rw [hlen]; simpa using hlt)⟩
    obtain ⟨hdst, hcase⟩ := hdid i o r hol hr
    let X : Nat → Bool := fun j => listed.getD j false
    have hbefore : ∀ j, ((befGo ops.toList []).getD i 0).testBit j = true → X j = true :=
      fun j hj => befGo_spec hdown ops.toList [] (fun k o h => by simpa using h) (fun k o h => by simp at h) i o hol (by simpa using hlt) hpre j hj
    have hafter : ∀ j oj, ops.toList[j]? = some oj → ((befGo ops.toList []).getD j 0).testBit i = true → X j = false := by
      intro j oj hoj hbit
      cases hq : X j with
      | false => rfl
      | true =>
        have hjl : j < ops.size := by have := (List.getElem?_eq_some_iff.1 hoj).1; simpa using this
        have := befGo_spec hdown ops.toList [] (fun k o h => by simpa using h) (fun k o h => by simp at h) j oj hoj (by simpa using hjl) (hdown j oj hoj hq) i hbit
        have h2 : listed.getD i false = true := this
        rw [hnot] at h2; cases h2
    -- those that touch what it touches stand as in the text
    have hord : ∀ j oj rj, ops.toList[j]? = some oj → rs[j]? = some rj → j ≠ i → (j < i → apart2 ops oj o rj.tr r.tr = true → False) → (i < j → apart2 ops o oj r.tr rj.tr = true → False) → X j = decide (j < i) := by
      intro j oj rj hoj hrj hne h1 h2
      rcases Nat.lt_or_gt_of_ne hne with h | h
      · rcases hcf j i oj o rj r h hoj hol hrj hr with hb | hb
        · simp [hbefore j hb, h]
        · exact (h1 h hb).elim
      · rcases hcf i j o oj r rj h hol hoj hr hrj with hb | hb
        · rw [hafter j oj hoj hb]; simp; omega
        · exact (h2 h hb).elim
    have hXi : X i = false := hnot
    have htm : ∀ t, t ∈ o.looksAt ops → (SX ops.toList rs S0 X ops.size).tmps.lookup t = (SX ops.toList rs S0 (fun _ => true) i).tmps.lookup t := by
      intro t ht
      rw [SX_tmps, SX_tmps]
      refine valX_same fun j hj => ?_
      have : ∃ oj rj, ops.toList[j]? = some oj ∧ rs[j]? = some rj ∧ oj.dst = some t := by
        unfold wT at hj
        split at hj
        · rename_i oj rj h1 h2
          split at hj
          · rename_i h3; exact ⟨oj, rj, h1, h2, h3⟩
          · exact absurd rfl hj
        · exact absurd rfl hj
      obtain ⟨oj, rj, h1, h2, h3⟩ := this
      have hjl : j < ops.size := by have := (List.getElem?_eq_some_iff.1 h1).1; simpa using this
      by_cases e : j = i
      · rw [e, hXi]; simp
      · rw [hord j oj rj h1 h2 e (fun _ hap => (Oper.apart_spec (apart2_slots hap).1).1 t h3 ht) (fun _ hap => (Oper.apart_spec (apart2_slots hap).1).2.2 t h3 ht)]
        simp [hjl]
    have hRm : ∀ id, id ∈ r.T → (SX ops.toList rs S0 X ops.size).R id = (SX ops.toList rs S0 (fun _ => true) i).R id := by
      intro id hid
      rw [SX_R, SX_R]
      refine valX_same fun j hj => ?_
      have : ∃ oj rj, ops.toList[j]? = some oj ∧ rs[j]? = some rj ∧ id ∈ rj.us.map (·.1) := by
        unfold wR at hj
        split at hj
        · rename_i oj rj h1 h2
          exact ⟨oj, rj, h1, h2, lookup_key hj⟩
        · exact absurd rfl hj
      obtain ⟨oj, rj, h1, h2, h3⟩ := this
      have hjl : j < ops.size := by have := (List.getElem?_eq_some_iff.1 h1).1; simpa using this
      by_cases e : j = i
      · rw [e, hXi]; simp
      · rw [hord j oj rj h1 h2 e (fun _ hap => ((apart2_slots hap).2.1 id h3).1 hid) (fun _ hap => (apart2_slots hap).2.2 id h3 hid)]
        simp [hjl]
    have hget : ∀ t, t ∈ o.looksAt ops → (SX ops.toList rs S0 X ops.size).get t = (SX ops.toList rs S0 (fun _ => true) i).get t := fun t ht => by unfold St.get; rw [htm t ht]
    have hev : ∀ x ∈ o.op.operands, (SX ops.toList rs S0 X ops.size).ev x = (SX ops.toList rs S0 (fun _ => true) i).ev x := by
      intro x hx
      cases x with
      | tmp t => exact hget t (looks_operand hx)
      | _ => rfl
    have hgrd : ∀ b, Grd ops (SX ops.toList rs S0 (fun _ => true) i) o b → Grd ops (SX ops.toList rs S0 X ops.size) o b := by
      intro b hb
      unfold Grd at hb ⊢
      split at hb
      · exact hb
      · rename_i j want hg
        obtain ⟨t, h1, h2⟩ := hb
        exact ⟨t, h1, by rw [hget t (looks_guard hg h1)]; exact h2⟩
    have hwant : ∀ b, Grd ops (SX ops.toList rs S0 X ops.size) o b → Region.wanted o (yielded ops a.tmps) = b := by
      intro b hb
      unfold Grd at hb
      unfold Region.wanted
      split at hb
      · rename_i hg; rw [hg, hb]
      · rename_i j want hg
        obtain ⟨t, h1, h2⟩ := hb
        rw [hg]
        simp only
        rcases h2 with ⟨b0, h2, h3⟩ | ⟨h2, h3⟩
        · rw [yielded_of hsr h1 h2, h3]
          rfl
        · rw [yielded_not hsr h1 h2, h3]
          rfl
    have hdst' : dstOk (SX ops.toList rs S0 X ops.size).n o.dst := by rw [SX_n]; rw [SX_n] at hdst; exact hdst
    -- behind it
    let listed' := listed.setIfInBounds i true
    have hX' : ∀ j, listed'.getD j false = (X j || j == i) := by
      intro j
      simp only [listed', X, Array.getD_eq_getD_getElem?]
      by_cases e : j = i
      · subst e; simp [Array.getElem?_setIfInBounds, hls, hlt]
      · have : (j == i) = false := by simpa using e
        rw [Array.getElem?_setIfInBounds_ne (Ne.symm e), this, Bool.or_false]
    have hnext : ∀ a' w' g', SR wt Fb I ((SX ops.toList rs S0 X ops.size).put o.dst r.p r.us) a' w' g' → wpAny P .any ops Q' fuel listed' a' w' := by
      intro a' w' g' hsr'
      refine ih listed' a' w' g' (by simp [listed', hls]) ?_ ?_ ?_
      · have : (listed'.toList.filter id).length = (listed.toList.filter id).length + 1 := by
          simp only [listed', Array.toList_setIfInBounds]
          have hl2 : i < listed.toList.length := by simp [hls, hlt]
          have h0 : listed.toList[i] = false := by
            rw [Array.getD_eq_getD_getElem?, Array.getElem?_eq_getElem (by omega)] at hnot
            simpa using hnot
          rw [List.set_eq_take_append_cons_drop, if_pos hl2]
          conv => rhs; rw [← List.take_append_drop i listed.toList, List.drop_eq_getElem_cons hl2, h0]
          simp
          omega
        omega
      · intro k ok hok hk e he hb
        replace hk : listed'.getD k false = true := hk
        show listed'.getD e.on false = true
        rw [hX'] at hk ⊢
        by_cases ek : k = i
        · subst ek
          rw [hol] at hok
          cases hok
          rw [Bool.or_eq_true]; exact .inl (hpre e he hb)
        · have : (k == i) = false := by simpa using ek
          rw [this, Bool.or_false] at hk
          rw [Bool.or_eq_true]; exact .inl (hdown k ok hok hk e he hb)
      · have hXe : (fun j => listed'.getD j false) = fun j => X j || j == i := funext hX'
        rw [hXe]
        refine hsr'.congr ?_ (fun t => ?_) (fun id => ?_)
        · simp [SX_n, St.put]
        · rw [SX_tmps, valX_ins hXi _ hlt (fun h1 j h2 h3 h4 => ?_)]
          · have hw : wT ops.toList rs t i = if o.dst = some t then some r.p else none := by simp only [wT, hol, hr]
            rw [hw, ← SX_tmps]
            cases hd : o.dst with
            | none => simp [St.put]
            | some d =>
              by_cases e : d = t
              · subst e; simp [St.put, List.lookup]
              · have : (t == d) = false := by simpa using fun h => e h.symm
                simp [St.put, List.lookup, this, e]
          · have hot : o.dst = some t := by
              unfold wT at h1; rw [hol, hr] at h1; simp only at h1
              split at h1
              · assumption
              · exact absurd rfl h1
            have : ∃ oj rj, ops.toList[j]? = some oj ∧ rs[j]? = some rj ∧ oj.dst = some t := by
              unfold wT at h4
              split at h4
              · rename_i oj rj k1 k2
                split at h4
                · rename_i k3; exact ⟨oj, rj, k1, k2, k3⟩
                · exact absurd rfl h4
              · exact absurd rfl h4
            obtain ⟨oj, rj, k1, k2, k3⟩ := this
            rw [hord j oj rj k1 k2 (by omega) (fun h _ => by omega) (fun _ hap => (Oper.apart_spec (apart2_slots hap).1).2.1 t hot k3)]
            simp; omega
        · rw [SX_R, valX_ins hXi _ hlt (fun h1 j h2 h3 h4 => ?_)]
          · have hw : wR ops.toList rs id i = r.us.lookup id := by simp only [wR, hol, hr]
            rw [hw, ← SX_R, St.R_put]
            rfl
          · have hk1 : id ∈ r.us.map (·.1) := by
              unfold wR at h1; rw [hol, hr] at h1; exact lookup_key h1
            have : ∃ oj rj, ops.toList[j]? = some oj ∧ rs[j]? = some rj ∧ id ∈ rj.us.map (·.1) := by
              unfold wR at h4
              split at h4
              · rename_i oj rj k1 k2; exact ⟨oj, rj, k1, k2, lookup_key h4⟩
              · exact absurd rfl h4
            obtain ⟨oj, rj, k1, k2, k3⟩ := this
            rw [hord j oj rj k1 k2 (by omega) (fun h _ => by omega) (fun _ hap => ((apart2_slots hap).2.1 id hk1).2 k3)]
            simp; omega
    show wpOp P ops Q' i _ a w
    unfold wpOp
    rw [hoi]
    simp only
    rcases hcase with ⟨hg, hop⟩ | ⟨hg, hp, hus, hT⟩
    · rw [if_pos (hwant true (hgrd true hg))]
      exact .inl (OpR_sound hE hGL hsr (OpR_local hop hev hRm) hdst' hnext)
    · rw [if_neg (by rw [hwant false (hgrd false hg)]; simp)]
      refine hnext _ w g ?_
      rw [hp, hus]
      exact hsr.step hdst' (us := []) (v := undef) (by rw [up_nil]; exact ⟨[], rfl, trivial⟩) (by rw [up_nil]; exact Eff.refl hsr.hr)
theorem SR.drew {S : St} {a : Act} (h : SR wt Fb I S a w g) : SR wt Fb I S a w.drew g := by
  have hv : ∀ {W : Nat → Nat → Prop} {R : Nat → Option Res}, Tr w W R g w.drew W R g := fun {W R} => ⟨fun b o v hc hn => ⟨hc, hn⟩, fun id r hr => ⟨r, hr, by cases r with | blk cs => exact (rfl : g.loc id = g.loc id) | tok v => exact ⟨Nat.le_refl _, fun _ => ⟨rfl, rfl, fun _ _ => rfl⟩⟩ | row _ _ _ _ => exact ⟨rfl, rfl, Nat.le_refl _, fun _ => ⟨rfl, rfl, rfl⟩⟩⟩⟩
  refine ⟨⟨fun id r hr => ?_, h.hr.inj, h.hr.base, h.hr.fb, h.hr.fbs, h.hr.bel.drew⟩, h.n, h.df, fun t p hp => (h.vals t p hp).mono hv, ⟨h.fr.os, h.fr.tape, h.fr.output, h.fr.size, h.fr.block, h.fr.cell⟩, h.sub, fun id r hr => ?_⟩
  have := h.hr.res id r hr
  cases r with
  | blk cs => obtain ⟨b, T, vs, h1, h2, h3⟩ := this; exact ⟨b, T, vs, h1, h2, h3.mono hv⟩
  | tok v => exact this
  | row e l T v => obtain ⟨xs, h1, h2⟩ := this; exact ⟨xs, h1.drew, h2.mono fun x vs h => DV.mono (hv (R := S.R)).kp h⟩
  obtain ⟨r', h1, h2⟩ := h.lv id r hr
  refine ⟨r', h1, ?_⟩
  cases r <;> cases r' <;> exact h2
/-- A region that draws its order. -/
theorem PD_sound {ops : Array Oper} {Q : St → Prop} {S : St} {a : Act} {id : Nat} {Q' : Exit → Act → World → Prop} (hm : P.follows .mixedOrders = true) (hE : EnvOk P E) (hGL : GL wt) (h : SR wt Fb I S a w g) (hp : PD P E GL ops Q ops.toList [] S)
    (hQ : ∀ S' a w g, SR wt Fb I S' a w g → Q S' → Q' .normal a w) : (Code.region id ops true).wp P Q' a w := by
  obtain ⟨rs, Sn, hruns, hconf, hq⟩ := PD_runs _ _ _ hp
  simp only [List.reverse_nil, List.nil_append] at hconf
  refine wp_region_any hm (any_order hE hGL hruns hconf (fun a w g hsr => hQ Sn a w g hsr hq) ops.size _ a _ g (by simp) (by simp) ?_ ?_)
  · intro i o _ hi
    simp [Array.getD_eq_getD_getElem?, Array.getElem?_replicate] at hi
    split at hi <;> simp at hi
  · have h0 : ∀ k, SX ops.toList rs S (fun j => (Array.replicate ops.size false).getD j false) k = S := by
      intro k
      induction k with
      | zero => rfl
      | succ k ih =>
        simp only [SX]
        split
        · rw [if_neg (by simp [Array.getD_eq_getD_getElem?, Array.getElem?_replicate]; split <;> simp), ih]
        · exact ih
    rw [h0]
    exact h.drew
end Go.Proofs.YtpmnhbjbkoackaaDoor.En
