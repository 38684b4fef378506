/- Each operation of the plain run is what the model makes of it: new variables, stores, rows. -/
import Derived.Test.YtpmnhbjbkoackaaDoorEn5
import Derived.Laws.Tables
import Derived.Laws.CopyRow
namespace Go.Proofs.YtpmnhbjbkoackaaDoor.En
open Go Go.RowKit
set_option linter.unusedVariables false
set_option linter.unusedSimpArgs false
variable {P : Program} {rw : Nat → Bool} {wt : World} {Fb : Nat → Nat → Prop} {w w' : World} {R R' : Nat → Option Res} {g g' : Gh} {o : Oper} {ρ : Operand → Value} {ev : Operand → PVal} {c : List Cnd} {p : PVal} {us : List (Nat × Res)}

theorem CV.one {W : Nat → Nat → Prop} {v : Value} {c : Cell} (h : CV w W R g v c) (hd : c ≠ .dead) : v.oneCell' = true := by
  cases c with
  | int k n => rw [h.1]; rfl
  | bool b => rw [show v = .bool b from h]; rfl
  | str s => rw [h.1]; rfl
  | lst e l => exact DV.one (τ := .list e) h v (by simp)
  | acc e l T id ver => exact DV.one (τ := .list e) h.1 v (by simp)
  | ptr id off => obtain ⟨b, cs, _, _, rfl⟩ := h; rfl
  | eptr τ x off => obtain ⟨b, o, vs, rfl, _⟩ := h; rfl
  | row e T id ver => obtain ⟨l, v', _, _, ho, _⟩ := h; exact ho
  | rptr e T id ver i off => obtain ⟨l, v', _, _, ⟨a, rfl⟩, _⟩ := h; rfl
  | lit u => exact h.2
  | dead => exact absurd rfl hd
theorem cells_one {v : Value} (h : v.oneCell' = true) : v.cells = #[v] := by
  cases v <;> first | rfl | (simp [Value.oneCell'] at h)
theorem P1V.cells {W : Nat → Nat → Prop} {v : Value} {q : P1} (h : P1V w W R g v q) (hl : q.live = true) : CVs w W R g v.cells.toList q.cells := by
  cases q with
  | one c =>
    have hd : c ≠ .dead := fun e => by subst e; simp [P1.live] at hl
    have h1 := CV.one h hd
    rw [cells_one h1]
    exact ⟨⟨h, h1⟩, trivial⟩
  | agg cs => obtain ⟨vs, rfl, h⟩ := h; exact h
theorem CVs.ones {W : Nat → Nat → Prop} : ∀ {vs : List Value} {cs : List Cell}, CVs w W R g vs cs → ∀ v ∈ vs, v.oneCell' = true
  | [], [], _, _, hv => by cases hv
  | u :: us, c :: cs, h, v, hv => by
    rcases List.mem_cons.1 hv with rfl | hv
    · exact h.1.2
    · exact CVs.ones h.2 v hv
  | [], _ :: _, h, _, _ => h.elim
  | _ :: _, [], h, _, _ => h.elim
theorem zipIdx_foldl (off : Nat) : ∀ (l : List Value) (k : Nat) (cells : Array Value), off + k + l.length ≤ cells.size →
    ((l.zipIdx k).foldl (fun cs (x : Value × Nat) => cs.setIfInBounds (off + x.2) x.1) cells).toList = cells.toList.take (off + k) ++ l ++ cells.toList.drop (off + k + l.length)
  | [], k, cells, _ => by simp
  | v :: l, k, cells, h => by
    simp only [List.zipIdx_cons, List.foldl_cons]
    rw [zipIdx_foldl off l (k + 1) _ (by simp at h ⊢; omega)]
    have hk : off + k < cells.toList.length := by simp at h ⊢; omega
    simp only [Array.toList_setIfInBounds, List.length_cons]
    rw [show off + (k + 1) = off + k + 1 by omega, List.take_set, List.drop_set_of_lt (by omega)]
    rw [List.take_succ_eq_append_getElem (by simpa using hk)]
    rw [List.set_append_right _ _ (by simp; omega)]
    simp only [List.length_take]
    rw [show off + k - min (off + k) cells.toList.length = 0 by omega]
    simp [show off + k + 1 + l.length = off + k + (l.length + 1) by omega]
theorem CVs.splice {W : Nat → Nat → Prop} {vs us : List Value} {cs ds : List Cell} (h : CVs w W R g vs cs) (h' : CVs w W R g us ds) (off : Nat) :
    CVs w W R g (vs.take off ++ us ++ vs.drop (off + us.length)) (spliceF cs off ds) := by
  rw [CVs.len h']
  exact ((h.take off).append h').append (h.drop _)
theorem spliceF_len {cs ds : List Cell} {off : Nat} (h : off + ds.length ≤ cs.length) : (spliceF cs off ds).length = cs.length := by
  simp [spliceF]; omega
theorem fill_sound {W : Nat → Nat → Prop} {place place' : Nat → Option (Nat × Nat)} (hp : ∀ i, place i = place' i) : ∀ (parts : List (Nat × Operand)) (cells : Array Value) (cs cs' : List Cell),
    Evs w W R g ρ ev → CVs w W R g cells.toList cs → fillF place cs (parts.map fun p => (p.1, ev p.2)) = some cs' →
    ∃ cells' : Array Value, Instr.fill place' cells (parts.map fun p => (p.1, ρ p.2)) = some cells' ∧ CVs w W R g cells'.toList cs'
  | [], cells, cs, cs', _, hc, h => by
    cases h
    exact ⟨cells, rfl, hc⟩
  | (i, x) :: rest, cells, cs, cs', he, hc, h => by
    have hx := he x
    simp only [List.map_cons] at h
    cases hev : ev x with
    | tup ps => rw [hev] at h; simp [fillF] at h
    | p q =>
      rw [hev] at h hx
      simp only [fillF] at h
      cases hpl : place i with
      | none => rw [hpl] at h; cases h
      | some os =>
        obtain ⟨off, size⟩ := os
        rw [hpl] at h
        simp only at h
        split at h
        · rename_i hcond
          obtain ⟨hl, h1, h2⟩ := hcond
          have hq := P1V.cells hx hl
          have hlen : (ρ x).cells.size = size := by rw [← Array.length_toList, CVs.len hq, h1]
          have hcl : cells.size = cs.length := by rw [← Array.length_toList, CVs.len hc]
          have hz := zipIdx_foldl off (ρ x).cells.toList 0 cells (by simp [hlen]; omega)
          obtain ⟨cells', hf, hcs⟩ := fill_sound hp rest (((ρ x).cells.toList.zipIdx 0).foldl (fun cs (x : Value × Nat) => cs.setIfInBounds (off + x.2) x.1) cells) _ cs' he (by
            rw [hz, Nat.add_zero]
            exact hc.splice hq off) h
          refine ⟨cells', ?_, hcs⟩
          simp only [List.map_cons, Instr.fill, ← hp, hpl]
          rw [if_neg (by simp [hlen]; omega)]
          rw [← hf]
          congr 1
          rw [← Array.foldl_toList]
          simp
        · cases h
theorem mapM_some {α β : Type} {f : α → Option β} : ∀ {l : List α} {r : List β}, l.length = r.length → (∀ (i : Nat) (x : α) (y : β), l[i]? = some x → r[i]? = some y → f x = some y) → l.mapM f = some r
  | [], [], _, _ => rfl
  | x :: l, y :: r, h, hi => by
    have h0 := hi 0 x y rfl rfl
    have ih := mapM_some (f := f) (l := l) (r := r) (by simpa using h) (fun i x y hx hy => hi (i + 1) x y (by simpa using hx) (by simpa using hy))
    simp [List.mapM_cons, h0, ih]
  | [], _ :: _, h, _ => by simp at h
  | _ :: _, [], h, _ => by simp at h
theorem zero_of_ti {T : TypeId} {a : Bool} {n : Nat} {z : List Cell} {d : TD} {W : Nat → Nat → Prop} (h : ti P T = some ⟨a, n, z, d⟩) :
    ∃ info zz, P.info? T = some info ∧ info.zero = some zz ∧ CVs w W R g zz.cells.toList z ∧ zz.cells.size = info.size ∧ info.size = n := by
  obtain ⟨info, dd, zz, h1, h2, h3, h4, h5, h6, h7, h8, h9⟩ := ti_d h
  refine ⟨info, zz, h1, h3, ?_, h7, h4⟩
  rw [h6]
  simp only [Bool.and_eq_true] at h8
  exact zero_sound _ h8.2
theorem s_build (hr : HR wt Fb w R g) (he : Evs w (Wr Fb R g) R g ρ ev) {T : TypeId} {parts : Array (Nat × Operand)} (ho : o.op = .build T parts) (h : stepF (tiE P rw) o ev R = some (c, p, us)) (hc : allP c) : StepOk P wt Fb o ρ w R g p us := by
  simp only [stepF, ho] at h
  have fin : ∀ {cells : Array Value} {cs : List Cell}, P.built T (parts.map fun p => (p.1, ρ p.2)).toList = some cells → CVs w (Wr Fb R g) R g cells.toList cs → StepOk P wt Fb o ρ w R g (.p (.agg cs)) [] := by
    intro cells cs hb hcs
    refine stepOk_pure hr (v := .agg cells) ?_ ⟨cells.toList, by simp, hcs⟩
    have := run_build (P := P) w T (parts.map fun p => (p.1, ρ p.2)) cells hb
    simp [execOp, ho, this, Result.andThen]
  split at h
  · rename_i a n z fs ht
    simp only [Option.map_eq_some_iff] at h
    obtain ⟨cs, hcs, h⟩ := h
    cases h
    obtain ⟨info, zz, h1, h3, h4, h5, h6⟩ := zero_of_ti (w := w) (R := R) (g := g) (W := Wr Fb R g) ht
    obtain ⟨fields, hu, hfs⟩ := ti_struct ht
    obtain ⟨cells, hf, hcells⟩ := fill_sound (place' := fun i => ((fs.map fun f => (f.1, f.2.1)).toArray[i]?)) (fun i => by simp) parts.toList zz.cells z cs he h4 hcs
    refine fin (cells := cells) ?_ hcells
    have hm : fields.toList.mapM (fun f => (P.info? f.type).map fun i => (f.offset, i.size)) = some (fs.map fun f => (f.1, f.2.1)) := by
      refine mapM_some (by simp [(allSome_spec hfs).1]) fun i f y hf' hy => ?_
      rw [List.getElem?_map] at hy
      simp only [Option.map_eq_some_iff] at hy
      obtain ⟨r, hr', rfl⟩ := hy
      obtain ⟨ff, fi, fd, k1, k2, k3, rfl, k5⟩ := field_get hfs hr'
      rw [← Array.getElem?_toList, hf'] at k1
      cases k1
      simp [k2]
    simp only [Program.built, h1, hu, h3, hm, Array.toList_map]
    exact hf
  · rename_i a n z m size ag oe ht
    simp only [Option.map_eq_some_iff] at h
    obtain ⟨cs, hcs, h⟩ := h
    cases h
    obtain ⟨info, zz, h1, h3, h4, h5, h6⟩ := zero_of_ti (w := w) (R := R) (g := g) (W := Wr Fb R g) ht
    obtain ⟨e, ie, de, k1, k2, k3, k4, k5, k6, k7⟩ := ti_arr ht
    obtain ⟨cells, hf, hcells⟩ := fill_sound (place' := fun i => some (i * ie.size, ie.size)) (fun i => by rw [k4]) parts.toList zz.cells z cs he h4 hcs
    refine fin (cells := cells) ?_ hcells
    simp only [Program.built, h1, k1, h3, k2, Array.toList_map]
    exact hf
  · cases h
theorem alloc_other (w : World) (o : Obj) (b : Nat) (h : b < w.heap.size) : (w.alloc o).heap[b]? = w.heap[b]? := by
  show (w.heap.push o)[b]? = _
  rw [Array.getElem?_push, if_neg (by omega)]
theorem alloc_new (w : World) (o : Obj) : (w.alloc o).heap[w.heap.size]? = some o := by
  show (w.heap.push o)[w.heap.size]? = some o
  simp
theorem s_newBlk (hr : HR wt Fb w R g) {d : Nat} {vs : Array Value} {T : TypeId} {cs : List Cell} (hd : R d = none) (hrun : (execOp ρ o).run P w = .ok (.value (.pointer (some ⟨w.heap.size, 0, none⟩))) (w.alloc (.cells vs T)))
    (hcs : CVs w (Wr Fb R g) R g vs.toList cs) : StepOk P wt Fb o ρ w R g (.p (.one (.ptr d 0))) [(d, .blk cs)] := by
  refine ⟨_, _, w.alloc (.cells vs T), g.at' d (some w.heap.size) 0, hrun, .inl rfl, ⟨w.heap.size, cs, by rw [up_one, if_pos rfl], by simp, rfl⟩, ?_⟩
  refine new_eff hr hd (fun b e => by cases e; simp) rfl rfl rfl (by simp) (fun b hb => alloc_other w _ b hb) fun htr => ?_
  exact ⟨w.heap.size, T, vs.toList, by simp, by simpa using alloc_new w _, hcs.mono htr⟩
theorem s_alloc (hr : HR wt Fb w R g) (he : Evs w (Wr Fb R g) R g ρ ev) {T : TypeId} (ho : o.op = .alloc T) (h : stepF (tiE P rw) o ev R = some (c, p, us)) (hc : allP c) : StepOk P wt Fb o ρ w R g p us := by
  simp only [stepF, ho] at h
  split at h
  · rename_i i d ht _
    split at h
    · rename_i hd
      cases h
      obtain ⟨ia, ni, zi, di⟩ := i
      obtain ⟨info, zz, h1, h3, h4, h5, h6⟩ := zero_of_ti (w := w) (R := R) (g := g) (W := Wr Fb R g) ht
      refine s_newBlk hr hd (vs := zz.cells) (T := T) ?_ h4
      simp [execOp, ho, Instr.alloc, zeroValue, typeInfo, h1, h3, newVar, newRow, Result.andThen]
    · cases h
  · cases h
theorem s_box (hr : HR wt Fb w R g) (he : Evs w (Wr Fb R g) R g ρ ev) {T : TypeId} {x : Operand} (ho : o.op = .box T x) (h : stepF (tiE P rw) o ev R = some (c, p, us)) (hc : allP c) : StepOk P wt Fb o ρ w R g p us := by
  simp only [stepF, ho] at h
  have hx := he x
  split at h
  · rename_i v d ex _
    rw [ex] at hx
    split at h
    · rename_i hd
      split at h
      · rename_i hl
        cases h
        refine s_newBlk hr hd (vs := (ρ x).cells) (T := T) ?_ (P1V.cells hx hl)
        simp [execOp, ho, Instr.box, newVar, newRow, Result.andThen]
      · cases h
    · cases h
  · cases h
/-- A resource changes, and nothing else. -/
theorem chg_eff {w' : World} {id k : Nat} {bo : Option Nat} {r0 r1 : Res} (h : HR wt Fb w R g) (hid : R id = some r0)
    (hbo : ∀ b, bo = some b → (g.loc id = some b ∨ w.heap.size ≤ b) ∧ b < w'.heap.size)
    (hos : w'.os = w.os) (htape : w'.tape = w.tape) (hout : w'.output = w.output) (hsz : w.heap.size ≤ w'.heap.size)
    (hw : ∀ b, b < w.heap.size → g.loc id ≠ some b → w'.heap[b]? = w.heap[b]?)
    (hcell : ∀ b o v, g.loc id = some b → w.cell? ⟨b, o, none⟩ = some v → ¬ own R g b o → w'.cell? ⟨b, o, none⟩ = some v ∧ (bo = some b → ∃ ver, r1 = .tok ver ∧ o < k))
    (hsub : ∀ b o, bo = some b → b < w.heap.size → (∀ v, r1 = .tok v → k ≤ o) → own R g b o)
    (hlater : Res.later w w' g (g.at' id bo k) id r0 r1)
    (hrv : Tr w (Wr Fb R g) R g w' (Wr Fb (up [(id, r1)] R) (g.at' id bo k)) (up [(id, r1)] R) (g.at' id bo k) → RV w' (Wr Fb (up [(id, r1)] R) (g.at' id bo k)) (up [(id, r1)] R) (g.at' id bo k) id r1) :
    Eff wt Fb w R g w' (up [(id, r1)] R) (g.at' id bo k) := by
  have hne : ∀ id' r' b, R id' = some r' → id' ≠ id → g.loc id' = some b → g.loc id ≠ some b := fun id' r' b h1 h2 h3 h4 => h2 (h.inj _ _ _ _ _ h1 hid h3 h4)
  have hsub' : ∀ b o, own (up [(id, r1)] R) (g.at' id bo k) b o → b < w.heap.size → own R g b o := by
    rintro b o ⟨id', r', h1, h2, h3⟩ hlt
    rw [up_one] at h1
    by_cases e : id' = id
    · subst e
      rw [if_pos rfl] at h1
      cases h1
      simp only [Gh.at'_loc, if_pos] at h2
      exact hsub b o h2 hlt (fun v hv => by simpa using h3 v hv)
    · rw [if_neg e] at h1
      simp only [Gh.at'_loc, e, if_false] at h2
      exact ⟨id', r', h1, h2, fun v hv => by have := h3 v hv; simpa [e] using this⟩
  have htr : Tr w (Wr Fb R g) R g w' (Wr Fb (up [(id, r1)] R) (g.at' id bo k)) (up [(id, r1)] R) (g.at' id bo k) := by
    refine ⟨fun b o v hc hn => ?_, fun id' r' hr' => ?_⟩
    · have hlt := World.block_lt_of_cell? _ _ hc
      have hnf : ¬ Fb b o := fun hf => hn (.inl hf)
      have hno : ¬ own R g b o := fun ho => hn (.inr ho)
      by_cases hb : g.loc id = some b
      · obtain ⟨c1, c2⟩ := hcell b o v hb hc hno
        refine ⟨c1, fun hW => ?_⟩
        rcases hW with hW | hW
        · exact hnf hW
        · exact hno (hsub' b o hW hlt)
      · refine ⟨by rw [World.cell?_of_block (hw b hlt hb)]; exact hc, fun hW => ?_⟩
        rcases hW with hW | hW
        · exact hnf hW
        · exact hno (hsub' b o hW hlt)
    · by_cases e : id' = id
      · subst e
        rw [hid] at hr'
        cases hr'
        exact ⟨r1, by rw [up_one, if_pos rfl], hlater⟩
      · refine ⟨r', by rw [up_one, if_neg e]; exact hr', ?_⟩
        cases r' with
        | blk cs => simp [Res.later, e]
        | tok v => exact ⟨Nat.le_refl _, fun _ => ⟨by simp [e], by simp [e], fun b hb' => hw b ((h.base id' _ b hr' hb').2) (hne id' _ b hr' e hb')⟩⟩
        | row e0 l T v => exact ⟨rfl, rfl, Nat.le_refl _, fun _ => ⟨rfl, by simp [e], by simp [e]⟩⟩
  have hfr : Fr (own R g) w w' := ⟨hos, htape, hout, hsz, fun b hlt hO => by
      by_cases hb : g.loc id = some b
      · exfalso
        cases r0 with
        | blk cs => exact hO 0 ⟨id, _, hid, hb, fun v hv => by cases hv⟩
        | tok v => exact hO (g.tip id) ⟨id, _, hid, hb, fun v hv => Nat.le_refl _⟩
        | row e0 l T v => exact hO 0 ⟨id, _, hid, hb, fun v hv => by cases hv⟩
      · exact hw b hlt hb, fun b o v hc hO => by
      by_cases hb : g.loc id = some b
      · exact (hcell b o v hb hc hO).1
      · rw [World.cell?_of_block (hw b (World.block_lt_of_cell? _ _ hc) hb)]; exact hc⟩
  refine ⟨⟨fun id' r' hr' => ?_, ?_, ?_, ?_, fun b o hf => Nat.lt_of_lt_of_le (h.fbs b o hf) hsz, ?_⟩, htr, hfr, hsub'⟩
  · rw [up_one] at hr'
    by_cases e : id' = id
    · subst e
      rw [if_pos rfl] at hr'
      cases hr'
      exact hrv htr
    · rw [if_neg e] at hr'
      exact (h.res id' r' hr').mono htr (by simp [e]) (by simp [e]) (fun b hb' => hw b ((h.base id' _ b hr' hb').2) (hne id' _ b hr' e hb'))
  · intro i1 i2 r1' r2' b h1 h2 h3 h4
    rw [up_one] at h1 h2
    simp only [Gh.at'_loc] at h3 h4
    by_cases e : i1 = id
    · by_cases e' : i2 = id
      · rw [e, e']
      · rw [if_pos e] at h3
        rw [if_neg e'] at h2 h4
        rcases (hbo b h3).1 with hb | hb
        · exact absurd hb (hne i2 _ b h2 e' h4)
        · have := (h.base i2 _ b h2 h4).2; omega
    · by_cases e' : i2 = id
      · rw [if_pos e'] at h4
        rw [if_neg e] at h1 h3
        rcases (hbo b h4).1 with hb | hb
        · exact absurd hb (hne i1 _ b h1 e h3)
        · have := (h.base i1 _ b h1 h3).2; omega
      · rw [if_neg e] at h1 h3
        rw [if_neg e'] at h2 h4
        exact h.inj i1 i2 r1' r2' b h1 h2 h3 h4
  · intro i1 r' b h1 h2
    rw [up_one] at h1
    simp only [Gh.at'_loc] at h2
    by_cases e : i1 = id
    · rw [if_pos e] at h2
      have hb := hbo b h2
      refine ⟨?_, hb.2⟩
      rcases hb.1 with hb' | hb'
      · exact (h.base id _ b hid hb').1
      · exact Nat.le_trans h.bel.size hb'
    · rw [if_neg e] at h1 h2
      have := h.base i1 _ b h1 h2
      exact ⟨this.1, by omega⟩
  · intro i1 r' b o h1 h2 hf
    rw [up_one] at h1
    simp only [Gh.at'_loc] at h2
    by_cases e : i1 = id
    · rw [if_pos e] at h2
      rcases (hbo b h2).1 with hb | hb
      · exact h.fb id _ b o hid hb hf
      · have := h.fbs b o hf
        omega
    · rw [if_neg e] at h1 h2
      exact h.fb i1 _ b o h1 h2 hf
  · refine h.bel.trans ⟨hos, htape, hout, hsz, fun b hlt => hw b (Nat.lt_of_lt_of_le hlt h.bel.size) (fun hb => ?_)⟩
    have := (h.base id _ b hid hb).1
    omega
theorem splice_get {α : Type} {a b : List α} {o : Nat} (h : o + b.length ≤ a.length) (p : Nat) : (a.take o ++ b ++ a.drop (o + b.length))[p]? = if p < o then a[p]? else if p < o + b.length then b[p - o]? else a[p]? := by
  have ho : (a.take o).length = o := by simp; omega
  split
  · rename_i hp
    rw [List.append_assoc, List.getElem?_append_left (by omega), List.getElem?_take, if_pos hp]
  · rename_i hp
    split
    · rename_i hp2
      rw [List.append_assoc, List.getElem?_append_right (by omega), ho, List.getElem?_append_left (by omega)]
    · rename_i hp2
      rw [List.getElem?_append_right (by simp; omega), List.getElem?_drop]
      congr 1
      simp; omega
/-- An element's cells are written. -/
theorem FR.put {α : Type} {sz : Nat} {D : α → List Value → Prop} {xs : List Value} {l : List α} {n off : Nat} {x y : α} {us : List Value} (h : FR sz D xs l) (hy : l[n]? = some y) (ho : off + us.length ≤ sz)
    (hd : ∀ vs : List Value, vs.length = sz → D y vs → D x (vs.take off ++ us ++ vs.drop (off + us.length))) :
    FR sz D (xs.take (n * sz + off) ++ us ++ xs.drop (n * sz + off + us.length)) (l.set n x) := by
  have hn : n < l.length := (List.getElem?_eq_some_iff.1 hy).1
  have hle : n * sz + off + us.length ≤ xs.length := by
    rw [h.1]
    have : n * sz + sz ≤ l.length * sz := by
      have := Nat.mul_le_mul_right sz (show n + 1 ≤ l.length from hn)
      rwa [Nat.add_mul, Nat.one_mul] at this
    omega
  refine ⟨by rw [List.length_set, ← h.1]; simp; omega, fun i z hz => ?_⟩
  by_cases hi : i = n
  · subst hi
    rw [List.getElem?_set_self hn] at hz
    cases hz
    obtain ⟨vs, h1, h2, h3⟩ := h.2 i y hy
    refine ⟨_, by simp; omega, hd vs h1 h2, fun j u hu => ?_⟩
    rw [splice_get (by omega)] at hu
    rw [splice_get (by omega)]
    by_cases j1 : j < off
    · rw [if_pos j1] at hu
      rw [if_pos (by omega)]
      exact h3 j u hu
    · rw [if_neg j1] at hu
      rw [if_neg (by omega)]
      by_cases j2 : j < off + us.length
      · rw [if_pos j2] at hu
        rw [if_pos (by omega), show i * sz + j - (i * sz + off) = j - off by omega]
        exact hu
      · rw [if_neg j2] at hu
        rw [if_neg (by omega)]
        exact h3 j u hu
  · rw [List.getElem?_set_ne (fun e => hi e.symm)] at hz
    obtain ⟨vs, h1, h2, h3⟩ := h.2 i z hz
    refine ⟨vs, h1, h2, fun j u hu => ?_⟩
    have hj : j < sz := by rw [← h1]; exact (List.getElem?_eq_some_iff.1 hu).1
    have := h3 j u hu
    rw [splice_get (by omega)]
    rcases Nat.lt_or_gt_of_ne hi with hlt | hgt
    · have : i * sz + sz ≤ n * sz := by
        have := Nat.mul_le_mul_right sz (show i + 1 ≤ n from hlt)
        rwa [Nat.add_mul, Nat.one_mul] at this
      rw [if_pos (by omega)]
      assumption
    · have : n * sz + sz ≤ i * sz := by
        have := Nat.mul_le_mul_right sz (show n + 1 ≤ i from hgt)
        rwa [Nat.add_mul, Nat.one_mul] at this
      rw [if_neg (by omega), if_neg (by omega)]
      assumption
theorem s_store (hr : HR wt Fb w R g) (he : Evs w (Wr Fb R g) R g ρ ev) {T : TypeId} {a x : Operand} (ho : o.op = .store T a x) (h : stepF (tiE P rw) o ev R = some (c, p, us)) (hc : allP c) : StepOk P wt Fb o ρ w R g p us := by
  simp only [stepF, ho] at h
  have ha := he a
  have hx := he x
  split at h
  · rename_i i id off v ht ea ex
    rw [ea] at ha
    rw [ex] at hx
    split at h
    · rename_i cs hcs
      split at h
      · rename_i hcond
        obtain ⟨hl, h1, h2⟩ := hcond
        cases h
        obtain ⟨info, d, zz, i1, i2, i3, i4, i5, rfl⟩ := ti_spec ht
        obtain ⟨b, cs', _, hloc, hv⟩ := ha
        obtain ⟨b', T', vs, j1, j2, j3⟩ := hr.res id _ hcs
        rw [hloc] at j1
        cases j1
        have hq := P1V.cells hx hl
        have hlen : (ρ x).cells.toList.length = v.cells.length := CVs.len hq
        have hvl := CVs.len j3
        have hst := run_storeCells_at P b off T' (ρ x).cells.toList 0 vs.toArray w j2 (by rw [hlen]; simp at *; omega) hq.ones
        refine ⟨.skip, undef, w.setRow b (vs.take (off + 0) ++ (ρ x).cells.toList ++ vs.drop (off + 0 + (ρ x).cells.toList.length)).toArray, g.at' id (some b) (g.tip id), ?_, .inr ⟨rfl, rfl⟩, trivial, ?_⟩
        · have hsz' : (ρ x).cells.size = info.size := by rw [← Array.length_toList, hlen]; exact h1
          simp [execOp, ho, Instr.storeAt, hv, Instr.sureAddr, storeVar, hsz', run_sizeOf' i1, Result.andThen] at hst ⊢
          simp [hst]
        · have hgl : ∀ cur : Array Value, (w.setRow b cur).heap[b]? = some (.cells cur T' (0, 0)) := fun cur => setRow_heap w b _ cur T' _ j2
          refine chg_eff hr hcs (fun b1 e => by cases e; exact ⟨.inl hloc, by simpa using (hr.base id _ b hcs hloc).2⟩) rfl rfl rfl (by simp) (fun b1 hb1 hne => setRow_other w b b1 _ (fun e => hne (by rw [e]; exact hloc))) ?_ ?_ ?_ ?_
          · intro b1 o1 v1 hb1 _ hno
            exact absurd ⟨id, _, hcs, hb1, fun v hv => by cases hv⟩ hno
          · intro b1 o1 e _ _
            cases e
            exact ⟨id, _, hcs, hloc, fun v hv => by cases hv⟩
          · show (g.at' id (some b) (g.tip id)).loc id = g.loc id
            simp [hloc]
          · intro htr
            refine ⟨b, T', _, by simp, by rw [hgl], ?_⟩
            have := CVs.mono htr (j3.splice hq off)
            simpa using this
      · cases h
    · cases h
  · rename_i i e T0 id ver m off v ht ea ex
    rw [ea] at ha
    rw [ex] at hx
    split at h
    · rename_i e1 l TT ver' hcs
      split at h
      · rename_i hcond
        obtain ⟨rfl, rfl, hl, h1, h2⟩ := hcond
        simp only [Option.map_eq_some_iff] at h
        obtain ⟨y, hy, h⟩ := h
        cases h
        obtain ⟨info, d, zz, i1, i2, i3, i4, i5, rfl⟩ := ti_spec ht
        obtain ⟨l', v', q1, q2, _, q4⟩ := ha
        rw [hcs] at q1
        cases q1
        obtain ⟨hm, b, hloc, hv⟩ := q4 rfl
        obtain ⟨xs, hrow, hfr⟩ := hr.res id _ hcs
        have hq := P1V.cells hx hl
        have hlen : (ρ x).cells.toList.length = v.cells.length := CVs.len hq
        have h1' : v.cells.length = info.size := h1
        have hcz : (ρ x).cells.size = v.cells.length := by simpa using hlen
        have h2' : off + info.size ≤ e.sz := h2
        have hrV := rowV_some (n := List.length l) hloc
        have hrow0 := hrow
        rw [hrV] at hrow
        rcases hrow.2 with ⟨hn, _⟩ | ⟨gb, cap, cur, hv0, j1, j2, j3, j4, j5, j6⟩
        · cases hn
        simp only [Value.slice.injEq, Option.some.injEq, Addr.mk.injEq, and_true, true_and] at hv0
        obtain ⟨rfl, rfl⟩ := hv0
        have hmul : m * e.sz + e.sz ≤ List.length l * e.sz := by
          have := Nat.mul_le_mul_right e.sz (show m + 1 ≤ List.length l from hm)
          rwa [Nat.add_mul, Nat.one_mul] at this
        have hcap : List.length l * e.sz ≤ cur.size := by rw [j5]; exact Nat.mul_le_mul_right _ j3
        have hst := run_storeCells_at P b (m * e.sz + off) T0 (ρ x).cells.toList 0 cur w j2 (by rw [hlen]; omega) hq.ones
        have hxl : xs.length = List.length l * e.sz := hrow.1
        refine ⟨.skip, undef, w.setRow b (cur.toList.take (m * e.sz + off + 0) ++ (ρ x).cells.toList ++ cur.toList.drop (m * e.sz + off + 0 + (ρ x).cells.toList.length)).toArray, g.at' id (some b) (g.tip id), ?_, .inr ⟨rfl, rfl⟩, trivial, ?_⟩
        · have hsz' : (ρ x).cells.size = info.size := by rw [← Array.length_toList, hlen]; exact h1
          simp [execOp, ho, Instr.storeAt, hv, Instr.sureAddr, storeVar, hsz', run_sizeOf' i1, Result.andThen] at hst ⊢
          simp [hst]
        · have hgl : ∀ cur' : Array Value, (w.setRow b cur').heap[b]? = some (.cells cur' T0 (0, 0)) := fun cur' => setRow_heap w b _ cur' T0 _ j2
          refine chg_eff hr hcs (fun b1 e => by cases e; exact ⟨.inl hloc, by simpa using (hr.base id _ b hcs hloc).2⟩) rfl rfl rfl (by simp) (fun b1 hb1 hne => setRow_other w b b1 _ (fun e => hne (by rw [e]; exact hloc))) ?_ ?_ ?_ ?_
          · intro b1 o1 v1 hb1 _ hno
            exact absurd ⟨id, _, hcs, hb1, fun v hv => by cases hv⟩ hno
          · intro b1 o1 e _ _
            cases e
            exact ⟨id, _, hcs, hloc, fun v hv => by cases hv⟩
          · exact ⟨rfl, rfl, Nat.le_refl _, fun _ => ⟨by simp, by simp [hloc], by simp⟩⟩
          · intro htr
            have hgm : l[m]? = some (l.getD m e.dflt) := by rw [List.getD_eq_getElem?_getD, List.getElem?_eq_getElem hm]; rfl
            refine ⟨xs.take (m * e.sz + off) ++ (ρ x).cells.toList ++ xs.drop (m * e.sz + off + (ρ x).cells.toList.length), ?_, ?_⟩
            · have hrV' : rowV (g.at' id (some b) (g.tip id)) id (List.length (l.set m y)) = .slice (some ⟨b, 0, none⟩) (List.length l) (g.tip id) := by
                unfold rowV; simp
              rw [hrV']
              refine ⟨by simp; omega, .inr ⟨b, g.tip id, _, by simp, Nat.zero_le _, hgl _, by simpa using j3, j4, by simp; omega, ?_⟩⟩
              rw [List.length_set, ← j6]
              apply List.ext_getElem?
              intro p
              rw [List.getElem?_take]
              simp only [Nat.add_zero]
              have hcl : cur.toList.length = cur.size := by simp
              rw [splice_get (by omega), splice_get (by rw [List.length_take]; omega)]
              simp only [List.getElem?_take]
              by_cases p0 : p < List.length l * e.sz
              · simp only [if_pos p0]
              · rw [if_neg p0, if_neg (by omega), if_neg (by omega), if_neg p0]
            · refine FR.put (y := l.getD m e.dflt) (hfr.mono fun x vs h => DV.mono htr.kp h) hgm (by omega) fun vs hvl hvd => ?_
              have hsp := CVs.splice (DV.flat (R := up [(id, .row e (l.set m y) T0 ver)] R) (g := g.at' id (some b) (g.tip id)) hvd) (CVs.mono htr hq) off
              exact unflat_sound hy hsp
      · cases h
    · cases h
  · cases h
end Go.Proofs.YtpmnhbjbkoackaaDoor.En
