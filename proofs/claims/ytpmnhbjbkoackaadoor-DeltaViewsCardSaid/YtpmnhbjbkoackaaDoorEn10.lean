/- The plain run of a body: regions in the text's order, branches, loops; it tells what the model's run comes to. -/
import Derived.Test.YtpmnhbjbkoackaaDoorEn9
import Derived.Orders
namespace Go.Proofs.YtpmnhbjbkoackaaDoor.En
open Go Go.RowKit
set_option linter.unusedVariables false
set_option linter.unusedSimpArgs false
variable {P : Program} {wt : World} {Fb : Nat → Nat → Prop} {w w' : World} {R R' : Nat → Option Res} {g g' : Gh} {o : Oper} {ρ : Operand → Value} {ev : Operand → PVal} {c : List Cnd} {p : PVal} {us : List (Nat × Res)}

inductive PE where
  | normal
  | exit (id : Nat)
  | ret
  | pan (v : Value)
def dstOk (n : Nat) (d : Option Nat) : Prop := ∀ t, d = some t → t < n
/-- The function that an operand names, if it is a plain one. -/
def fnOf : PVal → Option FuncId
  | .p (.one (.lit (.func (.func f) ⟨[]⟩ ⟨[]⟩))) => some f
  | _ => none
/-- One operation of a region. -/
def PO (P : Program) (E : EnvT) (GL : World → Prop) (o : Oper) (S : St) (K : St → Prop) (Q : PE → St → Prop) : Prop :=
  match o.op with
  | .call cl => match cl.callee with
    | .value f => match fnOf (S.ev f) with
      | some fid => ∃ out us T, CallR P GL fid (cl.args.toList.map S.ev) S.R out us T ∧ (∃ fn, P.funcs[fid]? = some fn ∧ fn.body.isSome = true ∧ (fn.name == "runtime.NumGoroutine") = false) ∧ dstOk S.n o.dst ∧
          (match out with
          | .ret p => K (S.put o.dst p us)
          | .pan v => Q (.pan v) (S.put none p0 us))
      | none => False
    | _ => match stepF E o S.ev S.R with
      | some (c, p, us) => allP c ∧ dstOk S.n o.dst ∧ K (S.put o.dst p us)
      | none => False
  | .panic x => match S.ev x with
    | .p (.one (.lit (.iface t v))) => Q (.pan (.iface t v)) S
    | _ => False
  | _ => match stepF E o S.ev S.R with
    | some (c, p, us) => allP c ∧ dstOk S.n o.dst ∧ K (S.put o.dst p us)
    | none => False
where p0 : PVal := .p (.one .dead)
def PL (P : Program) (E : EnvT) (GL : World → Prop) (ops : Array Oper) (Q : PE → St → Prop) : List Oper → St → Prop
  | [], S => Q .normal S
  | o :: rest, S => match o.guard with
    | none => PO P E GL o S (PL P E GL ops Q rest) Q
    | some (j, want) => match (ops[j]?).bind (·.dst) with
      | some t => match S.get t with
        | .p (.one (.bool b)) => if b = want then PO P E GL o S (PL P E GL ops Q rest) Q else dstOk S.n o.dst ∧ PL P E GL ops Q rest (S.put o.dst (.tup []) [])
        | .tup [] => dstOk S.n o.dst ∧ PL P E GL ops Q rest (S.put o.dst (.tup []) [])
        | _ => False
      | none => False
/-- The relation of ways to leave. -/
def ERel : PE → Exit → Prop
  | .normal, .normal => True
  | .exit id, .exit id' => id' = id
  | .ret, .ret => True
  | .pan v, .panic ch => ch = [{ v, recovered := false }]
  | _, _ => False
section rel
variable {I : Ini} {S : St} {a : Act} {GL : World → Prop} {E : EnvT}
theorem SR.evs (h : SR wt Fb I S a w g) : Evs w (Wr Fb S.R g) S.R g a.eval S.ev := by
  intro x
  cases x with
  | tmp t =>
    show PV _ _ _ _ (a.tmps.getD t undef) (S.get t)
    unfold St.get
    cases hl : S.tmps.lookup t with
    | none => exact trivial
    | some p => exact h.vals t p hl
  | const v =>
    show CV _ _ _ _ v (ofV v)
    by_cases h1 : v.oneCell' = true
    · exact ofV_sound h1
    · cases v <;> first | (exact absurd rfl h1) | exact trivial
  | global b => exact ⟨rfl, rfl⟩
  | func f => exact ⟨rfl, rfl⟩
theorem later_trans {w1 w2 w3 : World} {g1 g2 g3 : Gh} {id : Nat} {r1 r2 r3 : Res} (h : Res.later w1 w2 g1 g2 id r1 r2) (h' : Res.later w2 w3 g2 g3 id r2 r3) : Res.later w1 w3 g1 g3 id r1 r3 := by
  cases r1 with
  | row e l T a => cases r2 with
    | blk b => exact h.elim
    | tok b => exact h.elim
    | row e2 l2 T2 b => cases r3 with
      | blk c => exact h'.elim
      | tok c => exact h'.elim
      | row e3 l3 T3 c =>
        obtain ⟨a1, a2, a3, a4⟩ := h
        obtain ⟨b1, b2, b3, b4⟩ := h'
        refine ⟨b1.trans a1, b2.trans a2, Nat.le_trans a3 b3, fun e => ?_⟩
        obtain ⟨p1, p2, p3⟩ := a4 (by omega)
        obtain ⟨q1, q2, q3⟩ := b4 (by omega)
        exact ⟨q1.trans p1, q2.trans p2, q3.trans p3⟩
  | blk a => cases r2 with
    | tok b => exact h.elim
    | row _ _ _ _ => exact h.elim
    | blk b => cases r3 with
      | tok c => exact h'.elim
      | row _ _ _ _ => exact h'.elim
      | blk c => exact Eq.trans (show g3.loc id = g2.loc id from h') h
  | tok a => cases r2 with
    | blk b => exact h.elim
    | row _ _ _ _ => exact h.elim
    | tok b => cases r3 with
      | blk c => exact h'.elim
      | row _ _ _ _ => exact h'.elim
      | tok c =>
        obtain ⟨h1, h2⟩ := h
        obtain ⟨k1, k2⟩ := h'
        refine ⟨Nat.le_trans h1 k1, fun e => ?_⟩
        obtain ⟨p1, p2, p3⟩ := h2 (by omega)
        obtain ⟨q1, q2, q3⟩ := k2 (by omega)
        exact ⟨q1.trans p1, q2.trans p2, fun b hb => (q3 b (p1.trans hb)).trans (p3 b hb)⟩
theorem getD_set (a : Array Value) (t t' : Nat) (v : Value) (h : t < a.size) : (a.setIfInBounds t v).getD t' undef = if t' = t then v else a.getD t' undef := by
  by_cases e : t' = t
  · subst e; simp [Array.getD_eq_getD_getElem?, h]
  · rw [if_neg e]
    simp [Array.getD_eq_getD_getElem?, Array.getElem?_setIfInBounds_ne (Ne.symm e)]
/-- Behind an operation. -/
theorem SR.step (h : SR wt Fb I S a w g) {d : Option Nat} {p : PVal} {us : List (Nat × Res)} {v : Value} (hd : dstOk S.n d)
    (hp : PV w' (Wr Fb (up us S.R) g') (up us S.R) g' v p) (he : Eff wt Fb w S.R g w' (up us S.R) g') : SR wt Fb I (S.put d p us) (a.put d v) w' g' := by
  have hR := St.R_put S d p us
  refine ⟨by rw [hR]; exact he.hr, ?_, ?_, ?_, ?_, ?_, ?_⟩
  · cases d <;> simp [Act.put, St.put, h.n]
  · cases d <;> simp [Act.put, h.df]
  · intro t q hq
    rw [hR]
    cases d with
    | none =>
      exact (h.vals t q hq).mono he.tr
    | some t0 =>
      have hlt := hd t0 rfl
      simp only [Act.put]
      rw [getD_set _ _ _ _ (by rw [h.n]; exact hlt)]
      simp only [St.put, List.lookup] at hq
      by_cases e : t = t0
      · subst e
        simp at hq
        subst hq
        rw [if_pos rfl]; exact hp
      · have : (t == t0) = false := by simpa using e
        rw [this] at hq
        rw [if_neg e]
        exact (h.vals t q hq).mono he.tr
  · exact h.fr.trans he.fr (fun b o ho hb => h.sub b o ho hb)
  · intro b o ho hb
    rw [hR] at ho
    exact h.sub b o (he.sub b o ho (Nat.lt_of_lt_of_le hb h.fr.size)) hb
  · intro id r hr
    obtain ⟨r1, h1, h2⟩ := h.lv id r hr
    obtain ⟨r2, h3, h4⟩ := he.tr.live id r1 h1
    exact ⟨r2, by rw [hR]; exact h3, later_trans h2 h4⟩
/-- What stands behind the plain run, as the model's rule wants it. -/
def QL (wt : World) (Fb : Nat → Nat → Prop) (I : Ini) (Q : PE → St → Prop) (e : Exit) (a : Act) (w : World) : Prop :=
  ∃ e' S g, ERel e' e ∧ SR wt Fb I S a w g ∧ Q e' S
theorem args_eval {l : List Operand} (h : Evs w (Wr Fb R g) R g ρ ev) : PVs w (Wr Fb R g) R g (l.map ρ) (l.map ev) := by
  induction l with
  | nil => exact trivial
  | cons x l ih => exact ⟨h x, ih⟩
theorem fnOf_spec {q : PVal} {f : FuncId} (h : fnOf q = some f) : q = .p (.one (.lit (.func (.func f) #[] #[]))) := by
  unfold fnOf at h
  split at h
  · cases h; rfl
  · cases h
theorem PO_sound {K : St → Prop} {K' : Act → World → Prop} {Q : PE → St → Prop} (hE : EnvOk P E) (hGL : GL wt) (h : SR wt Fb I S a w g) (hpo : PO P E GL o S K Q)
    (hK : ∀ S' a' w' g', SR wt Fb I S' a' w' g' → K S' → K' a' w') : o.wp P a w K' (QL wt Fb I Q) := by
  have stepCase : ∀ {c : List Cnd} {p : PVal} {us : List (Nat × Res)}, stepF E o S.ev S.R = some (c, p, us) → allP c → dstOk S.n o.dst → K (S.put o.dst p us) → o.wp P a w K' (QL wt Fb I Q) := by
    intro c p us hs hc hd hk
    obtain ⟨nx, v, w', g', hrun, hnx, hpv, heff⟩ := step_sound h.hr h.evs (stepF_mono hE hs) hc
    have hsr := h.step hd hpv heff
    unfold Oper.wp
    rw [hrun]
    rcases hnx with rfl | ⟨rfl, rfl⟩
    · exact hK _ _ _ _ hsr hk
    · exact hK _ _ _ _ hsr hk
  have other : (match stepF E o S.ev S.R with | some (c, p, us) => allP c ∧ dstOk S.n o.dst ∧ K (S.put o.dst p us) | none => False) → o.wp P a w K' (QL wt Fb I Q) := by
    intro hm
    cases hs : stepF E o S.ev S.R with
    | none => rw [hs] at hm; exact hm.elim
    | some x =>
      obtain ⟨c, p, us⟩ := x
      rw [hs] at hm
      exact stepCase hs hm.1 hm.2.1 hm.2.2
  unfold PO at hpo
  split at hpo
  · rename_i cl ho
    split at hpo
    · rename_i fo hcal
      split at hpo
      · rename_i fid hfn
        obtain ⟨out, us, T, hcall, ⟨fn, hfn1, hfn2, hfn3⟩, hd, hk⟩ := hpo
        have hfv := h.evs fo
        rw [fnOf_spec hfn] at hfv
        have hfv' : a.eval fo = .func (.func fid) #[] #[] := hfv.1
        have hrun : (execOp a.eval o).run P w = .ok (.enter fid (List.toArray (cl.args.toList.map a.eval))) w := by
          have hbn : fn.body.isNone = false := by cases hb : fn.body <;> simp [hb] at hfn2 ⊢
          simp only [execOp, ho, resolve, hcal, Sem.run_bind, Sem.run_pure, Result.andThen, Deferred.ofValue, hfv', invoke, callFunc, run_program, hfn1]
          have hargs : (#[] ++ cl.args.map a.eval) ++ #[] = (List.toArray (cl.args.toList.map a.eval)) := by
            apply Array.ext'; simp
          simp [hfn3, hbn]
          apply Array.ext'; simp
        unfold Oper.wp
        rw [hrun]
        refine (callR_sound hcall wt w Fb g _ hGL h.hr (args_eval h.evs)).mono fun e w' ⟨g', hout, heff⟩ => ?_
        cases out with
        | ret p =>
          obtain ⟨v, rfl, hpv⟩ := hout
          exact hK _ _ _ _ (h.step hd hpv heff) hk
        | pan v =>
          have he : e = .panicked [{ v, recovered := false }] := hout
          subst he
          exact ⟨.pan v, _, g', rfl, h.step (d := none) (p := PO.p0) (v := undef) (fun t e => by cases e) trivial heff, hk⟩
      · exact hpo.elim
    · exact other hpo
  · rename_i x ho
    split at hpo
    · rename_i t v hx
      have hxv := h.evs x
      rw [hx] at hxv
      have hxv' : a.eval x = .iface t v := hxv.1
      unfold Oper.wp
      have hrun : (execOp a.eval o).run P w = .halt (.panic (.iface t v)) w := by simp [execOp, ho, hxv', Instr.panic, Result.andThen]
      rw [hrun]
      exact ⟨.pan (.iface t v), S, g, rfl, h, hpo⟩
    · exact hpo.elim
  · exact other hpo
theorem yielded_of (h : SR wt Fb I S a w g) {ops : Array Oper} {j t : Nat} {b : Bool} (hj : (ops[j]?).bind (·.dst) = some t) (hb : S.get t = .p (.one (.bool b))) : yielded ops a.tmps j = some b := by
  have hv := h.evs (.tmp t)
  have hv' : PV w (Wr Fb S.R g) S.R g (a.tmps.getD t undef) (S.get t) := hv
  rw [hb] at hv'
  have hv2 : a.tmps.getD t undef = .bool b := hv'
  unfold yielded
  rw [hj]
  simp only [Option.bind_some]
  rw [Array.getD_eq_getD_getElem?] at hv2
  cases ht : a.tmps[t]? with
  | none => rw [ht] at hv2; simp [undef] at hv2
  | some u => rw [ht] at hv2; simp at hv2; subst hv2; rfl
theorem yielded_not (h : SR wt Fb I S a w g) {ops : Array Oper} {j t : Nat} (hj : (ops[j]?).bind (·.dst) = some t) (hb : S.get t = .tup []) : yielded ops a.tmps j = none := by
  have hv' : PV w (Wr Fb S.R g) S.R g (a.tmps.getD t undef) (S.get t) := h.evs (.tmp t)
  rw [hb] at hv'
  obtain ⟨vs, hv2, hv3⟩ := hv'
  cases vs with
  | cons => exact hv3.elim
  | nil =>
    unfold yielded
    rw [hj]
    simp only [Option.bind_some]
    rw [Array.getD_eq_getD_getElem?] at hv2
    cases ht : a.tmps[t]? with
    | none => rfl
    | some u => rw [ht] at hv2; simp at hv2; subst hv2; rfl
theorem PL_sound {ops : Array Oper} {Q : PE → St → Prop} (hE : EnvOk P E) (hGL : GL wt) : ∀ (l : List Oper) (S : St) (a : Act) (w : World) (g : Gh), SR wt Fb I S a w g → PL P E GL ops Q l S → wpList P ops (QL wt Fb I Q) l a w
  | [], S, a, w, g, h, hp => ⟨.normal, S, g, trivial, h, hp⟩
  | o :: rest, S, a, w, g, h, hp => by
    have ih := PL_sound (ops := ops) (Q := Q) hE hGL rest
    unfold PL at hp
    unfold wpList
    split at hp
    · rename_i hg
      rw [if_pos (by simp [Region.wanted, hg])]
      exact .inl (PO_sound hE hGL h hp (fun S' a' w' g' h' k => ih S' a' w' g' h' k))
    · rename_i j want hg
      split at hp
      · rename_i t hj
        split at hp
        · rename_i b hb
          have hy := yielded_of h hj hb
          by_cases e : b = want
          · rw [if_pos e] at hp
            rw [if_pos (by simp [Region.wanted, hg, hy, e])]
            exact .inl (PO_sound hE hGL h hp (fun S' a' w' g' h' k => ih S' a' w' g' h' k))
          · rw [if_neg e] at hp
            rw [if_neg (by simp [Region.wanted, hg, hy, e])]
            refine ih _ _ w g ?_ hp.2
            exact h.step hp.1 (us := []) (v := undef) (by rw [up_nil]; exact ⟨[], rfl, trivial⟩) (by rw [up_nil]; exact Eff.refl h.hr)
        · rename_i hb
          have hy := yielded_not h hj hb
          rw [if_neg (by simp [Region.wanted, hg, hy])]
          refine ih _ _ w g ?_ hp.2
          exact h.step hp.1 (us := []) (v := undef) (by rw [up_nil]; exact ⟨[], rfl, trivial⟩) (by rw [up_nil]; exact Eff.refl h.hr)
        · exact hp.elim
      · exact hp.elim
end rel
end Go.Proofs.YtpmnhbjbkoackaaDoor.En
