/- Each operation of the plain run is what the model makes of it: operations that turn nothing in memory. -/
import Derived.Test.YtpmnhbjbkoackaaDoorEn3
import Derived.Laws.Slices
import Derived.Laws.Small
import Derived.Laws.Pointers
import Derived.Laws.Concat
import Derived.WalkSpells
namespace Go.Proofs.YtpmnhbjbkoackaaDoor.En
open Go Go.RowKit
set_option linter.unusedVariables false
set_option linter.unusedSimpArgs false
variable {P : Program} {rw : Nat → Bool} {wt : World} {Fb : Nat → Nat → Prop} {w w' : World} {R R' : Nat → Option Res} {g g' : Gh} {o : Oper} {ρ : Operand → Value} {ev : Operand → PVal} {c : List Cnd} {p : PVal} {us : List (Nat × Res)}

theorem wrap_wrap (k : IntKind) (n : Int) : k.wrap (k.wrap n) = k.wrap n := by
  cases k <;> simp only [IntKind.wrap, IntKind.bits, IntKind.signed] <;> simp <;> (repeat' split) <;> omega
theorem ofV_sound {W : Nat → Nat → Prop} {v : Value} (h : v.oneCell' = true) : CV w W R g v (ofV v) := by
  cases v <;> simp only [ofV] <;> first | (simp [Value.oneCell'] at h; done) | exact ⟨rfl, rfl⟩ | exact rfl | skip
  · split
    · exact ⟨rfl, by assumption⟩
    · exact ⟨rfl, rfl⟩
  · split
    · exact ⟨rfl, by assumption⟩
    · exact ⟨rfl, rfl⟩
theorem zero_sound {W : Nat → Nat → Prop} : ∀ (vs : List Value), vs.all Value.oneCell' = true → CVs w W R g vs (vs.map ofV)
  | [], _ => trivial
  | v :: vs, h => by
    simp only [List.all_cons, Bool.and_eq_true] at h
    exact ⟨⟨ofV_sound h.1, h.1⟩, zero_sound vs h.2⟩

/-- How operands are related. -/
def Evs (w : World) (W : Nat → Nat → Prop) (R : Nat → Option Res) (g : Gh) (ρ : Operand → Value) (ev : Operand → PVal) : Prop := ∀ x, PV w W R g (ρ x) (ev x)

theorem s_move (hr : HR wt Fb w R g) (he : Evs w (Wr Fb R g) R g ρ ev) {x : Operand} (ho : o.op = .move x ∨ o.op = .assign x) (h : stepF (tiE P rw) o ev R = some (c, p, us)) (hc : allP c) : StepOk P wt Fb o ρ w R g p us := by
  rcases ho with ho | ho <;> (
    simp only [stepF, ho] at h
    cases h
    exact stepOk_pure hr (by simp [execOp, ho]) (he x))
theorem s_pick (hr : HR wt Fb w R g) (he : Evs w (Wr Fb R g) R g ρ ev) {x a b : Operand} (ho : o.op = .pick x a b) (h : stepF (tiE P rw) o ev R = some (c, p, us)) (hc : allP c) : StepOk P wt Fb o ρ w R g p us := by
  simp only [stepF, ho] at h
  have hx := he x
  split at h
  · rename_i t e
    cases h
    rw [e] at hx
    have hx' : ρ x = .bool t := hx
    refine stepOk_pure hr (v := if t = true then ρ a else ρ b) (by simp [execOp, ho, hx', asBool, Result.andThen]) ?_
    split
    · exact he a
    · exact he b
  · cases h
theorem s_nilCheck (hr : HR wt Fb w R g) (he : Evs w (Wr Fb R g) R g ρ ev) {x : Operand} (ho : o.op = .nilCheck x) (h : stepF (tiE P rw) o ev R = some (c, p, us)) (hc : allP c) : StepOk P wt Fb o ρ w R g p us := by
  simp only [stepF, ho] at h
  have hx := he x
  split at h
  · rename_i id off e
    cases h
    rw [e] at hx
    obtain ⟨b, cs, h1, h2, h3⟩ := hx
    exact stepOk_pure hr (v := ρ x) (by simp [execOp, ho, h3]) ⟨b, cs, h1, h2, h3⟩
  · rename_i τ y off e
    cases h
    rw [e] at hx
    obtain ⟨b, o', vs, h1, h2, h3⟩ := hx
    exact stepOk_pure hr (v := ρ x) (by simp [execOp, ho, h1]) ⟨b, o', vs, h1, h2, h3⟩
  · rename_i e T id ver n off ex
    cases h
    rw [ex] at hx
    have hx' := hx
    obtain ⟨l, ver', h1, h2, ⟨ad, h3⟩, h4⟩ := hx
    exact stepOk_pure hr (v := ρ x) (by simp [execOp, ho, h3]) hx'
  · cases h
theorem s_extract (hr : HR wt Fb w R g) (he : Evs w (Wr Fb R g) R g ρ ev) {x : Operand} {i : Nat} (ho : o.op = .extract x i) (h : stepF (tiE P rw) o ev R = some (c, p, us)) (hc : allP c) : StepOk P wt Fb o ρ w R g p us := by
  simp only [stepF, ho] at h
  have hx := he x
  split at h
  · rename_i ps e
    rw [e] at hx
    obtain ⟨vs, h1, h2⟩ := hx
    simp only [Option.map_eq_some_iff] at h
    obtain ⟨q, hq, h⟩ := h
    cases h
    have key : ∀ (vs : List Value) (ps : List P1) (i : Nat) (q : P1), P1Vs w (Wr Fb R g) R g vs ps → ps[i]? = some q → ∃ v, vs[i]? = some v ∧ P1V w (Wr Fb R g) R g v q := by
      intro vs
      induction vs with
      | nil => intro ps i q h hq; cases ps with
        | nil => simp at hq
        | cons => exact h.elim
      | cons v vs ih => intro ps i q h hq; cases ps with
        | nil => exact h.elim
        | cons p ps => cases i with
          | zero => simp at hq; subst hq; exact ⟨v, rfl, h.1⟩
          | succ i => exact ih ps i q h.2 (by simpa using hq)
    obtain ⟨v, hv, hp⟩ := key vs ps i q h2 hq
    exact stepOk_pure hr (v := v) (by simp [execOp, ho, h1, Instr.extract, hv, Result.andThen]) hp
  · cases h
theorem s_unOp (hr : HR wt Fb w R g) (he : Evs w (Wr Fb R g) R g ρ ev) {x : Operand} {op : UnOp} {T : TypeId} (ho : o.op = .unOp op T x) (h : stepF (tiE P rw) o ev R = some (c, p, us)) (hc : allP c) : StepOk P wt Fb o ρ w R g p us := by
  simp only [stepF, ho] at h
  have hx := he x
  split at h
  · rename_i d e
    rw [e] at hx
    simp only [Option.map_eq_some_iff] at h
    obtain ⟨q, hq, h⟩ := h
    cases h
    unfold unF at hq
    split at hq
    · rename_i b
      split at hq
      · cases hq
        have hx' : ρ x = .bool b := hx
        exact stepOk_pure hr (v := .bool (!b)) (by simp [execOp, ho, hx', Op.unary, Result.andThen]) rfl
      · cases hq
    · rename_i k n
      split at hq
      · cases hq
        have hx' : ρ x = .int k n := hx.1
        exact stepOk_pure hr (v := .int k (k.wrap (0 - n))) (by simp [execOp, ho, hx', Op.unary, Op.intArith, Result.andThen]) ⟨by rw [wrapK_eq], by rw [wrapK_eq, wrap_wrap]⟩
      · cases hq
    · cases hq
  · cases h
theorem tmod_wrap {k : IntKind} {a b : Int} (ha : k.wrap a = a) (hb : k.wrap b = b) (h0 : b ≠ 0) : k.wrap (a.tmod b) = a.tmod b := by
  have h1 : (a.tmod b).natAbs ≤ a.natAbs := by
    rw [Int.natAbs_tmod]; exact Nat.mod_le _ _
  have h2 : 0 ≤ a → 0 ≤ a.tmod b := fun h => Int.tmod_nonneg b h
  have h3 : a ≤ 0 → a.tmod b ≤ 0 := fun h => by
    have := Int.tmod_nonneg b (show 0 ≤ -a by omega)
    rw [Int.neg_tmod] at this; omega
  generalize a.tmod b = r at *
  cases k <;> simp only [IntKind.wrap, IntKind.bits, IntKind.signed] at ha ⊢ <;> simp at ha ⊢ <;> (repeat' split at ha) <;> (repeat' split) <;> omega
theorem tdOf_bool {P : Program} {d : TypeDesc} {e : TypeDesc} (h : tdOf P d = .other e) : d = e := by
  unfold tdOf at h
  split at h
  · cases h
  · unfold sliceD at h; split at h
    · split at h <;> cases h; rfl
    · cases h; rfl
  · split at h <;> cases h; rfl
  · split at h
    · split at h <;> cases h; rfl
    · cases h; rfl
  · cases h; rfl
theorem ti_other {T : TypeId} {e : TypeDesc} (h : (ti P T).map (·.d) = some (.other e)) : P.underlying T = some e := by
  simp only [Option.map_eq_some_iff] at h
  obtain ⟨i, hi, h⟩ := h
  obtain ⟨info, d, z, h1, h2, h3, h4, h5, rfl⟩ := ti_spec hi
  rw [h2, tdOf_bool h]
theorem pointee_of {T e : TypeId} (h : P.underlying T = some (.pointer e)) : P.underlying T = some (.pointer (P.pointee T)) := by
  simp [Program.pointee, h]
theorem guard_one {op : BinOp} {T : TypeId} {x y : Operand} {a b : Value} (h : ∀ u v, ¬ (a = .agg u ∧ b = .agg v)) (h' : ¬ (a = .nilIface ∧ b = .nilIface)) : (eqGuard op T x y a b).run P w = .ok () w := by
  unfold eqGuard
  split
  · rw [if_neg (by simp)]
    split
    · exact absurd ⟨rfl, rfl⟩ h'
    · exact absurd ⟨rfl, rfl⟩ (h _ _)
    · rfl
  · rw [if_neg (by simp)]
    split
    · exact absurd ⟨rfl, rfl⟩ h'
    · exact absurd ⟨rfl, rfl⟩ (h _ _)
    · rfl
  · rfl
theorem s_binOp (hr : HR wt Fb w R g) (he : Evs w (Wr Fb R g) R g ρ ev) {x y : Operand} {op : BinOp} {T T' : TypeId} (ho : o.op = .binOp op T x y T') (h : stepF (tiE P rw) o ev R = some (c, p, us)) (hc : allP c) : StepOk P wt Fb o ρ w R g p us := by
  simp only [stepF, ho] at h
  have hx := he x
  have hy := he y
  split at h
  · rename_i d e ex ey
    rw [ex] at hx
    rw [ey] at hy
    simp only [Option.map_eq_some_iff] at h
    obtain ⟨⟨c', q⟩, hq, h⟩ := h
    cases h
    have fin : ∀ {v : Value}, (∀ u v, ¬ (ρ x = .agg u ∧ ρ y = .agg v)) → ¬ (ρ x = .nilIface ∧ ρ y = .nilIface) → (binOp op T (ρ x) (ρ y)).run P w = .ok v w → CV w (Wr Fb R g) R g v q → StepOk P wt Fb o ρ w R g (.p (.one q)) [] := by
      intro v h1 h2 hrun hv
      exact stepOk_pure hr (v := v) (by simp [execOp, ho, guard_one h1 h2, hrun, Result.andThen]) hv
    unfold binF at hq
    split at hq
    · rename_i k a k' b
      split at hq
      · rename_i ek
        subst ek
        have hx' : ρ x = .int k a := hx.1
        have hy' : ρ y = .int k b := hy.1
        have f1 : ∀ {v : Value}, (binOp op T (.int k a) (.int k b)).run P w = .ok v w → CV w (Wr Fb R g) R g v q → StepOk P wt Fb o ρ w R g (.p (.one q)) [] :=
          fun h1 h2 => fin (by simp [hx']) (by simp [hx']) (by rw [hx', hy']; exact h1) h2
        split at hq <;> (try cases hq)
        · exact f1 (v := .int k (k.wrap (a + b))) (by simp [binOp, Op.intArith]) ⟨by rw [wrapK_eq], by rw [wrapK_eq, wrap_wrap]⟩
        · exact f1 (v := .int k (k.wrap (a - b))) (by simp [binOp, Op.intArith]) ⟨by rw [wrapK_eq], by rw [wrapK_eq, wrap_wrap]⟩
        · exact f1 (v := .int k (k.wrap (a * b))) (by simp [binOp, Op.intArith]) ⟨by rw [wrapK_eq], by rw [wrapK_eq, wrap_wrap]⟩
        · have h0 : ¬ b = 0 := hc.1
          exact f1 (v := .int k (k.wrap (a.tdiv b))) (by simp [binOp, Op.intDiv, h0]) ⟨by rw [wrapK_eq], by rw [wrapK_eq, wrap_wrap]⟩
        · have h0 : ¬ b = 0 := hc.1
          exact f1 (v := .int k (a.tmod b)) (by simp [binOp, Op.intDiv, h0]) ⟨rfl, tmod_wrap hx.2 hy.2 h0⟩
        all_goals exact f1 (by simp [binOp, Op.intCmp] <;> rfl) rfl
      · cases hq
    · rename_i a b
      have hx' : ρ x = .bool a := hx
      have hy' : ρ y = .bool b := hy
      split at hq <;> (try cases hq)
      · rename_i hd
        exact fin (by simp [hx']) (by simp [hx']) (by rw [hx', hy']; simp [binOp, run_equal_bool w T a b (ti_other hd), Result.andThen] <;> rfl) rfl
      · rename_i hd
        exact fin (by simp [hx']) (by simp [hx']) (by rw [hx', hy']; simp [binOp, run_equal_bool w T a b (ti_other hd), Result.andThen] <;> rfl) rfl
    · rename_i a b
      have hx' : ρ x = .string a := hx.1
      have hy' : ρ y = .string b := hy.1
      split at hq <;> (try cases hq)
      · refine fin (by simp [hx']) (by simp [hx']) (by rw [hx', hy']; exact run_string_add_sum w a b hc.1) ⟨rfl, ?_⟩
        simp [lenOk]; exact hc.1
      all_goals exact fin (by simp [hx']) (by simp [hx']) (by rw [hx', hy']; simp [binOp, Op.stringOp] <;> rfl) rfl
    · rename_i id off
      obtain ⟨b, cs, h1, h2, hx'⟩ := hx
      have hy' : ρ y = .pointer none := hy.1
      split at hq <;> (try cases hq)
      · rename_i hd
        refine fin (by simp [hx']) (by simp [hx']) (by rw [hx', hy']; exact run_eql_pointer_nil w T _ (pointee_of (ti_other hd))) rfl
      · rename_i hd
        refine fin (by simp [hx']) (by simp [hx']) (by rw [hx', hy']; exact run_neq_pointer_nil w T _ (pointee_of (ti_other hd))) rfl
    · have hx' : ρ x = .pointer none := hx.1
      have hy' : ρ y = .pointer none := hy.1
      split at hq <;> (try cases hq)
      · rename_i hd
        refine fin (by simp [hx']) (by simp [hx']) (by rw [hx', hy']; exact run_eql_pointer_nil w T _ (pointee_of (ti_other hd))) rfl
      · rename_i hd
        refine fin (by simp [hx']) (by simp [hx']) (by rw [hx', hy']; exact run_neq_pointer_nil w T _ (pointee_of (ti_other hd))) rfl
    · cases hq
  · cases h
end Go.Proofs.YtpmnhbjbkoackaaDoor.En
