/- Contracts of library functions and of functions walked by hand, in the words of the plain run. -/
import Derived.Test.YtpmnhbjbkoackaaDoorEn17
namespace Go.Proofs.YtpmnhbjbkoackaaDoor.En
open Go Go.RowKit
set_option linter.unusedVariables false
set_option linter.unusedSimpArgs false
variable {P : Program} {GL : World → Prop} {w w' : World} {W : Nat → Nat → Prop} {R : Nat → Option Res} {g : Gh}
/-- A function that leaves all that was there as it was. -/
theorem Con.below {f : FuncId} {ps : List PVal} {out : PVal} (hGL : ∀ {w w' : World}, GL w → Below w.heap.size w w' → GL w')
    (h : ∀ w (W : Nat → Nat → Prop) g vs, GL w → (∀ b o, W b o → b < w.heap.size) → PVs w W (lk []) g vs ps →
      Calls P f (List.toArray vs) w fun e w' => Below w.heap.size w w' ∧ ∃ v, e = .returned v ∧ PV w' W (lk []) g v out) :
    Con P GL f ps [] (.ret out) [] := by
  intro wt w Fb g vs hG hr hv
  have hW : ∀ b o, Wr Fb (lk []) g b o → b < w.heap.size := by
    rintro b o (hb | ⟨id, r, hr', _⟩)
    · exact hr.fbs b o hb
    · simp [lk] at hr'
  refine (h w _ g vs (hGL hG hr.bel) hW hv).mono ?_
  rintro e w' ⟨bel, v, rfl, hp⟩
  refine ⟨g, ⟨v, rfl, hp⟩, ⟨fun id r h => by simp [lk] at h, fun id _ r _ b h => by simp [lk] at h, fun id r b h => by simp [lk] at h, fun id r b o h => by simp [lk] at h, fun b o hb => Nat.lt_of_lt_of_le (hr.fbs b o hb) bel.size, hr.bel.trans (bel.mono ?_)⟩,
    ⟨fun b o v hc hn => ⟨(bel.cell (World.block_lt_of_cell? w _ hc)).trans hc, hn⟩, fun id r h => by simp [lk] at h⟩,
    ⟨bel.os, bel.tape, bel.output, bel.size, fun b hb _ => bel.block b hb, fun b o v hc _ => (bel.cell (World.block_lt_of_cell? w _ hc)).trans hc⟩,
    fun b o ho _ => ho⟩
  exact hr.bel.size
theorem PVs_nil {vs : List Value} (h : PVs w W R g vs []) : vs = [] := by
  cases vs with
  | nil => rfl
  | cons => exact h.elim
theorem PVs_int {vs : List Value} {k : IntKind} {n : Int} {ps : List PVal} (h : PVs w W R g vs (.p (.one (.int k n)) :: ps)) : ∃ us, vs = .int k n :: us ∧ k.wrap n = n ∧ PVs w W R g us ps := by
  cases vs with
  | nil => exact h.elim
  | cons v us =>
    obtain ⟨⟨e, hw⟩, h2⟩ := h
    subst e
    exact ⟨us, rfl, hw, h2⟩
theorem PVs_bool {vs : List Value} {b : Bool} {ps : List PVal} (h : PVs w W R g vs (.p (.one (.bool b)) :: ps)) : ∃ us, vs = .bool b :: us ∧ PVs w W R g us ps := by
  cases vs with
  | nil => exact h.elim
  | cons v us =>
    obtain ⟨e, h2⟩ := h
    obtain rfl : v = .bool b := e
    exact ⟨us, rfl, h2⟩
theorem PVs_str {vs : List Value} {s : ByteArray} {ps : List PVal} (h : PVs w W R g vs (.p (.one (.str s)) :: ps)) : ∃ us, vs = .string s :: us ∧ lenOk s.size ∧ PVs w W R g us ps := by
  cases vs with
  | nil => exact h.elim
  | cons v us =>
    obtain ⟨⟨e, hw⟩, h2⟩ := h
    subst e
    exact ⟨us, rfl, hw, h2⟩
theorem PVs_lst {vs : List Value} {e : Ty} {l : List e.T} {ps : List PVal} (h : PVs w W R g vs (.p (.one (.lst e l)) :: ps)) : ∃ A c us, vs = .slice A (List.length l) c :: us ∧ List.length l ≤ c ∧ lenOk c ∧ LC w W e.sz (DV w W e) A l ∧ PVs w W R g us ps := by
  cases vs with
  | nil => exact h.elim
  | cons v us =>
    obtain ⟨⟨A, c, e, h1, h2, h3⟩, h4⟩ := h
    cases e
    exact ⟨A, c, us, rfl, h1, h2, h3, h4⟩
/-- A list of strings, as cells. -/
theorem LC_str {A : Option Addr} {l : List ByteArray} (h : LC w W 1 (DV w W .str) A l) : l = [] ∨ ∃ b o, A = some ⟨b, o, none⟩ ∧ ∀ (j : Nat) (x : ByteArray), l[j]? = some x → w.cell? ⟨b, o + j, none⟩ = some (.string x) := by
  rcases h with h | ⟨b, o, rfl, h⟩
  · exact .inl h
  · refine .inr ⟨b, o, rfl, fun j x hx => ?_⟩
    obtain ⟨vs, h1, h2, h3⟩ := h j x hx
    obtain ⟨rfl, _⟩ := h2
    have := (h3 0 (.string x) rfl).1
    simpa using this
/-- A fresh block of strings reads as a list. -/
theorem LC_fresh {B : Nat} {l : List ByteArray} {T : TypeId} {z : Nat × Nat} (hW : ∀ b o, W b o → b < B) (hb : w'.heap[B]? = some (.cells (l.map Value.string).toArray T z)) (hl : ∀ x ∈ l, lenOk x.size) :
    LC w' W 1 (DV w' W .str) (some ⟨B, 0, none⟩) l := by
  refine .inr ⟨B, 0, rfl, fun i x hx => ⟨[.string x], rfl, ⟨rfl, hl x (List.mem_of_getElem? hx)⟩, fun j v hv => ?_⟩⟩
  have hj : j = 0 := by
    cases j with
    | zero => rfl
    | succ j => simp at hv
  subst hj
  simp only [List.getElem?_cons_zero, Option.some.injEq] at hv
  subst hv
  refine ⟨?_, fun h => by have := hW _ _ h; omega⟩
  simp [World.cell?, hb, hx]
end Go.Proofs.YtpmnhbjbkoackaaDoor.En
