/- How an argument of any of the told kinds is read out of the row's own reading: plain lemmas over the kit's reading of data. -/
import Derived.ProofKit
import Derived.OpenShut
import Derived.ChangeSame
import Derived.SizedLaws
import Derived.Handed
import Derived.Stop.Joined
import Derived.LaidLaws
import Derived.Deep.Slices
import Derived.Below
import Derived.Test.YtpmnhbjbkoackaaDoorWWords
import Derived.Test.YtpmnhbjbkoackaaDoorWMore
namespace Go.Proofs.YtpmnhbjbkoackaaDoor
open Go Go.RowKit Go.WideShapes Go.Proofs.YtpmnhbjbkoackaaDoorW.PrintWords
section wrap
variable {H : Type} {enc : TypeId × Value → H}
/-- The wrap that hands on the reach, the listed variables and the world's shape. -/
theorem wrap_all {a : Assume} {C : Checked} {os : Os} {f : FuncId} {fn : Func} {s : ChangeSpec} {conds : List PathCond} {apart fresh handsOn again : Bool} {laid : List (String × DataW Unit)}
    (own : ownKnob C.prog.godebug = none) (started : os.Started) (noInit : C.prog.inits.idxOf? f = none) (hfn : C.prog.funcs[f]? = some fn)
    (witness : ∃ (w : World) (tape : Tape) (i : Input), w.os = os ∧ (w.forCall tape i).Shaped C.prog ∧ i.vars = [] ∧ Input.okWide C.prog (w.forCall tape i) .any w.heap.size f i ∧
      ((s.pre enc C.prog fn conds apart (w.forCall tape i).memory i.args ∧ laidMetH C.prog laid (w.forCall tape i).memory) ∧ sizedMet enc C.prog fn (OpenSpec.ofChange s) apart (w.forCall tape i).memory i.args) ∧ a.holds C.prog (lone (Frame.enter C.prog f i.args .normal) [] (w.forCall tape i)))
    (contract : ∀ (W : World) (base : Nat) (args : Array Value) (ds gs : List (DataW H)) (before : List MemPlace),
      (∀ (j : Nat) t v, fn.params[j]? = some t → args[j]? = some v → Value.okWide C.prog W .any base t v) →
      DataW.Whole enc C.prog fn.params.toList s.vars apart W args.toList ds gs before →
      (DataW.weightsEach C.prog (fn.params.toList ++ s.plain.varTypes C.prog) (ds ++ gs)).all (· ≤ reachBytes) = true → laidMetH C.prog laid W → W.ShapedOpen C.prog →
      Calls C.prog f args W fun e W' => ∃ v, e = .returned v ∧ s.post enc C.prog fn apart fresh handsOn again W args v W') :
    ReturnsInHanded a C os f .any (fun w args => (s.pre enc C.prog fn conds apart w args ∧ laidMetH C.prog laid w) ∧ sizedMet enc C.prog fn (OpenSpec.ofChange s) apart w args) (s.post enc C.prog fn apart fresh handsOn again) := by
  refine returnsInHanded_of_calls own started noInit witness ?_
  intro w tape i _ hsh _ hok hpre hholds
  obtain ⟨_, _, _, fn', hfn', _, _, _, _, hval⟩ := hok
  have e : fn' = fn := Option.some.inj (hfn'.symm.trans hfn)
  subst e
  obtain ⟨⟨⟨ds, gs, before, hw, hc⟩, hx⟩, hz⟩ := hpre
  have hw' := DataW.Whole.of_heap (w' := w.forCall tape i) (by rfl) hw
  refine (contract (w.forCall tape i) w.heap.size i.args ds gs before hval hw' (hz.weights hw) (laidMetH.of_heap (by rfl) hx) hsh).mono fun e W' ⟨v, he, hp⟩ => ?_
  subst he
  exact ChangeSpec.post_blind hp
end wrap
section read
variable {H : Type} {enc : TypeId × Value → H} {P : Program} {w : World} {spare : Nat → Bool} {held : Bool}
/-- Cells of type t that read as data are cells of the kind d; Wf: what is known of the value. -/
def RdK {α : Type} (P : Program) (t : TypeId) (d : Kd α) (Wf : α → Prop) : Prop :=
  ∀ (H : Type) (enc : TypeId × Value → H) (w : World) (spare : Nat → Bool) (held : Bool) (fuel : Nat) (cs : List Value) (y : DataW H × List MemPlace), DataW.trod enc P w 0 spare held fuel t cs = some y → ∃ x, d.K w x cs ∧ Wf x
theorem rd_int {t : TypeId} {k : IntKind} (ht : P.underlying t = some (.int k)) : RdK P t (Kd.int k) (fun x => (Lit.int k x).wf = true) := fun H enc w spare held fuel cs y h => by
  obtain ⟨n, rfl, _, hw⟩ := DataW.trod_int ht h
  exact ⟨n, rfl, hw⟩
theorem rd_bool {t : TypeId} (ht : P.underlying t = some .bool) : RdK P t Kd.bool (fun _ => True) := fun H enc w spare held fuel cs y h => by
  obtain ⟨b, rfl, _⟩ := DataW.trod_bool ht h
  exact ⟨b, rfl, trivial⟩
theorem rd_string {t : TypeId} (ht : P.underlying t = some .string) : RdK P t Kd.string (fun s => s.size ≤ maxLen) := fun H enc w spare held fuel cs y h => by
  obtain ⟨s, rfl, _, hs⟩ := DataW.trod_string ht h
  exact ⟨s, rfl, hs⟩
theorem choose_upto {α : Type} {n : Nat} {p : Nat → α → Prop} (h : ∀ i, i < n → ∃ a, p i a) : ∃ l : List α, l.length = n ∧ ∀ i a, l[i]? = some a → p i a := by
  induction n with
  | zero => exact ⟨[], rfl, fun i a h => by simp at h⟩
  | succ n ih =>
    obtain ⟨l, hl, hp⟩ := ih fun i hi => h i (by omega)
    obtain ⟨a, ha⟩ := h n (by omega)
    refine ⟨l ++ [a], by simp [hl], fun i b hb => ?_⟩
    by_cases hi : i < n
    · rw [List.getElem?_append_left (by omega)] at hb; exact hp i b hb
    · rw [List.getElem?_append_right (by omega)] at hb
      have : i - l.length = 0 := by
        by_cases h0 : i - l.length = 0
        · exact h0
        · rw [List.getElem?_eq_none (by simp; omega)] at hb; cases hb
      rw [this] at hb
      obtain rfl : i = n := by omega
      simpa using (by simpa using hb : a = b) ▸ ha
theorem rd_slice {α : Type} {t e : TypeId} {d : Kd α} {Wf : α → Prop} (ht : P.underlying t = some (.slice e)) (hd : RdK P e d Wf) (hc : P.cellsOf e = d.sz) :
    RdK P t (Kd.slice e d) (fun l => l.length ≤ maxLen ∧ ∀ x ∈ l, Wf x) := fun H enc w spare held fuel cs y h => by
  rcases Go.Deep.open_slice ht h with ⟨rfl, _⟩ | ⟨a, len, cap, m, n, D, Pl, rfl, _, hl, hm, hmm, _, hx⟩
  · exact ⟨[], ⟨none, 0, rfl, Nat.le_refl _, rfl, by simp, fun h => by simp at h⟩, by simp, fun x hx => by cases hx⟩
  · have hlm : len ≤ m := by rw [hmm]; split <;> omega
    obtain ⟨l, hlen, hp⟩ := choose_upto (n := len) (p := fun i x => ∃ cs', w.cells? 0 (a.add (i * d.sz)) d.sz = some cs' ∧ d.K w x cs' ∧ Wf x) (fun i hi => by
      obtain ⟨cs', h1, h2⟩ := hx i (by omega)
      obtain ⟨x, hk, hw⟩ := hd H enc w spare held n cs' _ h2
      rw [hc] at h1
      exact ⟨x, cs', h1, hk, hw⟩)
    refine ⟨l, ⟨some a, cap, by rw [hlen], by omega, rfl, by unfold maxLen at hm; omega, fun _ => ⟨a, rfl, fun j p hj => ?_⟩⟩, by omega, fun x hx => ?_⟩
    · obtain ⟨cs', h1, hk, _⟩ := hp j p hj
      refine ⟨cs', d.K_len hk, hk, fun i u hu => ?_⟩
      obtain ⟨_, hlen', hcell⟩ := World.cells?_some h1
      have hi : i < cs'.length := by
        by_cases hi : i < cs'.length
        · exact hi
        · rw [List.getElem?_eq_none (by omega)] at hu; cases hu
      have := hcell i (by rw [← d.K_len hk]; exact hi)
      rw [Addr.add_add] at this
      rw [this]; exact hu
    · obtain ⟨i, hi⟩ := List.getElem?_of_mem hx
      obtain ⟨_, _, _, hw⟩ := hp i x hi
      exact hw
/-- A slice as a parameter. -/
theorem par_slice {α : Type} {t e : TypeId} {d : Kd α} {Wf : α → Prop} {r : Reach} {b0 : Nat} {v : Value} {D : DataW H} {p : List MemPlace} (ht : P.underlying t = some (.slice e)) (hd : RdK P e d Wf) (hc : P.cellsOf e = d.sz)
    (hv : Value.okWide P w r b0 t v) (h : DataW.Trod enc P w 0 spare held t v D p) :
    ∃ (A : Option Addr) (l : List α) (c : Nat), v = .slice A l.length c ∧ l.length ≤ c ∧ d.C w A l.length l ∧ l.length ≤ maxLen ∧ ∀ x ∈ l, Wf x := by
  obtain ⟨a, len, cap, rfl⟩ := okWide_slice ht hv
  obtain ⟨fuel, hf⟩ := h
  obtain ⟨l, ⟨A, c, e1, h1, h2⟩, h3⟩ := rd_slice ht hd hc H enc w spare held fuel _ _ hf
  simp [Value.cells] at e1
  obtain ⟨rfl, rfl, rfl⟩ := e1
  exact ⟨a, l, cap, rfl, h1, h2, h3⟩
theorem par_int {t : TypeId} {k : IntKind} {r : Reach} {b0 : Nat} {v : Value} {D : DataW H} {p : List MemPlace} (ht : P.underlying t = some (.int k)) (hv : Value.okWide P w r b0 t v) (h : DataW.Trod enc P w 0 spare held t v D p) :
    ∃ n, v = .int k n ∧ (Lit.int k n).wf = true := by
  obtain ⟨n, e, _, _, hw⟩ := Go.ChangeShapes.open_int ht hv h
  exact ⟨n, e, hw⟩
theorem par_bool {t : TypeId} {r : Reach} {b0 : Nat} {v : Value} {D : DataW H} {p : List MemPlace} (ht : P.underlying t = some .bool) (hv : Value.okWide P w r b0 t v) (h : DataW.Trod enc P w 0 spare held t v D p) :
    ∃ b, v = .bool b := by
  obtain ⟨n, e, _⟩ := open_bool ht hv h
  exact ⟨n, e⟩
theorem par_string {t : TypeId} {r : Reach} {b0 : Nat} {v : Value} {D : DataW H} {p : List MemPlace} (ht : P.underlying t = some .string) (hv : Value.okWide P w r b0 t v) (h : DataW.Trod enc P w 0 spare held t v D p) :
    ∃ s, v = .string s ∧ D = .lit (.string s.data.toList) ∧ s.size ≤ maxLen := by
  obtain ⟨s, e, e2, _, hs⟩ := Go.ChangeMaps.open_string ht hv h
  exact ⟨s, e, e2, hs⟩
/-- An array of two whole numbers, or a value of whatever type whose cells are known to be two. -/
theorem par_arr2 {t e : TypeId} {k : IntKind} {b0 : Nat} {v : Value} {D : DataW H} {p : List MemPlace} (ht : P.underlying t = some (.array 2 e)) (he : P.underlying e = some (.int k)) (hce : P.cellsOf e = 1) (hct : P.cellsOf t = 2)
    (hv : Value.okWide P w .any b0 t v) (h : DataW.Trod enc P w 0 spare held t v D p) : ∃ x0 x1, v = .agg #[.int k x0, .int k x1] ∧ (Lit.int k x0).wf = true ∧ (Lit.int k x1).wf = true := by
  obtain ⟨cs, rfl, hsz⟩ : ∃ cs : Array Value, v = .agg cs ∧ cs.size = P.cellsOf t := by
    have := hv
    simp only [Value.okWide, ht] at this
    obtain ⟨cs, h1, h2, _⟩ := this
    exact ⟨cs, h1, h2⟩
  rw [hct] at hsz
  obtain ⟨l⟩ := cs
  match l, hsz with
  | [c0, c1], _ =>
    obtain ⟨fuel, hf⟩ := h
    obtain ⟨xs, m, _, _, _, hl, hel⟩ := DataW.trod_array ht hf
    have h0 := hel 0 (by omega)
    have h1 := hel 1 (by omega)
    obtain ⟨y0, hy0⟩ : ∃ y0, xs[0]? = some y0 := ⟨xs[0]'(by omega), List.getElem?_eq_getElem (by omega)⟩
    obtain ⟨y1, hy1⟩ : ∃ y1, xs[1]? = some y1 := ⟨xs[1]'(by omega), List.getElem?_eq_getElem (by omega)⟩
    rw [hce, hy0] at h0
    rw [hce, hy1] at h1
    obtain ⟨n0, e0, _, w0⟩ := DataW.trod_int he h0
    obtain ⟨n1, e1, _, w1⟩ := DataW.trod_int he h1
    simp [Value.cells] at e0 e1
    subst e0 e1
    exact ⟨n0, n1, rfl, w0, w1⟩
/-- A struct of two whole numbers. -/
theorem par_st2 {t : TypeId} {f0 f1 : Field} {k0 k1 : IntKind} {b0 : Nat} {v : Value} {D : DataW H} {p : List MemPlace} (ht : P.underlying t = some (.struct #[f0, f1])) (h0 : P.underlying f0.type = some (.int k0)) (h1 : P.underlying f1.type = some (.int k1))
    (c0 : P.cellsOf f0.type = 1) (c1 : P.cellsOf f1.type = 1) (o0 : f0.offset = 0) (o1 : f1.offset = 1) (hct : P.cellsOf t = 2)
    (hv : Value.okWide P w .any b0 t v) (h : DataW.Trod enc P w 0 spare held t v D p) : ∃ x0 x1, v = .agg #[.int k0 x0, .int k1 x1] ∧ (Lit.int k0 x0).wf = true ∧ (Lit.int k1 x1).wf = true := by
  obtain ⟨cs, rfl, hsz⟩ : ∃ cs : Array Value, v = .agg cs ∧ cs.size = P.cellsOf t := by
    have := hv
    simp only [Value.okWide, ht] at this
    obtain ⟨cs, h1, h2, _⟩ := this
    exact ⟨cs, h1, h2⟩
  rw [hct] at hsz
  obtain ⟨l⟩ := cs
  match l, hsz with
  | [a0, a1], _ =>
    obtain ⟨fuel, hf⟩ := h
    obtain ⟨y0, y1, n, _, _, g0, g1⟩ := Go.ChangeShapes.trod_struct2 ht hf
    rw [c0, o0] at g0
    rw [c1, o1] at g1
    obtain ⟨n0, e0, _, w0⟩ := DataW.trod_int h0 g0
    obtain ⟨n1, e1, _, w1⟩ := DataW.trod_int h1 g1
    simp [Value.cells] at e0 e1
    subst e0 e1
    exact ⟨n0, n1, rfl, w0, w1⟩
/-- A struct of three whole numbers and a slice. -/
theorem par_st3s {α : Type} {t e : TypeId} {d : Kd α} {Wf : α → Prop} {f0 f1 f2 f3 : Field} {k0 k1 k2 : IntKind} {b0 : Nat} {v : Value} {D : DataW H} {p : List MemPlace} (ht : P.underlying t = some (.struct #[f0, f1, f2, f3]))
    (h0 : P.underlying f0.type = some (.int k0)) (h1 : P.underlying f1.type = some (.int k1)) (h2 : P.underlying f2.type = some (.int k2)) (h3 : P.underlying f3.type = some (.slice e)) (hd : RdK P e d Wf) (hc : P.cellsOf e = d.sz)
    (c0 : P.cellsOf f0.type = 1) (c1 : P.cellsOf f1.type = 1) (c2 : P.cellsOf f2.type = 1) (c3 : P.cellsOf f3.type = 1) (o0 : f0.offset = 0) (o1 : f1.offset = 1) (o2 : f2.offset = 2) (o3 : f3.offset = 3) (hct : P.cellsOf t = 4)
    (hv : Value.okWide P w .any b0 t v) (h : DataW.Trod enc P w 0 spare held t v D p) :
    ∃ x0 x1 x2, ∃ (A : Option Addr) (l : List α) (c : Nat), v = .agg #[.int k0 x0, .int k1 x1, .int k2 x2, .slice A l.length c] ∧ (Lit.int k0 x0).wf = true ∧ (Lit.int k1 x1).wf = true ∧ (Lit.int k2 x2).wf = true ∧ l.length ≤ c ∧ d.C w A l.length l ∧ l.length ≤ maxLen ∧ ∀ x ∈ l, Wf x := by
  obtain ⟨cs, rfl, hsz⟩ : ∃ cs : Array Value, v = .agg cs ∧ cs.size = P.cellsOf t := by
    have := hv
    simp only [Value.okWide, ht] at this
    obtain ⟨cs, h1, h2, _⟩ := this
    exact ⟨cs, h1, h2⟩
  rw [hct] at hsz
  obtain ⟨l⟩ := cs
  match l, hsz with
  | [a0, a1, a2, a3], _ =>
    obtain ⟨fuel, hf⟩ := h
    obtain ⟨xs, n, _, _, _, hlen, hfs⟩ := DataW.trod_struct ht hf
    obtain ⟨y0, hy0⟩ : ∃ y, xs[0]? = some y := ⟨xs[0]'(by simp at hlen; omega), List.getElem?_eq_getElem (by simp at hlen; omega)⟩
    obtain ⟨y1, hy1⟩ : ∃ y, xs[1]? = some y := ⟨xs[1]'(by simp at hlen; omega), List.getElem?_eq_getElem (by simp at hlen; omega)⟩
    obtain ⟨y2, hy2⟩ : ∃ y, xs[2]? = some y := ⟨xs[2]'(by simp at hlen; omega), List.getElem?_eq_getElem (by simp at hlen; omega)⟩
    obtain ⟨y3, hy3⟩ : ∃ y, xs[3]? = some y := ⟨xs[3]'(by simp at hlen; omega), List.getElem?_eq_getElem (by simp at hlen; omega)⟩
    have g0 := hfs 0 f0 rfl
    have g1 := hfs 1 f1 rfl
    have g2 := hfs 2 f2 rfl
    have g3 := hfs 3 f3 rfl
    rw [hy0, c0, o0] at g0
    rw [hy1, c1, o1] at g1
    rw [hy2, c2, o2] at g2
    rw [hy3, c3, o3] at g3
    obtain ⟨n0, e0, _, w0⟩ := DataW.trod_int h0 g0
    obtain ⟨n1, e1, _, w1⟩ := DataW.trod_int h1 g1
    obtain ⟨n2, e2, _, w2⟩ := DataW.trod_int h2 g2
    obtain ⟨l, ⟨A, c, e3, q1, q2⟩, q3⟩ := rd_slice h3 hd hc H enc w spare held n _ _ g3
    simp [Value.cells] at e0 e1 e2 e3
    subst e0 e1 e2 e3
    exact ⟨n0, n1, n2, A, l, c, rfl, w0, w1, w2, q1, q2, q3⟩
end read
end Go.Proofs.YtpmnhbjbkoackaaDoor
