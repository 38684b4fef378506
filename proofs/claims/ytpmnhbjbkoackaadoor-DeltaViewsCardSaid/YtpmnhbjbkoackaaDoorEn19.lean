/- How a law's arguments read, in the words of the plain run; what a law's contract says in the row's words. -/
import Derived.ProofKit
import Derived.OpenShut
import Derived.ChangeSame
import Derived.SizedLaws
import Derived.Handed
import Derived.Stop.Joined
import Derived.LaidLaws
import Derived.Deep.Slices
import Derived.DataReads
import Derived.Test.YtpmnhbjbkoackaaDoorEn18
namespace Go.Proofs.YtpmnhbjbkoackaaDoor.En
open Go Go.RowKit Go.WideShapes
set_option linter.unusedVariables false
set_option linter.unusedSimpArgs false
section wrap
variable {H : Type} {enc : TypeId × Value → H}
/-- The wrap that hands on the reach, the listed variables and the world's shape. -/
theorem wrap_all {a : Assume} {C : Checked} {os : Os} {f : FuncId} {fn : Func} {s : ChangeSpec} {conds : List PathCond} {apart fresh handsOn again : Bool} {laid : List (String × DataW Unit)}
    (own : ownKnob C.prog.godebug = none) (started : os.Started) (noInit : C.prog.inits.idxOf? f = none) (hfn : C.prog.funcs[f]? = some fn)
    (witness : ∃ (w : World) (tape : Tape) (i : Input), w.os = os ∧ (w.forCall tape i).Shaped C.prog ∧ i.vars = [] ∧ Input.okWide C.prog (w.forCall tape i) .any w.heap.size f i ∧
      ((s.pre enc C.prog fn conds apart (w.forCall tape i).memory i.args ∧ laidMetH C.prog laid (w.forCall tape i).memory) ∧ sizedMet enc C.prog fn (OpenSpec.ofChange s) apart (w.forCall tape i).memory i.args) ∧ a.holds C.prog (lone (Frame.enter C.prog f i.args .normal) [] (w.forCall tape i)))
    (contract : ∀ (W : World) (base : Nat) (args : Array Value) (ds gs : List (DataW H)) (before : List MemPlace),
      (∀ (j : Nat) t v, fn.params[j]? = some t → args[j]? = some v → Value.okWide C.prog W .any base t v) →
      DataW.Whole enc C.prog fn.params.toList s.vars apart W args.toList ds gs before →
      (DataW.weightsEach C.prog (fn.params.toList ++ s.plain.varTypes C.prog) (ds ++ gs)).all (· ≤ reachBytes) = true → laidMetH C.prog laid W → W.ShapedOpen C.prog →
      Calls C.prog f args W fun e W' => ∃ v, e = .returned v ∧ s.post enc C.prog fn apart fresh handsOn again W args v W') :
    ReturnsInHanded a C os f .any (fun w args => (s.pre enc C.prog fn conds apart w args ∧ laidMetH C.prog laid w) ∧ sizedMet enc C.prog fn (OpenSpec.ofChange s) apart w args) (s.post enc C.prog fn apart fresh handsOn again) := by
  refine returnsInHanded_of_calls own started noInit witness ?_
  intro w tape i _ hsh _ hok hpre hholds
  obtain ⟨_, _, _, fn', hfn', _, _, _, _, hval⟩ := hok
  have e : fn' = fn := Option.some.inj (hfn'.symm.trans hfn)
  subst e
  obtain ⟨⟨⟨ds, gs, before, hw, hc⟩, hx⟩, hz⟩ := hpre
  have hw' := DataW.Whole.of_heap (w' := w.forCall tape i) (by rfl) hw
  refine (contract (w.forCall tape i) w.heap.size i.args ds gs before hval hw' (hz.weights hw) (laidMetH.of_heap (by rfl) hx) hsh).mono fun e W' ⟨v, he, hp⟩ => ?_
  subst he
  exact ChangeSpec.post_blind hp
end wrap
section read
variable {H : Type} {enc : TypeId × Value → H} {P : Program} {w : World} {spare : Nat → Bool} {held : Bool}
/-- Nothing may be written. -/
def noW : Nat → Nat → Prop := fun _ _ => False
/-- Cells of type t that read as data are data of the plain type. -/
def RdT (P : Program) (t : TypeId) (τ : Ty) : Prop :=
  ∀ (H : Type) (enc : TypeId × Value → H) (w : World) (spare : Nat → Bool) (held : Bool) (fuel : Nat) (cs : List Value) (y : DataW H × List MemPlace), DataW.trod enc P w 0 spare held fuel t cs = some y → ∃ x, DV w noW τ x cs
theorem wrap_wf {k : IntKind} {n : Int} (h : (Lit.int k n).wf = true) : k.wrap n = n := by
  cases k <;> simp [Lit.wf, IntKind.wrap, IntKind.bits, IntKind.signed, IntKind.min, IntKind.max] at h ⊢ <;> omega
theorem rd_int {t : TypeId} {k : IntKind} (ht : P.underlying t = some (.int k)) : RdT P t (.int k) := fun H enc w spare held fuel cs y h => by
  obtain ⟨n, rfl, _, hw⟩ := DataW.trod_int ht h
  exact ⟨n, rfl, wrap_wf hw⟩
theorem rd_bool {t : TypeId} (ht : P.underlying t = some .bool) : RdT P t .bool := fun H enc w spare held fuel cs y h => by
  obtain ⟨b, rfl, _⟩ := DataW.trod_bool ht h
  exact ⟨b, rfl⟩
theorem rd_string {t : TypeId} (ht : P.underlying t = some .string) : RdT P t .str := fun H enc w spare held fuel cs y h => by
  obtain ⟨s, rfl, _, hs⟩ := DataW.trod_string ht h
  exact ⟨s, rfl, by unfold lenOk; unfold maxLen at hs; omega⟩
theorem choose_upto {α : Type} {n : Nat} {p : Nat → α → Prop} (h : ∀ i, i < n → ∃ a, p i a) : ∃ l : List α, l.length = n ∧ ∀ i a, l[i]? = some a → p i a := by
  induction n with
  | zero => exact ⟨[], rfl, fun i a h => by simp at h⟩
  | succ n ih =>
    obtain ⟨l, hl, hp⟩ := ih fun i hi => h i (by omega)
    obtain ⟨a, ha⟩ := h n (by omega)
    refine ⟨l ++ [a], by simp [hl], fun i b hb => ?_⟩
    by_cases hi : i < n
    · rw [List.getElem?_append_left (by omega)] at hb; exact hp i b hb
    · rw [List.getElem?_append_right (by omega)] at hb
      have : i - l.length = 0 := by
        by_cases h0 : i - l.length = 0
        · exact h0
        · rw [List.getElem?_eq_none (by simp; omega)] at hb; cases hb
      rw [this] at hb
      obtain rfl : i = n := by omega
      simpa using (by simpa using hb : a = b) ▸ ha
theorem rd_slice {t e : TypeId} {τ : Ty} (ht : P.underlying t = some (.slice e)) (hd : RdT P e τ) (hc : P.cellsOf e = τ.sz) : RdT P t (.list τ) := fun H enc w spare held fuel cs y h => by
  rcases Go.Deep.open_slice ht h with ⟨rfl, _⟩ | ⟨a, len, cap, m, n, D, Pl, rfl, _, hl, hm, hmm, _, hx⟩
  · exact ⟨[], none, 0, rfl, Nat.le_refl _, by simp [lenOk], .inl rfl⟩
  · have hlm : len ≤ m := by rw [hmm]; split <;> omega
    obtain ⟨l, hlen, hp⟩ := choose_upto (α := τ.T) (n := len) (p := fun i x => ∃ cs', w.cells? 0 (a.add (i * τ.sz)) τ.sz = some cs' ∧ DV w noW τ x cs') (fun i hi => by
      obtain ⟨cs', h1, h2⟩ := hx i (by omega)
      obtain ⟨x, hk⟩ := hd H enc w spare held n cs' _ h2
      rw [hc] at h1
      exact ⟨x, cs', h1, hk⟩)
    have key : ∀ i x, l[i]? = some x → ∃ vs : List Value, vs.length = τ.sz ∧ DV w noW τ x vs ∧ ∀ j v, vs[j]? = some v → w.cell? ((a.add (i * τ.sz)).add j) = some v := by
      intro i x hi
      obtain ⟨cs', h1, hk⟩ := hp i x hi
      have hcl := DV.len hk
      refine ⟨cs', hcl, hk, fun j u hu => ?_⟩
      obtain ⟨_, hlen', hcell⟩ := World.cells?_some h1
      have hj : j < cs'.length := (List.getElem?_eq_some_iff.1 hu).1
      have := hcell j (by omega)
      rw [this]; exact hu
    refine ⟨l, some a, cap, by rw [hlen], by rw [hlen]; exact hl, by unfold lenOk; unfold maxLen at hm; omega, ?_⟩
    cases l with
    | nil => exact .inl rfl
    | cons x0 l0 =>
      refine .inr ?_
      have hsp : a.spot = none := by
        obtain ⟨vs, h1, h2, h3⟩ := key 0 x0 rfl
        have hpos := Ty.sz_pos τ
        obtain ⟨u, hu⟩ : ∃ u, vs[0]? = some u := ⟨_, List.getElem?_eq_getElem (by omega)⟩
        have := h3 0 u hu
        rw [Nat.zero_mul] at this
        have e : (a.add 0).add 0 = a := by simp [Addr.add]
        rw [e] at this
        exact World.cell?_spot this
      obtain ⟨b, o, sp⟩ := a
      simp only at hsp
      subst hsp
      refine ⟨b, o, rfl, fun i x hi => ?_⟩
      obtain ⟨vs, h1, h2, h3⟩ := key i x hi
      refine ⟨vs, h1, h2, fun j v hv => ⟨?_, fun h => h⟩⟩
      have := h3 j v hv
      rw [Addr.add_add] at this
      have e : (⟨b, o, none⟩ : Addr).add (i * τ.sz + j) = ⟨b, o + i * τ.sz + j, none⟩ := by
        unfold Addr.add
        split
        · rename_i e; simp [e]
        · simp [Nat.add_assoc]
      rw [e] at this
      exact this
def pairsT : List Ty → Ty
  | [] => .bool
  | [a] => a
  | a :: b :: l => .pair a (pairsT (b :: l))
/-- Parts that follow one another. -/
def Sq (P : Program) : List (Nat × TypeId) → Nat → List Ty → Prop
  | [], _, [] => True
  | x :: l, off, τ :: τs => x.1 = off ∧ P.cellsOf x.2 = τ.sz ∧ RdT P x.2 τ ∧ Sq P l (off + τ.sz) τs
  | _, _, _ => False
theorem sq_read {n : Nat} {cs : List Value} : ∀ {l : List (Nat × TypeId)} {τs : List Ty} {off : Nat}, Sq P l off τs → τs ≠ [] →
    (∀ x ∈ l, ∃ y, DataW.trod enc P w 0 spare held n x.2 ((cs.drop x.1).take (P.cellsOf x.2)) = some y) → cs.length = off + (τs.map Ty.sz).sum → ∃ x, DV w noW (pairsT τs) x (cs.drop off)
  | [], [], _, _, h, _, _ => (h rfl).elim
  | [x], [τ], off, h, _, hy, hl => by
    obtain ⟨h1, h2, h3, _⟩ := h
    obtain ⟨y, hy⟩ := hy x (by simp)
    obtain ⟨d, hd⟩ := h3 _ _ _ _ _ _ _ _ hy
    rw [h1, h2, List.take_of_length_le (by simp at hl ⊢; omega)] at hd
    exact ⟨d, hd⟩
  | x :: x' :: l, τ :: τ' :: τs, off, h, _, hy, hl => by
    obtain ⟨h1, h2, h3, h4⟩ := h
    obtain ⟨y, hy0⟩ := hy x (by simp)
    obtain ⟨d, hd⟩ := h3 _ _ _ _ _ _ _ _ hy0
    rw [h1, h2] at hd
    obtain ⟨d', hd'⟩ := sq_read h4 (by simp) (fun z hz => hy z (by simp [List.mem_cons] at hz ⊢; exact .inr hz)) (by simp at hl ⊢; omega)
    refine ⟨(d, d'), _, _, ?_, hd, hd'⟩
    rw [← List.drop_drop]
    exact (List.take_append_drop _ _).symm
  | x :: x' :: l, [τ], off, h, _, _, _ => by obtain ⟨_, _, _, h⟩ := h; exact h.elim
  | [x], τ :: τ' :: l, off, h, _, _, _ => by obtain ⟨_, _, _, h⟩ := h; exact h.elim
  | [], _ :: _, _, h, _, _, _ => h.elim
  | _ :: _, [], _, h, _, _, _ => h.elim
theorem rd_struct {t : TypeId} {fs : Array Field} {τs : List Ty} (ht : P.underlying t = some (.struct fs)) (hs : Sq P (fs.toList.map fun f => (f.offset, f.type)) 0 τs) (hne : τs ≠ []) (hct : P.cellsOf t = (τs.map Ty.sz).sum) : RdT P t (pairsT τs) := fun H enc w spare held fuel cs y h => by
  obtain ⟨xs, n, _, _, hl, hlen, hfs⟩ := DataW.trod_struct ht h
  have := sq_read (enc := enc) (w := w) (spare := spare) (held := held) (n := n) (cs := cs) hs hne (fun x hx => by
    obtain ⟨f, hf, rfl⟩ := List.mem_map.1 hx
    obtain ⟨i, hi, e⟩ := List.getElem_of_mem hf
    have h1 := hfs i f (by rw [← Array.getElem?_toList]; exact List.getElem?_eq_some_iff.2 ⟨hi, e⟩)
    rw [h1]
    exact ⟨_, List.getElem?_eq_getElem (by simpa [hlen] using hi)⟩) (by rw [hl, hct]; omega)
  simpa using this
theorem rd_array {t e : TypeId} {k : Nat} {τ : Ty} (ht : P.underlying t = some (.array k e)) (he : RdT P e τ) (hc : P.cellsOf e = τ.sz) (hk : k ≠ 0) (hct : P.cellsOf t = k * τ.sz) : RdT P t (pairsT (List.replicate k τ)) := fun H enc w spare held fuel cs y h => by
  obtain ⟨xs, n, _, _, hl, hlen, hfs⟩ := DataW.trod_array ht h
  have hsq : ∀ (m i : Nat), Sq P ((List.range' i m).map fun j => (j * τ.sz, e)) (i * τ.sz) (List.replicate m τ) := by
    intro m
    induction m with
    | zero => intro i; trivial
    | succ m ih =>
      intro i
      simp only [List.range'_succ, List.map_cons, List.replicate_succ]
      refine ⟨rfl, hc, he, ?_⟩
      have := ih (i + 1)
      rwa [Nat.add_mul, Nat.one_mul] at this
  have := sq_read (enc := enc) (w := w) (spare := spare) (held := held) (n := n) (cs := cs) (hsq k 0) (by cases k with | zero => exact (hk rfl).elim | succ k => simp [List.replicate_succ]) (fun x hx => by
    obtain ⟨i, hi, rfl⟩ := List.mem_map.1 hx
    simp [List.mem_range'_1] at hi
    have h1 := hfs i hi
    rw [hc] at h1 ⊢
    rw [h1]
    exact ⟨_, List.getElem?_eq_getElem (by omega)⟩) (by rw [hl, hct]; simp)
  simpa using this
/-- What is known of data that was read. -/
def Wfd : (τ : Ty) → τ.T → Prop
  | .int k, n => k.wrap n = n
  | .bool, _ => True
  | .str, s => lenOk s.size
  | .list e, l => lenOk (List.length l) ∧ ∀ x ∈ l, Wfd e x
  | .pair a b, x => Wfd a x.1 ∧ Wfd b x.2
theorem DV.wf {W : Nat → Nat → Prop} : ∀ {τ : Ty} {x : τ.T} {vs : List Value}, DV w W τ x vs → Wfd τ x
  | .int _, _, _, h => h.2
  | .bool, _, _, _ => trivial
  | .str, _, _, h => h.2
  | .list e, l, _, h => by
    obtain ⟨A, c, rfl, h1, h2, h3⟩ := h
    refine ⟨Nat.le_trans h1 h2, fun x hx => ?_⟩
    obtain ⟨i, hi⟩ := List.getElem?_of_mem hx
    obtain ⟨_, _, _, vs, _, hd, _⟩ := h3.get hi
    exact DV.wf hd
  | .pair a b, x, _, h => by
    obtain ⟨v1, v2, rfl, h1, h2⟩ := h
    exact ⟨DV.wf h1, DV.wf h2⟩
theorem Sq.nil {P : Program} {off : Nat} : Sq P [] off [] := trivial
theorem Sq.cons {P : Program} {x : Nat × TypeId} {l : List (Nat × TypeId)} {off : Nat} {τ : Ty} {τs : List Ty} (h1 : x.1 = off) (h2 : P.cellsOf x.2 = τ.sz) (h3 : RdT P x.2 τ) (h4 : Sq P l (off + τ.sz) τs) : Sq P (x :: l) off (τ :: τs) := ⟨h1, h2, h3, h4⟩
theorem PVs.nil {W : Nat → Nat → Prop} {R : Nat → Option Res} {g : Gh} : PVs w W R g [] [] := trivial
theorem PVs.cons {W : Nat → Nat → Prop} {R : Nat → Option Res} {g : Gh} {v : Value} {q : P1} {vs : List Value} {ps : List PVal} (h : P1V w W R g v q) (h2 : PVs w W R g vs ps) : PVs w W R g (v :: vs) (.p q :: ps) := ⟨h, h2⟩
variable {R : Nat → Option Res} {g : Gh} {b0 : Nat} {r : Reach} {v : Value} {D : DataW H} {p : List MemPlace}
theorem par_int {t : TypeId} {k : IntKind} (ht : P.underlying t = some (.int k)) (hv : Value.okWide P w r b0 t v) (h : DataW.Trod enc P w 0 spare held t v D p) :
    ∃ n : Int, Wfd (.int k) n ∧ P1V w noW R g v (put1 (.int k, false) n) := by
  obtain ⟨n, e, _, _, hw⟩ := Go.ChangeShapes.open_int ht hv h
  exact ⟨n, wrap_wf hw, e, wrap_wf hw⟩
theorem par_bool {t : TypeId} (ht : P.underlying t = some .bool) (hv : Value.okWide P w r b0 t v) (h : DataW.Trod enc P w 0 spare held t v D p) :
    ∃ b : Bool, Wfd .bool b ∧ P1V w noW R g v (put1 (.bool, false) b) := by
  obtain ⟨n, e, _⟩ := open_bool ht hv h
  exact ⟨n, trivial, e⟩
theorem par_string {t : TypeId} (ht : P.underlying t = some .string) (hv : Value.okWide P w r b0 t v) (h : DataW.Trod enc P w 0 spare held t v D p) :
    ∃ s : ByteArray, Wfd .str s ∧ P1V w noW R g v (put1 (.str, false) s) := by
  obtain ⟨s, e, e2, _, hs⟩ := Go.ChangeMaps.open_string ht hv h
  have hl : lenOk s.size := by unfold lenOk; unfold maxLen at hs; omega
  exact ⟨s, hl, e, hl⟩
theorem par_slice {t e : TypeId} {τ : Ty} (ht : P.underlying t = some (.slice e)) (hd : RdT P t (.list τ)) (hv : Value.okWide P w r b0 t v) (h : DataW.Trod enc P w 0 spare held t v D p) :
    ∃ l : List τ.T, Wfd (.list τ) l ∧ P1V w noW R g v (put1 (.list τ, false) l) := by
  obtain ⟨a, len, cap, rfl⟩ := okWide_slice ht hv
  obtain ⟨fuel, hf⟩ := h
  obtain ⟨l, hl⟩ := hd H enc w spare held fuel _ _ hf
  have hl' : DV w noW (.list τ) l [.slice a len cap] := by simpa [Value.cells] using hl
  exact ⟨l, DV.wf hl', hl'⟩
theorem par_agg {t : TypeId} {τ : Ty} (hag : ∀ v, Value.okWide P w r b0 t v → ∃ cs : Array Value, v = .agg cs) (hd : RdT P t τ) (hv : Value.okWide P w r b0 t v) (h : DataW.Trod enc P w 0 spare held t v D p) :
    ∃ x : τ.T, Wfd τ x ∧ P1V w noW R g v (put1 (τ, true) x) := by
  obtain ⟨cs, rfl⟩ := hag v hv
  obtain ⟨fuel, hf⟩ := h
  obtain ⟨x, hx⟩ := hd H enc w spare held fuel _ _ hf
  refine ⟨x, DV.wf hx, cs.toList, by simp, ?_⟩
  exact DV.flat (by simpa [Value.cells] using hx)
theorem ag_struct {t : TypeId} {fs : Array Field} (ht : P.underlying t = some (.struct fs)) : ∀ v, Value.okWide P w .any b0 t v → ∃ cs : Array Value, v = .agg cs := fun v hv => by
  simp only [Value.okWide, ht] at hv
  obtain ⟨cs, h1, h2, _⟩ := hv
  exact ⟨cs, h1⟩
theorem ag_array {t e : TypeId} {k : Nat} (ht : P.underlying t = some (.array k e)) : ∀ v, Value.okWide P w .any b0 t v → ∃ cs : Array Value, v = .agg cs := fun v hv => by
  simp only [Value.okWide, ht] at hv
  obtain ⟨cs, h1, h2, _⟩ := hv
  exact ⟨cs, h1⟩
/-- What a law's contract says. -/
theorem law_calls {GL : World → Prop} {f : FuncId} {ps : List PVal} {b : Bool} {vs : List Value} {W : World} (hcon : Con P GL f ps [] (.ret (.p (.one (.bool b)))) []) (hG : GL W) (hv : PVs W noW (lk []) ⟨fun _ => none, fun _ => 0⟩ vs ps) :
    Calls P f (List.toArray vs) W fun e W' => e = .returned (.bool b) ∧ Below W.heap.size W W' := by
  have hW : Wr noW (lk []) ⟨fun _ => none, fun _ => 0⟩ = noW := by
    funext b o
    simp [Wr, own, noW, lk]
  refine (hcon W W noW ⟨fun _ => none, fun _ => 0⟩ vs hG ⟨fun id r h => by simp [lk] at h, fun id _ r _ b h => by simp [lk] at h, fun id r b h => by simp [lk] at h, fun id r b o h => by simp [lk] at h, fun b o hb => hb.elim, Below.refl _ _⟩ (by rw [hW]; exact hv)).mono ?_
  rintro e w' ⟨g', ⟨v, rfl, hp⟩, he⟩
  obtain rfl : v = .bool b := hp
  exact ⟨rfl, he.hr.bel⟩
end read
end Go.Proofs.YtpmnhbjbkoackaaDoor.En
