/- The plain run of a body: regions in the text's order, branches, loops; it tells what the model's run comes to. -/
import Derived.Test.YtpmnhbjbkoackaaDoorEn7

namespace Go.Proofs.YtpmnhbjbkoackaaDoor.En
open Go Go.RowKit
set_option linter.unusedVariables false
set_option linter.unusedSimpArgs false
variable {P : Program} {rw : Nat → Bool} {wt : World} {Fb : Nat → Nat → Prop} {w w' : World} {R R' : Nat → Option Res} {g g' : Gh} {o : Oper} {ρ : Operand → Value} {ev : Operand → PVal} {c : List Cnd} {p : PVal} {us : List (Nat × Res)}

theorem step_sound (hr : HR wt Fb w R g) (he : Evs w (Wr Fb R g) R g ρ ev) (h : stepF (tiE P rw) o ev R = some (c, p, us)) (hc : allP c) : StepOk P wt Fb o ρ w R g p us := by
  cases ho : o.op with
  | move x => exact s_move hr he (.inl ho) h hc
  | assign x => exact s_move hr he (.inr ho) h hc
  | pick x a b => exact s_pick hr he ho h hc
  | alloc T => exact s_alloc hr he ho h hc
  | box T x => exact s_box hr he ho h hc
  | build T ps => exact s_build hr he ho h hc
  | buildSlice T n ps => exact s_buildSlice hr he ho h hc
  | load T a => exact s_load hr he ho h hc
  | store T a x => exact s_store hr he ho h hc
  | nilCheck x => exact s_nilCheck hr he ho h hc
  | binOp op T x y T' => exact s_binOp hr he ho h hc
  | unOp op T x => exact s_unOp hr he ho h hc
  | convert S T x => exact s_convert hr he ho h hc
  | slice T x lo hi mx =>
    by_cases hx : ∃ e T0 id ver, ev x = .p (.one (.row e T0 id ver))
    · obtain ⟨e, T0, id, ver, ex⟩ := hx
      exact s_slice_row hr he ho ex h hc
    · exact s_slice hr he ho (fun e T0 id ver ex => hx ⟨e, T0, id, ver, ex⟩) h hc
  | fieldAddr T x f => exact s_fieldAddr hr he ho h hc
  | field T x f => exact s_field hr he ho h hc
  | indexAddr T x i => exact s_indexAddr hr he ho h hc
  | index T x i => exact s_index hr he ho h hc
  | extract x i => exact s_extract hr he ho h hc
  | call cl =>
    simp only [stepF, ho] at h
    split at h
    · rename_i b hb
      by_cases e : b = .append
      · subst e; exact s_append hr he ho hb h hc
      · exact s_bi1 hr he ho hb e h hc
    · cases h
  | _ => simp [stepF, ho] at h

/-- A list of types that is right. -/
def EnvOk (P : Program) (E : EnvT) : Prop := ∀ t i, E t = some i → ti P t = some i
theorem EnvOk.of_ty {E : EnvT} (hE : EnvOk P E) {t : TypeId} {i : TI} (h : E.ty t = some i) : (tiE P E.rw).ty t = some i := hE t i h
theorem binF_mono {op : BinOp} {d : Option TD} {x y : Cell} {q : List Cnd × Cell} (h : binF op none x y = some q) : binF op d x y = some q := by
  unfold binF at h
  split at h
  · exact h
  · split at h
    · rename_i e; cases e
    · rename_i e; cases e
    · cases h
  · exact h
  · split at h
    · rename_i e; cases e
    · rename_i e; cases e
    · cases h
  · split at h
    · rename_i e; cases e
    · rename_i e; cases e
    · cases h
  · cases h
theorem biF_mono {E : EnvT} (hE : EnvOk P E) {b : Builtin} {args : List PVal} {Ts : List TypeId} {dst : Option Nat} {q : List Cnd × PVal × List (Nat × Res)} (h : biF E b args Ts dst R = some q) : biF (tiE P E.rw) b args Ts dst R = some q := by
  unfold biF at h ⊢
  split at h
  · split at h
    · rename_i ht; simp only [hE _ _ ht]; exact h
    · rename_i ht; simp only [hE _ _ ht]; exact h
    · rename_i ht hn
      simp only [hE _ _ ht]
      exact h
    · cases h
  · split at h
    · rename_i e
      subst e
      split at h
      · rename_i ht; simp only [hE _ _ ht, if_true]; exact h
      · cases h
    · cases h
  · exact h
  · exact h
  · cases h
theorem stepF_mono {E : EnvT} (hE : EnvOk P E) {q : List Cnd × PVal × List (Nat × Res)} (h : stepF E o ev R = some q) : stepF (tiE P E.rw) o ev R = some q := by
  cases ho : o.op with
  | alloc T =>
    simp only [stepF, ho] at h ⊢
    split at h
    · rename_i ht hd
      simp only [hE _ _ ht, hd]
      exact h
    · cases h
  | build T ps =>
    simp only [stepF, ho] at h ⊢
    split at h
    · rename_i ht
      simp only [hE _ _ ht]
      exact h
    · rename_i ht
      simp only [hE _ _ ht]
      exact h
    · cases h
  | buildSlice T n ps =>
    simp only [stepF, ho] at h ⊢
    split at h
    · rename_i ht hd
      simp only [hE _ _ ht, hd]
      exact h
    · cases h
  | load T a =>
    simp only [stepF, ho] at h ⊢
    split at h
    · rename_i ht ha
      simp only [hE _ _ ht, ha]
      exact h
    · rename_i ht ha
      simp only [hE _ _ ht, ha]
      exact h
    · rename_i ht ha
      simp only [hE _ _ ht, ha]
      exact h
    · cases h
  | store T a x =>
    simp only [stepF, ho] at h ⊢
    split at h
    · rename_i ht ha hx
      simp only [hE _ _ ht, ha, hx]
      exact h
    · rename_i ht ha hx
      simp only [hE _ _ ht, ha, hx]
      exact h
    · cases h
  | binOp op T x y T' =>
    simp only [stepF, ho] at h ⊢
    split at h
    · simp only [Option.map_eq_some_iff] at h ⊢
      obtain ⟨q', hq, e⟩ := h
      refine ⟨q', ?_, e⟩
      cases hT : E T with
      | none => rw [hT] at hq; exact binF_mono hq
      | some i => rw [hT] at hq; rw [hE _ _ hT]; exact hq
    · cases h
  | convert S T x =>
    simp only [stepF, ho] at h ⊢
    split at h
    · rename_i h1 h2 h3
      simp only [hE _ _ h1, hE _ _ h2, h3]
      exact h
    · rename_i h1 h2 h3
      simp only [hE _ _ h1, hE _ _ h2, h3]
      exact h
    · rename_i h1 h2 hn
      simp only [hE _ _ h1, hE _ _ h2]
      split at h
      · rename_i h4
        simp only [hE _ _ h4]
        exact h
      · cases h
    · cases h
  | slice T x lo hi mx =>
    cases mx with
    | some m => simp [stepF, ho] at h
    | none =>
      simp only [stepF, ho] at h ⊢
      split at h
      · rename_i ht hx
        simp only [hE _ _ ht, hx]
        exact h
      · rename_i ht hx
        simp only [hE _ _ ht, hx]
        exact h
      · rename_i ht _
        simp only [hE _ _ ht]
        exact h
      · cases h
  | fieldAddr T x f =>
    simp only [stepF, ho] at h ⊢
    split at h
    · rename_i ht hx
      simp only [hE _ _ ht, hx]
      exact h
    · rename_i ht hx
      simp only [hE _ _ ht, hx]
      exact h
    · rename_i ht hx
      simp only [hE _ _ ht, hx]
      exact h
    · cases h
  | field T x f =>
    simp only [stepF, ho] at h ⊢
    split at h
    · rename_i ht hx
      simp only [hE _ _ ht, hx]
      exact h
    · cases h
  | indexAddr T x i =>
    simp only [stepF, ho] at h ⊢
    split at h
    · rename_i ht hx
      simp only [hE _ _ ht, hx]
      exact h
    · rename_i ht hx
      simp only [hE _ _ ht, hx]
      exact h
    · cases h
  | index T x i =>
    simp only [stepF, ho] at h ⊢
    split at h
    · rename_i ht hx hi
      simp only [hE _ _ ht, hx, hi]
      exact h
    · rename_i ht hx hi
      simp only [hE _ _ ht, hx, hi]
      exact h
    · cases h
  | call cl =>
    simp only [stepF, ho] at h ⊢
    split at h
    · exact biF_mono hE h
    · cases h
  | move x => simpa only [stepF, ho] using h
  | assign x => simpa only [stepF, ho] using h
  | pick x a b => simpa only [stepF, ho] using h
  | box T x => simpa only [stepF, ho] using h
  | nilCheck x => simpa only [stepF, ho] using h
  | unOp op T x => simpa only [stepF, ho] using h
  | extract x i => simpa only [stepF, ho] using h
  | _ => simp [stepF, ho] at h

/-- What a call comes to. -/
inductive Out where
  | ret (p : PVal)
  | pan (v : Value)
def lk (rs : List (Nat × Res)) (id : Nat) : Option Res := rs.lookup id
def PVs (w : World) (W : Nat → Nat → Prop) (R : Nat → Option Res) (g : Gh) : List Value → List PVal → Prop
  | [], [] => True
  | v :: vs, p :: ps => PV w W R g v p ∧ PVs w W R g vs ps
  | _, _ => False
def OutV (w : World) (W : Nat → Nat → Prop) (R : Nat → Option Res) (g : Gh) (e : Ending) : Out → Prop
  | .ret p => ∃ v, e = .returned v ∧ PV w W R g v p
  | .pan v => e = .panicked [{ v, recovered := false }]
/-- A function's contract: called with such arguments and variables it comes to this, and leaves the variables so. -/
def Con (P : Program) (GL : World → Prop) (f : FuncId) (ps : List PVal) (rs : List (Nat × Res)) (out : Out) (rs' : List (Nat × Res)) : Prop :=
  ∀ wt w Fb g vs, GL wt → HR wt Fb w (lk rs) g → PVs w (Wr Fb (lk rs) g) (lk rs) g vs ps →
    Calls P f (List.toArray vs) w fun e w' => ∃ g', OutV w' (Wr Fb (lk rs') g') (lk rs') g' e out ∧ Eff wt Fb w (lk rs) g w' (lk rs') g'

/-- Names turned: of the right to append also its count. -/
def Cell.ren (σ : Nat → Nat) (β : Nat → Nat) : Cell → Cell
  | .acc e l T id ver => .acc e l T (σ id) (β id + ver)
  | .ptr id off => .ptr (σ id) off
  | .row e T id ver => .row e T (σ id) (β id + ver)
  | .rptr e T id ver i off => .rptr e T (σ id) (β id + ver) i off
  | c => c
def Res.ren (σ : Nat → Nat) (β : Nat → Nat) (i : Nat) : Res → Res
  | .blk cs => .blk (cs.map (Cell.ren σ β))
  | .tok v => .tok (β i + v)
  | .row e l T v => .row e l T (β i + v)
def P1.ren (σ : Nat → Nat) (β : Nat → Nat) : P1 → P1
  | .one c => .one (c.ren σ β)
  | .agg cs => .agg (cs.map (Cell.ren σ β))
def PVal.ren (σ : Nat → Nat) (β : Nat → Nat) : PVal → PVal
  | .p x => .p (x.ren σ β)
  | .tup ps => .tup (ps.map (P1.ren σ β))
def Out.ren (σ : Nat → Nat) (β : Nat → Nat) : Out → Out
  | .ret p => .ret (p.ren σ β)
  | .pan v => .pan v
/-- What may be forgotten of a cell: the left says no more than the right. -/
def CLe : Cell → Cell → Prop
  | .dead, _ => True
  | .lst e l, .acc e' l' _ _ _ => (⟨e', l'⟩ : (e : Ty) × List e.T) = ⟨e, l⟩
  | .lst e l, .lit (.slice none 0 0) => l = []
  | c, d => c = d
def CLes : List Cell → List Cell → Prop
  | [], [] => True
  | c :: cs, d :: ds => (CLe c d ∧ c ≠ .dead) ∧ CLes cs ds
  | _, _ => False
def P1Le : P1 → P1 → Prop
  | .one c, .one d => CLe c d
  | .agg cs, .agg ds => CLes cs ds
  | .one .dead, .agg _ => True
  | _, _ => False
def P1Les : List P1 → List P1 → Prop
  | [], [] => True
  | p :: ps, q :: qs => P1Le p q ∧ P1Les ps qs
  | _, _ => False
def PLe : PVal → PVal → Prop
  | .p x, .p y => P1Le x y
  | .tup ps, .tup qs => P1Les ps qs
  | .p (.one .dead), _ => True
  | _, _ => False
def PLes : List PVal → List PVal → Prop
  | [], [] => True
  | p :: ps, q :: qs => PLe p q ∧ PLes ps qs
  | _, _ => False
def RLe : Res → Res → Prop
  | .blk cs, .blk ds => CLes cs ds
  | .tok v, .tok u => v = u
  | .row e l T v, .row e' l' T' u => (⟨e', l'⟩ : (e : Ty) × List e.T) = ⟨e, l⟩ ∧ T = T' ∧ v = u
  | _, _ => False
/-- The names in a cell are known. -/
def okC (rs : List (Nat × Res)) : Cell → Prop
  | .acc _ _ _ id ver => ∃ v, lk rs id = some (.tok v) ∧ ver ≤ v
  | .ptr id _ => ∃ cs, lk rs id = some (.blk cs)
  | .row e T id ver => ∃ l v, lk rs id = some (.row e l T v) ∧ ver ≤ v
  | .rptr e T id ver _ _ => ∃ l v, lk rs id = some (.row e l T v) ∧ ver ≤ v
  | _ => True
def okP1 (rs : List (Nat × Res)) : P1 → Prop
  | .one c => okC rs c
  | .agg cs => ∀ c ∈ cs, okC rs c
def okP (rs : List (Nat × Res)) : PVal → Prop
  | .p x => okP1 rs x
  | .tup ps => ∀ p ∈ ps, okP1 rs p
def okR (rs : List (Nat × Res)) : Res → Prop
  | .blk cs => ∀ c ∈ cs, okC rs c
  | .tok _ => True
  | .row _ _ _ _ => True
/-- What a call does in a state: its value, what becomes of what may be written; the names that it looks at. -/
def CallR (P : Program) (GL : World → Prop) (f : FuncId) (args : List PVal) (R : Nat → Option Res) (out : Out) (us : List (Nat × Res)) (T : List Nat) : Prop :=
  ∃ ps rs out0 rs' σ β, Con P GL f ps rs out0 rs' ∧ PLes (ps.map (PVal.ren σ β)) args ∧ (∀ p ∈ ps, okP rs p) ∧ (∀ x ∈ rs, okR rs x.2) ∧
    (∀ x ∈ rs, ∃ r, R (σ x.1) = some r ∧ RLe (x.2.ren σ β x.1) r) ∧ (rs'.map fun x => σ x.1).Nodup ∧ (rs.map fun x => x.1).Nodup ∧ (∀ x ∈ rs, x.1 ∈ rs'.map (·.1)) ∧
    (∀ x ∈ rs', lk rs x.1 = none → R (σ x.1) = none) ∧ out = out0.ren σ β ∧ us = rs'.map (fun x => (σ x.1, x.2.ren σ β x.1)) ∧ T = rs'.map (fun x => σ x.1)
/-- That it does so. -/
def CallS (P : Program) (GL : World → Prop) (f : FuncId) (args : List PVal) (R : Nat → Option Res) (out : Out) (us : List (Nat × Res)) : Prop :=
  ∀ wt w Fb g vs, GL wt → HR wt Fb w R g → PVs w (Wr Fb R g) R g vs args →
    Calls P f (List.toArray vs) w fun e w' => ∃ g', OutV w' (Wr Fb (up us R) g') (up us R) g' e out ∧ Eff wt Fb w R g w' (up us R) g'

end Go.Proofs.YtpmnhbjbkoackaaDoor.En
