/- The rules of the plain run: sequences, branches, loops, what may be forgotten; a body's run gives its function's contract. -/
import Derived.Test.YtpmnhbjbkoackaaDoorEn12
namespace Go.Proofs.YtpmnhbjbkoackaaDoor.En
open Go Go.RowKit
set_option linter.unusedVariables false
set_option linter.unusedSimpArgs false
variable {P : Program} {E : EnvT} {GL : World → Prop} {ks : List Nat}

/-- Behind a body of code, from such a state on, Q holds of the way it is left and of the state. -/
def PW (P : Program) (GL : World → Prop) (ks : List Nat) (c : Code) (Q : PE → St → Prop) (S : St) : Prop :=
  ∀ wt Fb I a w g, GL wt → (∀ id r, I.R0 id = some r → id ∈ ks) → SR wt Fb I S a w g → c.wp P (QL wt Fb I Q) a w
/-- The second state says no more than the first. -/
def Wk (ks : List Nat) (S S' : St) : Prop :=
  ∀ wt Fb I a w g, (∀ id r, I.R0 id = some r → id ∈ ks) → SR wt Fb I S a w g → ∃ g', SR wt Fb I S' a w g'
theorem Wk.refl (S : St) : Wk ks S S := fun _ _ _ _ _ g _ h => ⟨g, h⟩
theorem Wk.trans {S S' S'' : St} (h : Wk ks S S') (h' : Wk ks S' S'') : Wk ks S S'' := fun wt Fb I a w g hk hs =>
  let ⟨g', h1⟩ := h wt Fb I a w g hk hs
  h' wt Fb I a w g' hk h1
theorem PW.weaken {c : Code} {Q : PE → St → Prop} {S S' : St} (hw : Wk ks S S') (h : PW P GL ks c Q S') : PW P GL ks c Q S := fun wt Fb I a w g hG hk hs =>
  let ⟨g', h1⟩ := hw wt Fb I a w g hk hs
  h wt Fb I a w g' hG hk h1
theorem QL.mono {wt : World} {Fb : Nat → Nat → Prop} {I : Ini} {Q Q' : PE → St → Prop} (h : ∀ e S, Q e S → Q' e S) {e : Exit} {a : Act} {w : World} (hq : QL wt Fb I Q e a w) : QL wt Fb I Q' e a w :=
  let ⟨e', S, g, h1, h2, h3⟩ := hq
  ⟨e', S, g, h1, h2, h e' S h3⟩
theorem PW.mono {c : Code} {Q Q' : PE → St → Prop} {S : St} (hq : PW P GL ks c Q S) (h : ∀ e S, Q e S → Q' e S) : PW P GL ks c Q' S := fun wt Fb I a w g hG hk hs =>
  wp_mono (hq wt Fb I a w g hG hk hs) fun _ _ _ => QL.mono h
theorem PW.skip {Q : PE → St → Prop} {S : St} (h : Q .normal S) : PW P GL ks .skip Q S := fun wt Fb I a w g hG hk hs => wp_skip ⟨.normal, S, g, trivial, hs, h⟩
theorem PW.exit {Q : PE → St → Prop} {S : St} {id : Nat} (h : Q (.exit id) S) : PW P GL ks (.exit id) Q S := fun wt Fb I a w g hG hk hs => wp_exit ⟨.exit id, S, g, rfl, hs, h⟩
theorem PW.ret {Q : PE → St → Prop} {S : St} (h : Q .ret S) : PW P GL ks .ret Q S := fun wt Fb I a w g hG hk hs => wp_ret ⟨.ret, S, g, trivial, hs, h⟩
theorem PW.label {Q : PE → St → Prop} {S : St} {l : Nat} (h : Q .normal S) : PW P GL ks (.label l) Q S := fun wt Fb I a w g hG hk hs => wp_label ⟨.normal, S, g, trivial, hs, h⟩
/-- What follows on a way out. -/
def PE.then (N : St → Prop) (Q : PE → St → Prop) : PE → St → Prop
  | .normal, S => N S
  | e, S => Q e S
def PE.inBlock (id : Nat) (Q : PE → St → Prop) : PE → St → Prop
  | .exit id', S => if id' = id then Q .normal S else Q (.exit id') S
  | e, S => Q e S
theorem PW.seq {x y : Code} {Q : PE → St → Prop} {S : St} (h : PW P GL ks x (PE.then (PW P GL ks y Q) Q) S) : PW P GL ks (.seq x y) Q S := fun wt Fb I a w g hG hk hs =>
  wp_seq (wp_mono (h wt Fb I a w g hG hk hs) fun e a' w' hq => by
    obtain ⟨e', S', g', h1, h2, h3⟩ := hq
    cases e' <;> cases e <;> first | exact h1.elim | skip
    · exact h3 wt Fb I a' w' g' hG hk h2
    · exact ⟨_, S', g', h1, h2, h3⟩
    · exact ⟨_, S', g', h1, h2, h3⟩
    · exact ⟨_, S', g', h1, h2, h3⟩)
theorem PW.cond {c : Operand} {x y : Code} {Q : PE → St → Prop} {S : St} {b : Bool} (hb : S.ev c = .p (.one (.bool b))) (ht : b = true → PW P GL ks x Q S) (hf : b = false → PW P GL ks y Q S) : PW P GL ks (.cond c x y) Q S := fun wt Fb I a w g hG hk hs => by
  have hv := hs.evs c
  rw [hb] at hv
  exact wp_cond_split (show a.eval c = .bool b from hv) (fun h => ht h wt Fb I a w g hG hk hs) (fun h => hf h wt Fb I a w g hG hk hs)
theorem PW.block {id : Nat} {c : Code} {Q : PE → St → Prop} {S : St} (h : PW P GL ks c (PE.inBlock id Q) S) : PW P GL ks (.block id c) Q S := fun wt Fb I a w g hG hk hs =>
  wp_block (wp_mono (h wt Fb I a w g hG hk hs) fun e a' w' hq => by
    obtain ⟨e', S', g', h1, h2, h3⟩ := hq
    cases e' <;> cases e <;> first | exact h1.elim | skip
    · exact ⟨_, S', g', h1, h2, h3⟩
    · have e1 := h1; simp only [ERel] at e1; subst e1
      simp only [PE.inBlock] at h3
      show if _ = id then _ else _
      split
      · rename_i e2; rw [if_pos e2] at h3; exact ⟨.normal, S', g', trivial, h2, h3⟩
      · rename_i e2; rw [if_neg e2] at h3; exact ⟨_, S', g', h1, h2, h3⟩
    · exact ⟨_, S', g', h1, h2, h3⟩
    · exact ⟨_, S', g', h1, h2, h3⟩)
theorem PW.region {id : Nat} {ops : Array Oper} {Q : PE → St → Prop} {S : St} (hE : EnvOk P E) (h : PL P E GL ops Q ops.toList S) : PW P GL ks (.region id ops false) Q S := fun wt Fb I a w g hG hk hs =>
  wp_region_list (PL_sound hE hG ops.toList S a w g hs h)
theorem PW.draw {id : Nat} {ops : Array Oper} {Q : PE → St → Prop} {S : St} (hm : P.follows .mixedOrders = true) (hE : EnvOk P E) (h : PD P E GL ops (Q .normal) ops.toList [] S) : PW P GL ks (.region id ops true) Q S := fun wt Fb I a w g hG hk hs =>
  PD_sound hm hE hG hs h fun S' a' w' g' h1 h2 => ⟨.normal, S', g', trivial, h1, h2⟩
theorem PW.loop {c : Code} {Q : PE → St → Prop} {S : St} (J : Nat → St → Prop) {n : Nat} {S0 : St} (h0 : Wk ks S S0) (hJ : J n S0)
    (hstep : ∀ n S', J n S' → PW P GL ks c (PE.then (fun S'' => ∃ m S3, m < n ∧ Wk ks S'' S3 ∧ J m S3) Q) S') : PW P GL ks (.loop c) Q S := by
  intro wt Fb I a w g hG hk hs
  obtain ⟨g0, hs0⟩ := h0 wt Fb I a w g hk hs
  intro b k cs
  have key : ∀ n S a w g, J n S → SR wt Fb I S a w g →
      ∃ e a' w', QL wt Fb I Q e a' w' ∧ Arrives P (lone (b.at a (.code c :: .inLoop c :: k)) cs w) b k cs e a' w' := by
    intro n
    induction n using Nat.strongRecOn with
    | _ n ih =>
      intro S a w g hJ hs
      obtain ⟨e, a₁, w₁, ⟨e', S1, g1, hr, hs1, hq⟩, harr⟩ := hstep n S hJ wt Fb I a w g hG hk hs b (.inLoop c :: k) cs
      cases e' <;> cases e <;> first | exact hr.elim | skip
      · obtain ⟨m, S3, hlt, hwk, hJ3⟩ := hq
        obtain ⟨g3, hs3⟩ := hwk wt Fb I _ _ g1 hk hs1
        obtain ⟨e₂, a₂, w₂, hq₂, harr₂⟩ := ih m hlt S3 a₁ w₁ g3 hJ3 hs3
        exact ⟨e₂, a₂, w₂, hq₂, .of_steps (Steps.trans harr (.one step_inLoop)) harr₂⟩
      · exact ⟨_, a₁, w₁, ⟨_, S1, g1, hr, hs1, hq⟩, .pass (x := .inLoop c) rfl (fun _ _ => .inl (by simp)) harr⟩
      · exact ⟨_, a₁, w₁, ⟨_, S1, g1, hr, hs1, hq⟩, .pass (x := .inLoop c) rfl (fun _ _ => .inl (by simp)) harr⟩
      · exact ⟨_, a₁, w₁, ⟨_, S1, g1, hr, hs1, hq⟩, .pass (x := .inLoop c) rfl (fun _ _ => .inl (by simp)) harr⟩
  obtain ⟨e, a', w', hq, harr⟩ := key n S0 a w g0 hJ hs0
  exact ⟨e, a', w', hq, .of_steps (.one step_loop) harr⟩

/-- A cell that says no more, its names turned. -/
def VAcc (σ : Nat → Option Nat) (R R' : Nat → Option Res) (e : Ty) (l : List e.T) (T id' ver' : Nat) : Cell → Prop
  | .acc e2 l2 T2 id ver => (⟨e2, l2⟩ : (e : Ty) × List e.T) = ⟨e, l⟩ ∧ T = T2 ∧ σ id' = some id ∧ R' id' = some (.tok ver') ∧ R id = some (.tok ver)
  | .lit (.slice none 0 0) => l = [] ∧ σ id' = none ∧ R' id' = some (.tok ver')
  | _ => False
def VPtr (σ : Nat → Option Nat) (R' : Nat → Option Res) (id' off' : Nat) : Cell → Prop
  | .ptr id off => off' = off ∧ σ id' = some id ∧ (match R' id' with | some (.blk _) => True | _ => False)
  | _ => False
def VRow (σ : Nat → Option Nat) (R R' : Nat → Option Res) (e : Ty) (T id' ver' : Nat) : Cell → Prop
  | .row e2 T2 id ver => σ id' = some id ∧ T2 = T ∧ e2 = e ∧ ∃ l, R' id' = some (.row e l T ver') ∧ R id = some (.row e l T ver)
  | .lit (.slice none 0 0) => σ id' = none ∧ R' id' = some (.row e [] T ver')
  | _ => False
/-- A list that may be written is handed on as data: no one may write it any more. -/
def VFrz (σ : Nat → Option Nat) (R R' : Nat → Option Res) (e : Ty) (l : List e.T) : Cell → Prop
  | .row e2 T id ver => e2 = e ∧ R id = some (.row e l T ver) ∧ ∀ id', R' id' ≠ none → σ id' ≠ some id
  | d => CLe (.lst e l) d
def VCell (σ : Nat → Option Nat) (R R' : Nat → Option Res) : Cell → Cell → Prop
  | .dead, _ => True
  | .lst e l, d => VFrz σ R R' e l d
  | .row e T id' ver', d => VRow σ R R' e T id' ver' d
  | .rptr _ _ _ _ _ _, _ => False
  | .acc e l T id' ver', d => VAcc σ R R' e l T id' ver' d
  | .ptr id' off', d => VPtr σ R' id' off' d
  | c', c => CLe c' c
def VCells (σ : Nat → Option Nat) (R R' : Nat → Option Res) : List Cell → List Cell → Prop
  | [], [] => True
  | c :: cs, d :: ds => (VCell σ R R' c d ∧ c ≠ .dead) ∧ VCells σ R R' cs ds
  | _, _ => False
def VP1 (σ : Nat → Option Nat) (R R' : Nat → Option Res) : P1 → P1 → Prop
  | .one c, .one d => VCell σ R R' c d
  | .agg cs, .agg ds => VCells σ R R' cs ds
  | _, _ => False
def VPV (σ : Nat → Option Nat) (R R' : Nat → Option Res) : PVal → PVal → Prop
  | .p x, .p y => VP1 σ R R' x y
  | _, _ => False
def VTmps (σ : Nat → Option Nat) (S S' : St) : List (Nat × PVal) → Prop
  | [] => True
  | x :: l => VPV σ S.R S'.R x.2 (S.get x.1) ∧ VTmps σ S S' l
def VRes1 (σ : Nat → Option Nat) (S S' : St) (r' : Res) : Option Nat → Prop
  | none => match r' with | .tok _ => True | .row _ l _ _ => List.length l = 0 | _ => False
  | some id => match r', S.R id with
    | .blk cs', some (.blk cs) => VCells σ S.R S'.R cs' cs
    | .tok _, some (.tok _) => True
    | .row e' l' T' _, some (.row e l T _) => (⟨e', l'⟩ : (e : Ty) × List e.T) = ⟨e, l⟩ ∧ T' = T
    | _, _ => False
def VRes (σ : Nat → Option Nat) (S S' : St) : List (Nat × Res) → Prop
  | [] => True
  | x :: l => VRes1 σ S S' x.2 (σ x.1) ∧ VRes σ S S' l
def VKs (σ : Nat → Option Nat) (S S' : St) : List Nat → Prop
  | [] => True
  | id :: l => (match S.R id, S'.R id with | some (.blk _), some (.blk _) => σ id = some id | some (.tok v), some (.tok v') => (σ id = some id ∧ v' = v) ∨ v < v' | some (.row e l T v), some (.row e' l' T' v') => e' = e ∧ T' = T ∧ ((σ id = some id ∧ v' = v ∧ List.length l' = List.length l) ∨ v < v') | _, _ => False) ∧ VKs σ S S' l
section wk
variable {w : World} {W W' : Nat → Nat → Prop} {R R' : Nat → Option Res} {g g' : Gh} {σ : Nat → Option Nat}
def Gh.via (g : Gh) (σ : Nat → Option Nat) : Gh := ⟨fun i => (σ i).bind g.loc, fun i => match σ i with | some j => g.tip j | none => 0⟩
theorem VCell.sound (hW : ∀ b o, W' b o → W b o) (hfz : ∀ id (e : Ty) (l : List e.T) T ver, R id = some (.row e l T ver) → (∀ id', R' id' ≠ none → σ id' ≠ some id) → DV w W' (.list e) l [rowV g id (List.length l)]) {c d : Cell} {v : Value} (h : VCell σ R R' c d) (hv : CV w W R g v d) : CV w W' R' (g.via σ) v c := by
  unfold VCell at h
  split at h
  · exact trivial
  · unfold VFrz at h
    split at h
    · obtain ⟨rfl, h2, h3⟩ := h
      obtain ⟨l0, v0, k1, k2, k3, k4⟩ := hv
      rw [h2] at k1
      cases k1
      have := hfz _ _ _ _ _ h2 h3
      rw [k4 rfl]
      exact this
    · exact DV.mono (Kp.of_sub hW) (CLe.sound h hv)
  · unfold VRow at h
    split at h
    · obtain ⟨h3, rfl, rfl, l, h4, h5⟩ := h
      obtain ⟨l0, v0, k1, k2, k3, k4⟩ := hv
      rw [h5] at k1
      cases k1
      refine ⟨l, _, h4, Nat.le_refl _, k3, fun _ => ?_⟩
      rw [k4 rfl]
      exact (rowV_eq (by simp [Gh.via, h3]) (by simp [Gh.via, h3])).symm
    · obtain ⟨h3, h4⟩ := h
      have : v = .slice none 0 0 := hv.1
      subst this
      exact ⟨[], _, h4, Nat.le_refl _, rfl, fun _ => by simp [rowV, Gh.via, h3]⟩
    · exact h.elim
  · exact h.elim
  · unfold VAcc at h
    split at h
    · obtain ⟨h1, rfl, h3, h4, h5⟩ := h
      cases h1
      obtain ⟨k1, ver1, k2, k3, k4⟩ := hv
      rw [h5] at k2
      cases k2
      obtain ⟨q1, xs, q2, q3⟩ := k4 rfl
      refine ⟨DV.mono (Kp.of_sub hW) k1, _, h4, Nat.le_refl _, fun _ => ⟨by simp [Gh.via, h3, q1], xs, q2, fun b hb => ?_⟩⟩
      simp only [Gh.via, h3, Option.bind_some] at hb ⊢
      exact q3 b hb
    · obtain ⟨rfl, h3, h4⟩ := h
      have : v = .slice none 0 0 := hv.1
      subst this
      refine ⟨⟨none, 0, rfl, Nat.le_refl _, by simp [lenOk], .inl rfl⟩, _, h4, Nat.le_refl _, fun _ => ⟨by simp [Gh.via, h3, Value.ownBlock], [], World.ownsRow_nil _ _ _ _, fun b hb => by simp [Gh.via, h3] at hb⟩⟩
    · exact h.elim
  · unfold VPtr at h
    split at h
    · obtain ⟨rfl, h3, h4⟩ := h
      obtain ⟨b, cs, k1, k2, k3⟩ := hv
      split at h4
      · rename_i cs' hcs
        exact ⟨b, cs', hcs, by simp [Gh.via, h3, k2], k3⟩
      · exact h4.elim
    · exact h.elim
  · rename_i n1 n4 n5 n6 n2 n3
    have h1 := CLe.sound h hv
    cases c with
    | lst e l => exact DV.mono (Kp.of_sub hW) h1
    | row e T id ver => exact (n5 _ _ _ _ rfl).elim
    | rptr e T id ver i off => exact (n6 _ _ _ _ _ _ rfl).elim
    | acc e l T id ver => exact (n2 _ _ _ _ _ rfl).elim
    | ptr id off => exact (n3 _ _ rfl).elim
    | eptr τ x off =>
      obtain ⟨b, o, vs, k1, k2, k3⟩ := h1
      exact ⟨b, o, vs, k1, DV.mono (Kp.of_sub hW) k2, fun j u hu => ⟨(k3 j u hu).1, fun hw => (k3 j u hu).2 (hW _ _ hw)⟩⟩
    | _ => exact h1
theorem VCells.sound (hW : ∀ b o, W' b o → W b o) (hfz : ∀ id (e : Ty) (l : List e.T) T ver, R id = some (.row e l T ver) → (∀ id', R' id' ≠ none → σ id' ≠ some id) → DV w W' (.list e) l [rowV g id (List.length l)]) : ∀ {cs ds : List Cell} {vs : List Value}, VCells σ R R' cs ds → CVs w W R g vs ds → CVs w W' R' (g.via σ) vs cs
  | [], [], [], _, _ => trivial
  | _ :: _, _ :: _, _ :: _, h, hv => ⟨⟨VCell.sound hW hfz h.1.1 hv.1.1, hv.1.2⟩, VCells.sound hW hfz h.2 hv.2⟩
  | [], [], _ :: _, _, hv => hv.elim
  | _ :: _, _ :: _, [], _, hv => hv.elim
  | [], _ :: _, _, h, _ => h.elim
  | _ :: _, [], _, h, _ => h.elim
theorem VPV.sound (hW : ∀ b o, W' b o → W b o) (hfz : ∀ id (e : Ty) (l : List e.T) T ver, R id = some (.row e l T ver) → (∀ id', R' id' ≠ none → σ id' ≠ some id) → DV w W' (.list e) l [rowV g id (List.length l)]) {x y : PVal} {v : Value} (h : VPV σ R R' x y) (hv : PV w W R g v y) : PV w W' R' (g.via σ) v x := by
  cases x with
  | tup ps => cases y <;> exact h.elim
  | p x => cases y with
    | tup ps => exact h.elim
    | p y => cases x with
      | one c => cases y with
        | one d => exact VCell.sound hW hfz h hv
        | agg ds => exact h.elim
      | agg cs => cases y with
        | one d => exact h.elim
        | agg ds => obtain ⟨vs, e, hv⟩ := hv; exact ⟨vs, e, VCells.sound hW hfz h hv⟩
end wk
theorem VTmps.get {σ : Nat → Option Nat} {S S' : St} : ∀ {l : List (Nat × PVal)} {t : Nat} {p : PVal}, VTmps σ S S' l → l.lookup t = some p → VPV σ S.R S'.R p (S.get t)
  | [], t, p, _, h => by simp at h
  | (k, q) :: l, t, p, hv, h => by
    simp only [List.lookup] at h
    split at h
    · rename_i e
      have : t = k := by simpa using e
      subst this
      cases h
      exact hv.1
    · exact VTmps.get hv.2 h
theorem VRes.get {σ : Nat → Option Nat} {S S' : St} : ∀ {l : List (Nat × Res)} {id : Nat} {r : Res}, VRes σ S S' l → l.lookup id = some r → VRes1 σ S S' r (σ id)
  | [], _, _, _, h => by simp at h
  | (k, q) :: l, id, r, hv, h => by
    simp only [List.lookup] at h
    split at h
    · rename_i e
      have : id = k := by simpa using e
      subst this
      cases h
      exact hv.1
    · exact VRes.get hv.2 h
theorem VKs.get {σ : Nat → Option Nat} {S S' : St} : ∀ {l : List Nat} {id : Nat}, VKs σ S S' l → id ∈ l → (match S.R id, S'.R id with | some (.blk _), some (.blk _) => σ id = some id | some (.tok v), some (.tok v') => (σ id = some id ∧ v' = v) ∨ v < v' | some (.row e l T v), some (.row e' l' T' v') => e' = e ∧ T' = T ∧ ((σ id = some id ∧ v' = v ∧ List.length l' = List.length l) ∨ v < v') | _, _ => False)
  | [], _, _, h => by cases h
  | k :: l, id, hv, h => by
    rcases List.mem_cons.1 h with rfl | h
    · exact hv.1
    · exact VKs.get hv.2 h
/-- A smaller state, its names turned. -/
theorem Wk.of (σ : Nat → Option Nat) {S S' : St} (hn : S'.n = S.n) (ht : VTmps σ S S' S'.tmps) (hr : VRes σ S S' S'.res) (hk : VKs σ S S' ks)
    (hinj : ∀ x ∈ S'.res, ∀ y ∈ S'.res, ∀ j, σ x.1 = some j → σ y.1 = some j → x.1 = y.1) : Wk ks S S' := by
  intro wt Fb I a w g hks hs
  have hmem : ∀ id r, S'.R id = some r → ∃ x ∈ S'.res, x.1 = id := fun id r h => ⟨(id, r), lk_mem h, rfl⟩
  have hkind : ∀ id r, S'.R id = some r → VRes1 σ S S' r (σ id) := fun id r h => hr.get h
  have hown : ∀ b o, own S'.R (g.via σ) b o → own S.R g b o := by
    rintro b o ⟨id, r, h1, h2, h3⟩
    have hk := hkind id r h1
    cases hσ : σ id with
    | none => simp [Gh.via, hσ] at h2
    | some j =>
      rw [hσ] at hk
      simp only [Gh.via, hσ, Option.bind_some] at h2 h3
      simp only [VRes1] at hk
      split at hk
      · rename_i cs' cs hcs
        exact ⟨j, _, hcs, h2, fun v hv => by cases hv⟩
      · rename_i v' v hv
        exact ⟨j, _, hv, h2, fun v1 hv1 => h3 _ rfl⟩
      · rename_i hv
        exact ⟨j, _, hv, h2, fun v1 hv1 => by cases hv1⟩
      · exact hk.elim
  have hW : ∀ b o, Wr Fb S'.R (g.via σ) b o → Wr Fb S.R g b o := fun b o h => h.imp id (hown b o)
  have hlocs : ∀ id r b, S'.R id = some r → (g.via σ).loc id = some b → ∃ j r1, σ id = some j ∧ S.R j = some r1 ∧ g.loc j = some b := by
    intro id r b h1 h2
    have hk := hkind id r h1
    cases hσ : σ id with
    | none => simp [Gh.via, hσ] at h2
    | some j =>
      rw [hσ] at hk
      simp only [Gh.via, hσ, Option.bind_some] at h2
      simp only [VRes1] at hk
      split at hk
      · rename_i cs' cs hcs; exact ⟨j, _, rfl, hcs, h2⟩
      · rename_i v' v hv; exact ⟨j, _, rfl, hv, h2⟩
      · rename_i hv; exact ⟨j, _, rfl, hv, h2⟩
      · exact hk.elim
  have hfz : ∀ id (e : Ty) (l : List e.T) T ver, S.R id = some (.row e l T ver) → (∀ id', S'.R id' ≠ none → σ id' ≠ some id) → DV w (Wr Fb S'.R (g.via σ)) (.list e) l [rowV g id (List.length l)] := by
    intro id e l T ver h1 h2
    obtain ⟨xs, k1, k2⟩ := hs.hr.res id _ h1
    refine DV_of_row k1 (k2.mono fun x vs h => DV.mono (Kp.of_sub hW) h) ?_
    intro b o hb _ hw
    rw [rowV_block] at hb
    rcases hw with hf | ⟨id', r', q1, q2, _⟩
    · exact hs.hr.fb id _ b o h1 hb hf
    · obtain ⟨j, r1, e1, p1, p2⟩ := hlocs id' r' b q1 q2
      have := hs.hr.inj j id _ _ b p1 h1 p2 hb
      subst this
      exact h2 id' (by rw [q1]; simp) e1
  refine ⟨g.via σ, ⟨⟨fun id r h1 => ?_, ?_, ?_, ?_, hs.hr.fbs, hs.hr.bel⟩, by rw [hn]; exact hs.n, hs.df, ?_, hs.fr, fun b o ho hb => hs.sub b o (hown b o ho) hb, ?_⟩⟩
  · have hk := hkind id r h1
    cases hσ : σ id with
    | none =>
      rw [hσ] at hk
      cases r with
      | blk cs => exact hk.elim
      | tok v => intro b hb; simp [Gh.via, hσ] at hb
      | row e l T v =>
        have h0 : List.length l = 0 := hk
        have : l = [] := List.eq_nil_of_length_eq_zero h0
        subst this
        have hv : rowV (g.via σ) id 0 = .slice none 0 0 := by simp [rowV, Gh.via, hσ]
        exact ⟨[], by rw [List.length_nil, hv]; exact World.ownsRow_nil _ _ _ _, by simp, fun i x h => by simp at h⟩
    | some j =>
      rw [hσ] at hk
      simp only [VRes1] at hk
      split at hk
      · rename_i cs' cs hcs
        obtain ⟨b, T, vs, k1, k2, k3⟩ := hs.hr.res j _ hcs
        exact ⟨b, T, vs, by simp [Gh.via, hσ, k1], k2, VCells.sound hW hfz hk k3⟩
      · rename_i v' v hv
        intro b hb
        simp only [Gh.via, hσ, Option.bind_some] at hb
        exact hs.hr.res j _ hv b hb
      · rename_i hv
        obtain ⟨k1, k2⟩ := hk
        cases k1
        subst k2
        obtain ⟨xs, p1, p2⟩ := hs.hr.res j _ hv
        exact ⟨xs, by rw [rowV_eq (g := g) (id := j) (by simp [Gh.via, hσ]) (by simp [Gh.via, hσ])]; exact p1, p2.mono fun x vs h => DV.mono (Kp.of_sub hW) h⟩
      · exact hk.elim
  · intro id id' r r' b h1 h2 h3 h4
    obtain ⟨j, r1, e1, k1, k2⟩ := hlocs id r b h1 h3
    obtain ⟨j', r1', e1', k1', k2'⟩ := hlocs id' r' b h2 h4
    have := hs.hr.inj j j' _ _ b k1 k1' k2 k2'
    subst this
    obtain ⟨x, hx, rfl⟩ := hmem id r h1
    obtain ⟨y, hy, rfl⟩ := hmem id' r' h2
    exact hinj x hx y hy j e1 e1'
  · intro id r b h1 h2
    obtain ⟨j, r1, e1, k1, k2⟩ := hlocs id r b h1 h2
    exact hs.hr.base j _ b k1 k2
  · intro id r b o h1 h2
    obtain ⟨j, r1, e1, k1, k2⟩ := hlocs id r b h1 h2
    exact hs.hr.fb j _ b o k1 k2
  · intro t p hp
    have h1 := ht.get hp
    have h2 : PV w (Wr Fb S.R g) S.R g (a.tmps.getD t undef) (S.get t) := hs.evs (.tmp t)
    exact VPV.sound hW hfz h1 h2
  · intro id r h0
    have hm := hk.get (hks id r h0)
    obtain ⟨r', h1, h2⟩ := hs.lv id r h0
    rw [h1] at hm
    cases hq : S'.R id with
    | none => rw [hq] at hm; cases r' <;> exact hm.elim
    | some r2 =>
      rw [hq] at hm
      refine ⟨r2, rfl, ?_⟩
      cases r' with
      | row e l T v => cases r2 with
        | tok _ => exact hm.elim
        | blk _ => exact hm.elim
        | row e2 l2 T2 v2 => cases r with
          | tok _ => exact h2.elim
          | blk _ => exact h2.elim
          | row e3 l3 T3 v3 =>
            obtain ⟨m1, m2, m3⟩ := hm
            obtain ⟨n1, n2, n3, n4⟩ := h2
            rcases m3 with ⟨hσ, rfl, hlen⟩ | hlt
            · refine ⟨m1.trans n1, m2.trans n2, n3, fun e => ?_⟩
              obtain ⟨p1, p2, p3⟩ := n4 e
              exact ⟨hlen.trans p1, (show (g.via σ).loc id = g.loc id by simp [Gh.via, hσ]).trans p2, (show (g.via σ).tip id = g.tip id by simp [Gh.via, hσ]).trans p3⟩
            · exact ⟨m1.trans n1, m2.trans n2, by omega, fun e => by omega⟩
      | blk cs => cases r2 with
        | tok v => exact hm.elim
        | row _ _ _ _ => exact hm.elim
        | blk ds => cases r with
          | tok v => exact h2.elim
          | row _ _ _ _ => exact h2.elim
          | blk es =>
            have hσ : σ id = some id := hm
            exact (show (g.via σ).loc id = g.loc id by simp [Gh.via, hσ]).trans h2
      | tok v => cases r2 with
        | blk cs => exact hm.elim
        | row _ _ _ _ => exact hm.elim
        | tok v2 => cases r with
          | blk es => exact h2.elim
          | row _ _ _ _ => exact h2.elim
          | tok v3 =>
            rcases hm with ⟨hσ, e⟩ | e
            · subst e
              have hloc : (g.via σ).loc id = g.loc id := by simp [Gh.via, hσ]
              have htip : (g.via σ).tip id = g.tip id := by simp [Gh.via, hσ]
              exact ⟨h2.1, fun e => ⟨hloc.trans (h2.2 e).1, htip.trans (h2.2 e).2.1, (h2.2 e).2.2⟩⟩
            · have := h2.1
              exact ⟨by omega, fun e => by omega⟩

/-- What a function hands back. -/
def resOne (E : EnvT) (S : St) : ResultVar → Option P1
  | .tmp t => match S.get t with | .p x => some x | _ => none
  | .cell t T => match S.get t, E T with
    | .p (.one (.ptr id off)), some i => match S.R id with
      | some (.blk cs) => partF cs off i.size i.agg
      | _ => none
    | _, _ => none
def resF (E : EnvT) (S : St) (l : List ResultVar) : Option PVal :=
  match allSome (resOne E S) l with
  | some [x] => some (.p x)
  | some xs => some (.tup xs)
  | none => none
def RsLe (S : St) : List (Nat × Res) → Prop
  | [] => True
  | x :: l => (match S.R x.1 with | some r => RLe x.2 r | none => False) ∧ RsLe S l
/-- The end of a body. -/
def Post (E : EnvT) (fn : Func) (ks : List Nat) (out : Out) (rs' : List (Nat × Res)) (e : PE) (S : St) : Prop :=
  RsLe S rs' ∧ (rs'.map fun x => x.1).Nodup ∧ (∀ x ∈ rs', okR rs' x.2) ∧ (∀ k ∈ ks, k ∈ rs'.map fun x => x.1) ∧
  match e with
  | .normal | .ret => ∃ p p0, out = .ret p ∧ resF E S fn.results.toList = some p0 ∧ PLe p p0 ∧ okP rs' p
  | .pan v => out = .pan v
  | .exit _ => False
theorem RsLe.get {S : St} : ∀ {l : List (Nat × Res)} {id : Nat} {r : Res}, RsLe S l → lk l id = some r → ∃ r1, S.R id = some r1 ∧ RLe r r1
  | [], _, _, _, h => by simp [lk] at h
  | (k, q) :: l, id, r, hv, h => by
    simp only [lk, List.lookup] at h
    split at h
    · rename_i e
      have : id = k := by simpa using e
      subst this
      cases h
      have := hv.1
      split at this
      · rename_i r1 h1; exact ⟨r1, h1, this⟩
      · exact this.elim
    · exact RsLe.get hv.2 h
theorem ren_id_cell (c : Cell) : c.ren id (fun _ => 0) = c := by cases c <;> simp [Cell.ren]
theorem ren_id_cells (cs : List Cell) : cs.map (Cell.ren id (fun _ => 0)) = cs := by
  induction cs with
  | nil => rfl
  | cons c cs ih => simp [ren_id_cell, ih]
theorem ren_id_p1 (x : P1) : x.ren id (fun _ => 0) = x := by cases x <;> simp [P1.ren, ren_id_cell, ren_id_cells]
theorem ren_id_pv (x : PVal) : x.ren id (fun _ => 0) = x := by
  cases x with
  | p x => simp [PVal.ren, ren_id_p1]
  | tup ps =>
    simp only [PVal.ren]
    congr 1
    induction ps with
    | nil => rfl
    | cons c cs ih => simp [ren_id_p1, ih]
theorem ren_id_res (i : Nat) (r : Res) : r.ren id (fun _ => 0) i = r := by cases r <;> simp [Res.ren, ren_id_cells]
def rvSem (a : Act) : ResultVar → Sem Value
  | .tmp t => pure (a.tmps.getD t undef)
  | .cell c t => do loadVar t (← asAddr (a.tmps.getD c undef))
theorem resOne_run {wt : World} {Fb : Nat → Nat → Prop} {I : Ini} {S : St} {a : Act} {w : World} {g : Gh} (hs : SR wt Fb I S a w g) {rv : ResultVar} {x : P1} (hE : EnvOk P E) (h : resOne E S rv = some x) :
    ∃ v, (rvSem a rv).run P w = .ok v w ∧ P1V w (Wr Fb S.R g) S.R g v x := by
  cases rv with
  | tmp t =>
    simp only [resOne] at h
    have hv : PV w (Wr Fb S.R g) S.R g (a.tmps.getD t undef) (S.get t) := hs.evs (.tmp t)
    split at h
    · rename_i y e
      cases h
      rw [e] at hv
      exact ⟨_, rfl, hv⟩
    · cases h
  | cell t T =>
    simp only [resOne] at h
    have hv : PV w (Wr Fb S.R g) S.R g (a.tmps.getD t undef) (S.get t) := hs.evs (.tmp t)
    split at h
    · rename_i id off i e ht
      rw [e] at hv
      obtain ⟨info, d, zz, h1, h2, h3, h4, h5, rfl⟩ := ti_spec (hE _ _ ht)
      split at h
      · rename_i cs hcs
        obtain ⟨b, cs', hh1, hh2, hv⟩ := hv
        obtain ⟨b', T', vs, j1, j2, j3⟩ := hs.hr.res id _ hcs
        rw [hh2] at j1
        cases j1
        obtain ⟨v, hrun, hp⟩ := load_part (P := P) (b := b) (o := 0) h1 h2 j3 (fun j u hu => by
          rw [Nat.zero_add]
          unfold World.cell?
          simp only [j2]
          simpa using hu) h
        rw [Nat.zero_add] at hrun
        refine ⟨v, ?_, hp⟩
        simp only [rvSem, hv, asAddr, Sem.run_bind, Sem.run_pure, Result.andThen]
        exact hrun
      · cases h
    · cases h
theorem mapM_run {wt : World} {Fb : Nat → Nat → Prop} {I : Ini} {S : St} {a : Act} {w : World} {g : Gh} (hE : EnvOk P E) (hs : SR wt Fb I S a w g) : ∀ {l : List ResultVar} {xs : List P1}, allSome (resOne E S) l = some xs →
    ∃ vs : List Value, (l.mapM (rvSem a)).run P w = .ok vs w ∧ P1Vs w (Wr Fb S.R g) S.R g vs xs
  | [], xs, h => by cases h; exact ⟨[], rfl, trivial⟩
  | rv :: l, xs, h => by
    simp only [allSome, Option.bind_eq_some_iff, Option.map_eq_some_iff] at h
    obtain ⟨y, hy, ys, hys, rfl⟩ := h
    obtain ⟨v, h1, h2⟩ := resOne_run hs hE hy
    obtain ⟨vs, h3, h4⟩ := mapM_run hE hs hys
    refine ⟨v :: vs, ?_, h2, h4⟩
    rw [List.mapM_cons, Sem.run_bind, h1]
    simp only [Result.andThen, Sem.run_bind, h3, Sem.run_pure]
theorem results_run {wt : World} {Fb : Nat → Nat → Prop} {I : Ini} {S : St} {a : Act} {w : World} {g : Gh} {fn : Func} {p : PVal} (hE : EnvOk P E) (hs : SR wt Fb I S a w g) (h : resF E S fn.results.toList = some p) :
    ∃ v, (results fn a.tmps).run P w = .ok v w ∧ PV w (Wr Fb S.R g) S.R g v p := by
  unfold resF at h
  cases hx : allSome (resOne E S) fn.results.toList with
  | none => rw [hx] at h; cases h
  | some xs =>
    rw [hx] at h
    obtain ⟨vs, h1, h2⟩ := mapM_run (P := P) hE hs hx
    have e0 : results fn a.tmps = (do
        let vs ← fn.results.mapM (rvSem a)
        pure (if h : vs.size = 1 then vs[0] else .tuple vs)) := by
      unfold results
      congr 2
    have e1 : fn.results.mapM (rvSem a) = (fun l => List.toArray l) <$> fn.results.toList.mapM (rvSem a) := by
      rw [Array.mapM_eq_mapM_toList]
    rw [e0]
    simp only [e1, Sem.run_bind, Sem.run_map, h1, Result.andThen, Sem.run_pure]
    match xs, vs, h, h2 with
    | [x], [v], h, h2 => cases h; exact ⟨v, by simp, h2.1⟩
    | [], [], h, h2 => cases h; exact ⟨.tuple #[], by simp, [], by simp, trivial⟩
    | x :: y :: l, v :: u :: m, h, h2 => cases h; exact ⟨.tuple (List.toArray (v :: u :: m)), by simp, _, rfl, h2⟩
    | [], _ :: _, h, h2 => exact h2.elim
    | [x], [], h, h2 => exact h2.elim
    | [x], _ :: _ :: _, h, h2 => exact h2.2.elim
    | x :: y :: l, [], h, h2 => exact h2.elim
    | x :: y :: l, [v], h, h2 => exact h2.2.elim
/-- The slots at a call's begin. -/
def args0 : List PVal → Nat → List (Nat × PVal)
  | [], _ => []
  | p :: ps, k => (k, p) :: args0 ps (k + 1)
theorem args0_lookup {w : World} {W : Nat → Nat → Prop} {R : Nat → Option Res} {g : Gh} : ∀ {vs : List Value} {ps : List PVal} {k t : Nat} {p : PVal}, PVs w W R g vs ps → (args0 ps k).lookup t = some p → ∃ v, k ≤ t ∧ vs[t - k]? = some v ∧ PV w W R g v p
  | [], [], k, t, p, _, h => by simp [args0] at h
  | v :: vs, q :: ps, k, t, p, hv, h => by
    simp only [args0, List.lookup] at h
    split at h
    · rename_i e
      have : t = k := by simpa using e
      subst this
      cases h
      exact ⟨v, Nat.le_refl _, by simp, hv.1⟩
    · rename_i e
      obtain ⟨u, h1, h2, h3⟩ := args0_lookup hv.2 h
      refine ⟨u, by omega, ?_, h3⟩
      rw [show t - k = (t - (k + 1)) + 1 by omega]
      simpa using h2
  | [], _ :: _, _, _, _, h, _ => h.elim
  | _ :: _, [], _, _, _, h, _ => h.elim
theorem PVs.len {w : World} {W : Nat → Nat → Prop} {R : Nat → Option Res} {g : Gh} : ∀ {vs : List Value} {ps : List PVal}, PVs w W R g vs ps → vs.length = ps.length
  | [], [], _ => rfl
  | _ :: _, _ :: _, h => by simp [PVs.len h.2]
  | [], _ :: _, h => h.elim
  | _ :: _, [], h => h.elim
/-- A body's plain run gives its function's contract. -/
theorem Con.of {f : FuncId} {fn : Func} {c : Code} {ps : List PVal} {rs rs' : List (Nat × Res)} {out : Out} (hE : EnvOk P E) (hf : P.funcs[f]? = some fn) (hb : fn.body = some c) (hn : ps.length ≤ fn.ntmps)
    (h : PW P GL (rs.map fun x => x.1) c (Post E fn (rs.map fun x => x.1) out rs') ⟨fn.ntmps, args0 ps 0, rs⟩) : Con P GL f ps rs out rs' := by
  intro wt w Fb g vs hG hr hvs
  refine calls_of_wp hf hb ?_
  have hlen := PVs.len hvs
  let I : Ini := ⟨w, own (lk rs) g, lk rs, g⟩
  have hs : SR wt Fb I ⟨fn.ntmps, args0 ps 0, rs⟩ { tmps := vs.toArray ++ Array.replicate (fn.ntmps - vs.toArray.size) undef, defers := [] } w g := by
    refine ⟨hr, by simp; omega, rfl, fun t p hp => ?_, Fr.refl _ _, fun b o ho _ => ho, fun id r hr' => ⟨r, hr', by cases r <;> first | exact (rfl : g.loc id = g.loc id) | exact ⟨Nat.le_refl _, fun _ => ⟨rfl, rfl, fun _ _ => rfl⟩⟩ | exact ⟨rfl, rfl, Nat.le_refl _, fun _ => ⟨rfl, rfl, rfl⟩⟩⟩⟩
    obtain ⟨v, h1, h2, h3⟩ := args0_lookup hvs hp
    simp only [Nat.sub_zero] at h2
    have : (vs.toArray ++ Array.replicate (fn.ntmps - vs.toArray.size) undef).getD t undef = v := by
      have hlt := (List.getElem?_eq_some_iff.1 h2).1
      rw [Array.getD_eq_getD_getElem?, Array.getElem?_append_left (by simpa using hlt)]
      simp [h2]
    rw [this]
    exact h3
  refine wp_mono (h wt Fb I _ w g hG (fun id r hr' => List.mem_map.2 ⟨(id, r), lk_mem hr', rfl⟩) hs) fun e a' w' hq => ?_
  obtain ⟨e', S', g', hrel, hs', hrs, hnd, hok, hkeys, hpost⟩ := hq
  have hsk : ∀ i r, lk rs' i = some r → ∃ r1, S'.R (id i) = some r1 ∧ sameKind (fun _ => 0) i r r1 := by
    intro i r hi
    obtain ⟨r1, h1, h2⟩ := hrs.get hi
    refine ⟨r1, h1, ?_⟩
    cases r <;> cases r1 <;> first | exact trivial | exact h2.elim | exact ((show _ = _ from h2).symm.trans (Nat.zero_add _).symm) | exact ⟨h2.1, h2.2.1.symm, h2.2.2.symm.trans (Nat.zero_add _).symm⟩
  have hgb : g'.back id = g' := rfl
  have hown : ∀ b o, own (lk rs') g' b o → own S'.R g' b o := by
    rintro b o ⟨i, r, h1, h2, h3⟩
    obtain ⟨r1, h4, h5⟩ := hsk i r h1
    refine ⟨i, r1, h4, h2, fun v hv => ?_⟩
    subst hv
    cases r with
    | blk cs => exact h5.elim
    | row _ _ _ _ => exact h5.elim
    | tok v0 => exact h3 v0 rfl
  have hW : ∀ b o, Wr Fb (lk rs') g' b o → Wr Fb S'.R g' b o := fun b o h => h.imp id (hown b o)
  have hsub : ∀ b o, own (lk rs') g' b o → b < w.heap.size → own (lk rs) g b o := fun b o ho hb => hs'.sub b o (hown b o ho) hb
  have heff : Eff wt Fb w (lk rs) g w' (lk rs') g' := by
    refine ⟨⟨fun i r hi => ?_, ?_, ?_, ?_, hs'.hr.fbs, hs'.hr.bel⟩, ⟨fun b o v hc hn => ?_, fun i r hi => ?_⟩, hs'.fr, hsub⟩
    · obtain ⟨r1, h1, h2⟩ := hrs.get hi
      have hv := hs'.hr.res i r1 h1
      cases r with
      | row e l T v => cases r1 with
        | tok _ => exact h2.elim
        | blk _ => exact h2.elim
        | row e1 l1 T1 v1 =>
          obtain ⟨q1, q2, q3⟩ := h2
          cases q1
          subst q2
          obtain ⟨xs, p1, p2⟩ := hv
          exact ⟨xs, p1, p2.mono fun x vs h => DV.mono (Kp.of_sub hW) h⟩
      | blk cs => cases r1 with
        | tok v => exact h2.elim
        | row _ _ _ _ => exact h2.elim
        | blk ds =>
          obtain ⟨b, T, us, q1, q2, q3⟩ := hv
          refine ⟨b, T, us, q1, q2, ?_⟩
          have := CVs_to (σ := id) (β := fun _ => 0) hsk hW (cs := cs) (g := g') (hok _ (lk_mem hi)) (by rw [ren_id_cells]; exact CLes.sound h2 q3)
          exact this
      | tok v => cases r1 with
        | blk ds => exact h2.elim
        | row _ _ _ _ => exact h2.elim
        | tok v1 => exact hv
    · intro i j r r' b h1 h2 h3 h4
      obtain ⟨r1, k1, _⟩ := hsk i r h1
      obtain ⟨r2, k2, _⟩ := hsk j r' h2
      exact hs'.hr.inj i j _ _ b k1 k2 h3 h4
    · intro i r b h1 h2
      obtain ⟨r1, k1, _⟩ := hsk i r h1
      exact hs'.hr.base i _ b k1 h2
    · intro i r b o h1 h2
      obtain ⟨r1, k1, _⟩ := hsk i r h1
      exact hs'.hr.fb i _ b o k1 h2
    · have hno : ¬ own (lk rs) g b o := fun h => hn (.inr h)
      refine ⟨hs'.fr.cell b o v hc hno, fun hW' => ?_⟩
      rcases hW' with hf' | ho
      · exact hn (.inl hf')
      · exact hno (hsub b o ho (World.block_lt_of_cell? _ _ hc))
    · obtain ⟨r1, h1, h2⟩ := hs'.lv i r hi
      have hin := hkeys i (List.mem_map.2 ⟨(i, r), lk_mem hi, rfl⟩)
      obtain ⟨r2, hr2⟩ := lk_some_of_key hin
      refine ⟨r2, hr2, ?_⟩
      obtain ⟨r3, h3, h4⟩ := hrs.get hr2
      rw [h1] at h3
      cases h3
      cases r with
      | row e l T v => cases r1 with
        | tok _ => exact h2.elim
        | blk _ => exact h2.elim
        | row e1 l1 T1 v1 => cases r2 with
          | tok _ => exact h4.elim
          | blk _ => exact h4.elim
          | row e2 l2 T2 v2 =>
            obtain ⟨q1, q2, q3⟩ := h4
            cases q1
            subst q2 q3
            exact h2
      | blk cs => cases r1 with
        | tok v => exact h2.elim
        | row _ _ _ _ => exact h2.elim
        | blk ds => cases r2 with
          | tok v => exact h4.elim
          | row _ _ _ _ => exact h4.elim
          | blk es => exact h2
      | tok v => cases r1 with
        | blk ds => exact h2.elim
        | row _ _ _ _ => exact h2.elim
        | tok v1 => cases r2 with
          | blk es => exact h4.elim
          | row _ _ _ _ => exact h4.elim
          | tok v2 =>
            have e : v2 = v1 := h4
            subst e
            exact h2
  have fin : ∀ p p0, out = .ret p → resF E S' fn.results.toList = some p0 → PLe p p0 → okP rs' p → ∃ v, (results fn a'.tmps).run P w' = .ok v w' ∧ ∃ g', OutV w' (Wr Fb (lk rs') g') (lk rs') g' (.returned v) out ∧ Eff wt Fb w (lk rs) g w' (lk rs') g' := by
    intro p p0 ho hres hle hokp
    obtain ⟨v, h1, h2⟩ := results_run hE hs' hres
    refine ⟨v, h1, g', ?_, heff⟩
    rw [ho]
    refine ⟨v, rfl, ?_⟩
    have := PV_to (σ := id) (β := fun _ => 0) hsk hW (g := g') hokp (by rw [ren_id_pv]; exact PLe.sound hle h2)
    exact this
  cases e' <;> cases e <;> first | exact hrel.elim | skip
  · obtain ⟨p, p0, h1, h2, h3, h4⟩ := hpost
    obtain ⟨v, k1, k2⟩ := fin p p0 h1 h2 h3 h4
    exact ⟨hs'.df, v, k1, k2⟩
  · exact hpost.elim
  · obtain ⟨p, p0, h1, h2, h3, h4⟩ := hpost
    obtain ⟨v, k1, k2⟩ := fin p p0 h1 h2 h3 h4
    exact ⟨hs'.df, v, k1, k2⟩
  · have e1 := hrel; simp only [ERel] at e1
    subst e1
    rw [show out = .pan _ from hpost]
    exact ⟨hs'.df, g', rfl, heff⟩
end Go.Proofs.YtpmnhbjbkoackaaDoor.En
