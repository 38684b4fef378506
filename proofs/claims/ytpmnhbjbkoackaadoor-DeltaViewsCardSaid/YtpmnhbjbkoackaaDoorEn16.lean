/- The plain run of a body with joins: shapes of kept states, loops and joins told by functions, a body's run, a function's contract. -/
import Derived.Test.YtpmnhbjbkoackaaDoorEn15
namespace Go.Proofs.YtpmnhbjbkoackaaDoor.En
open Go Go.RowKit
set_option linter.unusedVariables false
set_option linter.unusedSimpArgs false
/-- A kept cell: data; a list with the right to append; a pointer into a kept variable; no pointer. -/
inductive KV where
  | v (τ : Ty)
  | t (e : Ty) (T id : Nat)
  | r (e : Ty) (T id : Nat)
  | p (id off : Nat)
  | np
  /-- an empty slice without memory; a function -/
  | nl
  | fn (f : Nat)
@[reducible] def KV.T : KV → Type
  | .v τ => τ.T
  | .t e _ _ => List e.T
  | _ => Unit
def KV.kc : KV → KC
  | .v (.list e) => .d (some e)
  | .v _ => .d none
  | .t e T id => .t e T id
  | .r e T id => .r e T id
  | .p _ _ => .p
  | .np => .d none
  | .nl => .d none
  | .fn _ => .d none
def KV.cell : (k : KV) → k.T → Cell
  | .v (.int k), n => .int k n
  | .v .bool, b => .bool b
  | .v .str, s => .str s
  | .v (.list e), l => .lst e l
  | .v (.pair _ _), _ => .dead
  | .t e T id, l => .acc e l T id 0
  | .r e T id, _ => .row e T id 0
  | .p id off, _ => .ptr id off
  | .np, _ => .lit (.pointer none)
  | .nl, _ => .lit (.slice none 0 0)
  | .fn f, _ => .lit (.func (.func f) #[] #[])
def KV.get : (k : KV) → Cell → Option k.T
  | .v (.int k), .int k' n => if k' = k then some n else none
  | .v .bool, .bool b => some b
  | .v .str, .str s => some s
  | .v (.list e), .lst e' l => if h : e' = e then some (h ▸ l) else none
  | .t e T id, .acc e' l T' id' 0 => if h : e' = e then (if T' = T ∧ id' = id then some (h ▸ l) else none) else none
  | .r e T id, .row e' T' id' 0 => if e' = e ∧ T' = T ∧ id' = id then some () else none
  | .p id off, .ptr id' off' => if id' = id ∧ off' = off then some () else none
  | .np, .lit (.pointer none) => some ()
  | .nl, .lit (.slice none 0 0) => some ()
  | .fn f, .lit (.func (.func f') ⟨[]⟩ ⟨[]⟩) => if f' = f then some () else none
  | _, _ => none
theorem KV.get_eq {k : KV} {c : Cell} {x : k.T} (h : k.get c = some x) : k.cell x = c := by
  unfold KV.get at h
  split at h
  · split at h
    · rename_i e; cases h; subst e; rfl
    · cases h
  · cases h; rfl
  · cases h; rfl
  · split at h
    · rename_i e; cases h; subst e; rfl
    · cases h
  · split at h
    · split at h
      · rename_i e h2; cases h; subst e; obtain ⟨rfl, rfl⟩ := h2; rfl
      · cases h
    · cases h
  · split at h
    · rename_i h2; obtain ⟨rfl, rfl, rfl⟩ := h2; rfl
    · cases h
  · split at h
    · rename_i h2; obtain ⟨rfl, rfl⟩ := h2; rfl
    · cases h
  · rfl
  · rfl
  · split at h
    · rename_i h2; subst h2; rfl
    · cases h
  · cases h
/-- A slot's kept value. -/
inductive K1 where
  | one (k : KV)
  | agg (ks : List KV)
@[reducible] def HL : List KV → Type
  | [] => Unit
  | k :: ks => k.T × HL ks
def cellsH : (ks : List KV) → HL ks → List Cell
  | [], _ => []
  | k :: ks, x => k.cell x.1 :: cellsH ks x.2
def getH : (ks : List KV) → List Cell → Option (HL ks)
  | [], [] => some ()
  | k :: ks, c :: cs => (k.get c).bind fun x => (getH ks cs).bind fun y => some (x, y)
  | _, _ => none
theorem getH_eq : ∀ {ks : List KV} {cs : List Cell} {x : HL ks}, getH ks cs = some x → cellsH ks x = cs
  | [], [], _, _ => rfl
  | k :: ks, c :: cs, x, h => by
    simp only [getH, Option.bind_eq_some_iff] at h
    obtain ⟨y, h1, z, h2, e⟩ := h
    cases e
    simp only [cellsH, KV.get_eq h1, getH_eq h2]
  | [], _ :: _, _, h => by cases h
  | _ :: _, [], _, h => by cases h
@[reducible] def K1.T : K1 → Type
  | .one k => k.T
  | .agg ks => HL ks
def K1.kc : K1 → List KC
  | .one k => [k.kc]
  | .agg ks => ks.map KV.kc
def K1.val : (k : K1) → k.T → PVal
  | .one k, x => .p (.one (k.cell x))
  | .agg ks, x => .p (.agg (cellsH ks x))
def K1.get : (k : K1) → PVal → Option k.T
  | .one k, .p (.one c) => k.get c
  | .agg ks, .p (.agg cs) => getH ks cs
  | _, _ => none
theorem K1.get_eq : ∀ {k : K1} {p : PVal} {x : k.T}, k.get p = some x → k.val x = p
  | .one k, .p (.one c), x, h => by simp only [K1.val, KV.get_eq (show k.get c = some x from h)]
  | .agg ks, .p (.agg cs), x, h => by simp only [K1.val, getH_eq (show getH ks cs = some x from h)]
  | .one _, .p (.agg _), _, h => by cases h
  | .agg _, .p (.one _), _, h => by cases h
  | .one _, .tup _, _, h => by cases h
  | .agg _, .tup _, _, h => by cases h
@[reducible] def HT : List (Nat × K1) → Type
  | [] => Unit
  | k :: ks => k.2.T × HT ks
def slotsH : (ks : List (Nat × K1)) → HT ks → List (Nat × PVal)
  | [], _ => []
  | k :: ks, x => (k.1, k.2.val x.1) :: slotsH ks x.2
def getT : (ks : List (Nat × K1)) → List (Nat × PVal) → Option (HT ks)
  | [], [] => some ()
  | k :: ks, c :: cs => if c.1 = k.1 then (k.2.get c.2).bind fun x => (getT ks cs).bind fun y => some (x, y) else none
  | _, _ => none
theorem getT_eq : ∀ {ks : List (Nat × K1)} {cs : List (Nat × PVal)} {x : HT ks}, getT ks cs = some x → slotsH ks x = cs
  | [], [], _, _ => rfl
  | k :: ks, c :: cs, x, h => by
    simp only [getT] at h
    split at h
    · rename_i e1
      simp only [Option.bind_eq_some_iff] at h
      obtain ⟨y, h1, z, h2, e⟩ := h
      cases e
      simp only [slotsH, K1.get_eq h1, getT_eq h2, ← e1]
    · cases h
  | [], _ :: _, _, h => by cases h
  | _ :: _, [], _, h => by cases h
@[reducible] def HB : List (Nat × List KV) → Type
  | [] => Unit
  | k :: ks => HL k.2 × HB ks
def blksH : (ks : List (Nat × List KV)) → HB ks → List (Nat × Res)
  | [], _ => []
  | k :: ks, x => (k.1, .blk (cellsH k.2 x.1)) :: blksH ks x.2
def getB : (ks : List (Nat × List KV)) → List (Nat × Res) → Option (HB ks × List (Nat × Res))
  | [], rest => some ((), rest)
  | k :: ks, (id, .blk cs) :: l => if id = k.1 then (getH k.2 cs).bind fun x => (getB ks l).bind fun y => some ((x, y.1), y.2) else none
  | _, _ => none
theorem getB_eq : ∀ {ks : List (Nat × List KV)} {l rest : List (Nat × Res)} {x : HB ks}, getB ks l = some (x, rest) → l = blksH ks x ++ rest
  | [], rest, _, _, h => by cases h; rfl
  | k :: ks, (id, .blk cs) :: l, rest, x, h => by
    simp only [getB] at h
    split at h
    · rename_i e1
      simp only [Option.bind_eq_some_iff] at h
      obtain ⟨y, h1, z, h2, e⟩ := h
      cases e
      obtain ⟨z1, z2⟩ := z
      simp only [blksH, getH_eq h1, ← e1, List.cons_append, ← getB_eq h2]
    · cases h
  | _ :: _, [], _, _, h => by cases h
  | _ :: _, (_, .tok _) :: _, _, _, h => by cases h
  | _ :: _, (_, .row _ _ _ _) :: _, _, _, h => by cases h
/-- Rights to append (none), and lists that may be written (their type): by name. -/
abbrev TKd := Nat × Option (Ty × TypeId)
@[reducible] def HW : List TKd → Type
  | [] => Unit
  | (_, none) :: l => HW l
  | (_, some p) :: l => List p.1.T × HW l
def resW : (l : List TKd) → HW l → List (Nat × Res)
  | [], _ => []
  | (i, none) :: l, x => (i, .tok 0) :: resW l x
  | (i, some p) :: l, x => (i, .row p.1 x.1 p.2 0) :: resW l x.2
def getW : (l : List TKd) → List (Nat × Res) → Option (HW l × List (Nat × Res))
  | [], rest => some ((), rest)
  | (i, none) :: l, (j, .tok v) :: m => if i = j ∧ v = 0 then getW l m else none
  | (i, some p) :: l, (j, .row e c T v) :: m => if h : e = p.1 then if i = j ∧ T = p.2 ∧ v = 0 then (getW l m).map fun y => ((h ▸ c, y.1), y.2) else none else none
  | _, _ => none
theorem getW_eq : ∀ {l : List TKd} {m rest : List (Nat × Res)} {x : HW l}, getW l m = some (x, rest) → m = resW l x ++ rest
  | [], m, rest, x, h => by cases h; rfl
  | (i, none) :: l, (j, .tok v) :: m, rest, x, h => by
    simp only [getW] at h
    split at h
    · rename_i hc
      obtain ⟨rfl, rfl⟩ := hc
      simp only [resW, List.cons_append, ← getW_eq h]
    · cases h
  | (i, some p) :: l, (j, .row e c T v) :: m, rest, x, h => by
    simp only [getW] at h
    split at h
    · rename_i he
      subst he
      split at h
      · rename_i hc
        obtain ⟨rfl, rfl, rfl⟩ := hc
        obtain ⟨y, h1, h2⟩ := Option.map_eq_some_iff.mp h
        cases h2
        simp only [resW, List.cons_append, ← getW_eq h1]
      · cases h
    · cases h
  | (_, none) :: _, [], _, _, h => by cases h
  | (_, some _) :: _, [], _, _, h => by cases h
  | (_, none) :: _, (_, .blk _) :: _, _, _, h => by cases h
  | (_, none) :: _, (_, .row _ _ _ _) :: _, _, _, h => by cases h
  | (_, some _) :: _, (_, .blk _) :: _, _, _, h => by cases h
  | (_, some _) :: _, (_, .tok _) :: _, _, _, h => by cases h
/-- A shape of kept states. -/
structure Sh where
  n : Nat
  ts : List (Nat × K1)
  bs : List (Nat × List KV)
  ws : List TKd := []
  dk : List (Nat × Res) := []
@[reducible] def Sh.T (s : Sh) : Type := HT s.ts × HB s.bs × HW s.ws
def Sh.tk (s : Sh) : List Nat := s.ws.map (·.1)
def Sh.st (s : Sh) (x : s.T) : St := ⟨s.n, slotsH s.ts x.1, blksH s.bs x.2.1 ++ resW s.ws x.2.2 ++ s.dk⟩
def dkOk : List (Nat × Res) → List (Nat × Res) → Bool
  | [], [] => true
  | (i, .tok u) :: l, (j, .tok v) :: m => (i == j && v == u) && dkOk l m
  | (i, .row e c T u) :: l, (j, .row e' c' T' v) :: m => (i == j && v == u && decide (e' = e) && T' == T && c.isEmpty && c'.isEmpty) && dkOk l m
  | _, _ => false
theorem dkOk_eq : ∀ {l m : List (Nat × Res)}, dkOk l m = true → m = l
  | [], [], _ => rfl
  | (i, .tok u) :: l, (j, .tok v) :: m, h => by
    simp only [dkOk, Bool.and_eq_true, beq_iff_eq] at h
    obtain ⟨⟨rfl, rfl⟩, h2⟩ := h
    rw [dkOk_eq h2]
  | (i, .row e c T u) :: l, (j, .row e' c' T' v) :: m, h => by
    simp only [dkOk, Bool.and_eq_true, beq_iff_eq, decide_eq_true_eq, List.isEmpty_iff] at h
    obtain ⟨⟨⟨⟨⟨⟨rfl, rfl⟩, rfl⟩, rfl⟩, rfl⟩, rfl⟩, h2⟩ := h
    rw [dkOk_eq h2]
  | [], _ :: _, h => by cases h
  | (_, .blk _) :: _, _, h => by simp [dkOk] at h
  | (_, .tok _) :: _, [], h => by cases h
  | (_, .row _ _ _ _) :: _, [], h => by cases h
  | (_, .tok _) :: _, (_, .blk _) :: _, h => by cases h
  | (_, .tok _) :: _, (_, .row _ _ _ _) :: _, h => by cases h
  | (_, .row _ _ _ _) :: _, (_, .blk _) :: _, h => by cases h
  | (_, .row _ _ _ _) :: _, (_, .tok _) :: _, h => by cases h
def Sh.kts (s : Sh) : List (Nat × List KC) := s.ts.map fun x => (x.1, x.2.kc)
def Sh.kbs (s : Sh) : List (Nat × List KC) := s.bs.map fun x => (x.1, x.2.map KV.kc)
/-- What such a shape keeps of a state. -/
def Sh.get (s : Sh) (S : St) : Option s.T := (viewS s.kts s.kbs s.dk S).bind fun S' => if S'.n = s.n then
    (getT s.ts S'.tmps).bind fun a => (getB s.bs S'.res).bind fun b => (getW s.ws b.2).bind fun c => match dkOk s.dk c.2 with
      | true => some (a, b.1, c.1)
      | false => none
  else none
def keeps (ks : List Nat) (s : Sh) : Bool := ks.all fun k => (s.bs.map (·.1)).contains k || (s.dk.map (·.1)).contains k
theorem Sh.get_wk {s : Sh} {S : St} {x : s.T} {ks : List Nat} (hk : keeps ks s = true) (h : s.get S = some x) : Wk ks S (s.st x) := by
  obtain ⟨S', h1, h2⟩ := Option.bind_eq_some_iff.mp h
  have : S' = s.st x := by
    split at h2
    · rename_i hn
      obtain ⟨a, h3, h4⟩ := Option.bind_eq_some_iff.mp h2
      obtain ⟨⟨b, rest⟩, h5, h6⟩ := Option.bind_eq_some_iff.mp h4
      simp only at h6
      obtain ⟨⟨c, rest2⟩, h7, h6⟩ := Option.bind_eq_some_iff.mp h6
      simp only at h6
      split at h6
      · rename_i hto
        cases h6
        obtain ⟨n, tm, rs⟩ := S'
        simp only at hn h3 h5 h7 hto
        subst hn
        have e1 := getT_eq h3
        have e2 := getB_eq h5
        have e3 := getW_eq h7
        have e4 := dkOk_eq hto
        simp only [Sh.st]
        rw [e1, e2, e3, e4, List.append_assoc]
      · cases h6
    · cases h2
  rw [← this]
  refine Wk.view h1 fun k hkm => ?_
  have := List.all_eq_true.1 hk k hkm
  rcases (Bool.or_eq_true _ _).mp this with h | h
  · exact .inl (by simpa [Sh.kbs, Function.comp_def] using h)
  · exact .inr (by simpa using h)
/-- A place at which a state is kept: its shape, and how what is kept is told. -/
structure Pt where
  sh : Sh
  C : Type
  p : sh.T → C
  o : C → sh.T
  hp : ∀ x, o (p x) = x
def Pt.st (q : Pt) (c : q.C) : St := q.sh.st (q.o c)
def Pt.get (q : Pt) (S : St) : Option q.C := (q.sh.get S).map q.p
theorem Pt.get_wk {q : Pt} {S : St} {x : q.C} {ks : List Nat} (hk : keeps ks q.sh = true) (h : q.get S = some x) : Wk ks S (q.st x) := by
  obtain ⟨y, h1, rfl⟩ := Option.map_eq_some_iff.mp h
  simp only [Pt.st, q.hp]
  exact Sh.get_wk hk h1
def peEq : PE → PE → Bool
  | .normal, .normal => true
  | .ret, .ret => true
  | .exit i, .exit j => i == j
  | _, _ => false
theorem peEq_eq {a b : PE} (h : peEq a b = true) : a = b := by
  cases a <;> cases b <;> simp_all [peEq]
/-- Ways out, each with what is kept. -/
@[reducible] def ExT : List (PE × Pt) → Type
  | [] => Empty
  | [x] => x.2.C
  | x :: y :: l => x.2.C ⊕ ExT (y :: l)
def packX : (l : List (PE × Pt)) → PE → St → Option (ExT l)
  | [], _, _ => none
  | [x], e, S => match peEq e x.1 with
    | true => x.2.get S
    | false => none
  | x :: y :: l, e, S => match peEq e x.1, x.2.get S with
    | true, some v => some (.inl v)
    | _, _ => (packX (y :: l) e S).map .inr
def goX {α : Type} (κ : PE → St → α) : (l : List (PE × Pt)) → ExT l → α
  | [] => fun v => nomatch v
  | [x] => fun v => κ x.1 (x.2.st v)
  | x :: y :: l => Sum.elim (fun v => κ x.1 (x.2.st v)) fun v => goX κ (y :: l) v
def keepsX (ks : List Nat) (l : List (PE × Pt)) : Bool := l.all fun x => keeps ks x.2.sh
theorem goX_split : ∀ (l : List (PE × Pt)) (z : ExT l), ∃ x ∈ l, ∃ c : x.2.C, ∀ {α : Type} (κ : PE → St → α), goX κ l z = κ x.1 (x.2.st c)
  | [], z => nomatch z
  | [x], z => ⟨x, by simp, z, fun κ => rfl⟩
  | x :: y :: l, .inl z => ⟨x, by simp, z, fun κ => rfl⟩
  | x :: y :: l, .inr z =>
    let ⟨u, h1, c, h2⟩ := goX_split (y :: l) z
    ⟨u, List.mem_cons_of_mem _ h1, c, fun κ => h2 κ⟩
theorem packX_at {ks : List Nat} : ∀ {l : List (PE × Pt)} {e : PE} {S : St} {x : ExT l}, packX l e S = some x → keepsX ks l = true →
    ∃ y ∈ l, ∃ c : y.2.C, y.1 = e ∧ Wk ks S (y.2.st c) ∧ ∀ {α : Type} (κ : PE → St → α), goX κ l x = κ e (y.2.st c)
  | [], _, _, x, _, _ => nomatch x
  | [x], e, S, v, h, hk => by
    simp only [packX] at h
    split at h
    · rename_i he
      have := peEq_eq he
      subst this
      simp only [keepsX, List.all_cons, List.all_nil, Bool.and_true] at hk
      exact ⟨x, by simp, v, rfl, Pt.get_wk hk h, fun κ => rfl⟩
    · cases h
  | x :: y :: l, e, S, v, h, hk => by
    simp only [keepsX, List.all_cons, Bool.and_eq_true] at hk
    simp only [packX] at h
    split at h
    · rename_i u he h1
      have := peEq_eq he
      subst this
      cases h
      exact ⟨x, by simp, u, rfl, Pt.get_wk hk.1 h1, fun κ => rfl⟩
    · obtain ⟨u, h1, rfl⟩ := Option.map_eq_some_iff.mp h
      obtain ⟨z, h2, c, h3, h4, h5⟩ := packX_at (l := y :: l) h1 (by simp only [keepsX, List.all_cons, Bool.and_eq_true]; exact hk.2)
      exact ⟨z, List.mem_cons_of_mem _ h2, c, h3, h4, fun κ => h5 κ⟩
theorem packX_wk {ks : List Nat} {l : List (PE × Pt)} {e : PE} {S : St} {x : ExT l} (h : packX l e S = some x) (hk : keepsX ks l = true) : ∃ S2, Wk ks S S2 ∧ ∀ {α : Type} (κ : PE → St → α), goX κ l x = κ e S2 :=
  let ⟨_, _, _, _, h4, h5⟩ := packX_at h hk
  ⟨_, h4, fun κ => h5 κ⟩
section
variable {P : Program} {GL : World → Prop} {ks : List Nat}
/-- A weaker state may be gone on from. -/
theorem PW.absorb {c : Code} {Q : PE → St → Prop} {S : St} (h : PW P GL ks c (fun e S' => ∃ S2, Wk ks S' S2 ∧ Q e S2) S) : PW P GL ks c Q S := fun wt Fb I a w g hG hk hs =>
  wp_mono (h wt Fb I a w g hG hk hs) fun e a' w' hq => by
    obtain ⟨e', S', g', h1, h2, S2, h3, h4⟩ := hq
    obtain ⟨g2, h5⟩ := h3 wt Fb I _ _ g' hk h2
    exact ⟨e', S2, g2, h1, h5, h4⟩
/-- What is known of a piece of code. -/
structure CD (P : Program) (GL : World → Prop) (ks : List Nat) where
  code : Code
  /-- is it told for such a state? -/
  ok : St → Bool
  run : {α : Type} → St → (PE → St → Option α) → Option α
  sound : ∀ {α : Type} {S : St} {κ : PE → St → Option α} {r : α}, run S κ = some r → PW P GL ks code (fun e S' => κ e S' = some r) S
/-- One or the other. -/
def CD.alt (d d' : CD P GL ks) (h : d'.code = d.code) : CD P GL ks where
  code := d.code
  ok S := d.ok S || d'.ok S
  run S κ := match d.ok S with
    | true => d.run S κ
    | false => d'.run S κ
  sound hr := by
    split at hr
    · exact d.sound hr
    · rw [← h]; exact d'.sound hr
/-- The joins of a body: a piece that is told by what is known of it; a place at which the state is turned into a kept one. -/
inductive CT (P : Program) (GL : World → Prop) (ks : List Nat) where
  | no
  | cut (d : CD P GL ks)
  | node (l r : CT P GL ks)
  | view (ss : List Sh) (l r : CT P GL ks)
def CT.l : CT P GL ks → CT P GL ks
  | .node l _ => l
  | .view _ l _ => l
  | _ => .no
def CT.r : CT P GL ks → CT P GL ks
  | .node _ r => r
  | .view _ _ r => r
  | _ => .no
/-- The first shape that the state has. -/
def viewL {α : Type} (ks : List Nat) (f : St → Option α) (S : St) : List Sh → Option α
  | [] => none
  | s :: ss => match keeps ks s, s.get S with
    | true, some v => f (s.st v)
    | _, _ => viewL ks f S ss
theorem viewL_some {α : Type} {ks : List Nat} {f : St → Option α} {S : St} {r : α} : ∀ {ss : List Sh}, viewL ks f S ss = some r → ∃ S', Wk ks S S' ∧ f S' = some r
  | [], h => by cases h
  | s :: ss, h => by
    simp only [viewL] at h
    split at h
    · rename_i v hk hg
      exact ⟨_, Sh.get_wk hk hg, h⟩
    · exact viewL_some h
def atC {α : Type} (a : CT P GL ks) (S : St) (κ : PE → St → Option α) (f : St → Option α) : Option α := match a with
  | .cut d => d.run S κ
  | .view ss _ _ => viewL ks f S ss
  | _ => f S
def CT.at (a : CT P GL ks) (c : Code) : Code := match a with
  | .cut d => d.code
  | _ => c
/-- The code that the joins speak of. -/
def putC : Code → CT P GL ks → Code
  | .seq x y, a => a.at (.seq (putC x a.l) (putC y a.r))
  | .cond c x y, a => a.at (.cond c (putC x a.l) (putC y a.r))
  | .block id x, a => a.at (.block id (putC x a.l))
  | .loop x, a => a.at (.loop (putC x a.l))
  | c, a => a.at c
/-- A body's run. -/
def evC {α : Type} (V : Env P GL) : Code → CT P GL ks → St → (PE → St → Option α) → Option α
  | .skip, a, S, κ => atC a S κ fun S => κ .normal S
  | .label _, a, S, κ => atC a S κ fun S => κ .normal S
  | .ret, a, S, κ => atC a S κ fun S => κ .ret S
  | .exit id, a, S, κ => atC a S κ fun S => κ (.exit id) S
  | .region _ ops draw, a, S, κ => atC a S κ fun S => evOps V ops ops.toList [] [] S fun tr S' => match draw with
    | true => (match confOk ops tr with | true => κ .normal S' | false => none)
    | false => κ .normal S'
  | .seq x y, a, S, κ => atC a S κ fun S => evC V x a.l S fun e S' => match e with
    | .normal => evC V y a.r S' κ
    | e => κ e S'
  | .cond c x y, a, S, κ => atC a S κ fun S => match S.ev c with
    | .p (.one (.bool t)) => if t = true then evC V x a.l S κ else evC V y a.r S κ
    | _ => none
  | .block id x, a, S, κ => atC a S κ fun S => evC V x a.l S fun e S' => match e with
    | .exit id' => match id' == id with
      | true => κ .normal S'
      | false => κ (.exit id') S'
    | e => κ e S'
  | _, a, S, κ => atC a S κ fun _ => none
theorem atC_sound {V : Env P GL} {α : Type} {a : CT P GL ks} {S : St} {κ : PE → St → Option α} {f : St → Option α} {r : α} {c : Code} (h : atC a S κ f = some r)
    (hf : ∀ S', f S' = some r → PW P GL ks c (fun e S' => κ e S' = some r) S') : PW P GL ks (a.at c) (fun e S' => κ e S' = some r) S := by
  cases a with
  | no => exact hf S h
  | cut d => exact d.sound h
  | node x y => exact hf S h
  | view ss x y =>
    obtain ⟨S', h1, h2⟩ := viewL_some h
    exact PW.weaken h1 (hf _ h2)
theorem evC_sound {V : Env P GL} : ∀ {α : Type} {c : Code} {a : CT P GL ks} {S : St} {κ : PE → St → Option α} {r : α}, evC V c a S κ = some r → PW P GL ks (putC c a) (fun e S' => κ e S' = some r) S
  | _, .skip, a, S, κ, r, h => atC_sound (V := V) h fun S' h' => PW.skip h'
  | _, .label _, a, S, κ, r, h => atC_sound (V := V) h fun S' h' => PW.label h'
  | _, .ret, a, S, κ, r, h => atC_sound (V := V) h fun S' h' => PW.ret h'
  | _, .exit id, a, S, κ, r, h => atC_sound (V := V) h fun S' h' => PW.exit h'
  | _, .region id ops draw, a, S, κ, r, h => atC_sound (V := V) h fun S' h' => by
    cases draw with
    | true =>
      refine PW.draw V.hm V.hE ((evOps_sound (Q := fun _ _ => True) (fun _ _ _ => trivial) h' (KnOk.nil _)).2 fun tr S2 h2 => ?_)
      simp only at h2
      split at h2
      · rename_i hc; exact ⟨hc, h2⟩
      · cases h2
    | false => exact PW.region V.hE (evOps_sound (Q' := fun _ => True) (fun tr S2 h2 => h2) h' (KnOk.nil _)).1
  | _, .seq x y, a, S, κ, r, h => atC_sound (V := V) h fun S' h' => by
    refine PW.seq (PW.mono (evC_sound h') fun e S2 h2 => ?_)
    cases e with
    | normal => exact evC_sound h2
    | _ => exact h2
  | _, .cond c x y, a, S, κ, r, h => atC_sound (V := V) h fun S' h' => by
    split at h'
    · rename_i t ht
      refine PW.cond ht (fun e => ?_) (fun e => ?_)
      · rw [if_pos e] at h'; exact evC_sound h'
      · rw [if_neg (by rw [e]; simp)] at h'; exact evC_sound h'
    · cases h'
  | _, .block id x, a, S, κ, r, h => atC_sound (V := V) h fun S' h' => by
    refine PW.block (PW.mono (evC_sound h') fun e S2 h2 => ?_)
    cases e with
    | exit id' =>
      simp only at h2
      simp only [PE.inBlock]
      split at h2
      · rename_i e1; rw [if_pos (by simpa using e1)]; exact h2
      · rename_i e1; rw [if_neg (by simpa using e1)]; exact h2
    | _ => exact h2
  | _, .loop _, a, S, κ, r, h => atC_sound (V := V) h fun S' h' => by cases h'
  | _, .rangeFunc _ _ _ _, a, S, κ, r, h => atC_sound (V := V) h fun S' h' => by cases h'
  | _, .scope _, a, S, κ, r, h => atC_sound (V := V) h fun S' h' => by cases h'
  | _, .goto _, a, S, κ, r, h => atC_sound (V := V) h fun S' h' => by cases h'
  | _, .refuse _, a, S, κ, r, h => atC_sound (V := V) h fun S' h' => by cases h'
/-- A piece of code told by a function of what is kept. -/
def CD.join (V : Env P GL) (c : Code) (a : CT P GL ks) (inn : Pt) (exits : List (PE × Pt)) (F : inn.C → Option (ExT exits))
    (hk : (keeps ks inn.sh && keepsX ks exits) = true) (h : ∀ v, F v = evC V c a (inn.st v) (packX exits)) : CD P GL ks where
  code := putC c a
  ok S := (inn.get S).isSome
  run S κ := (inn.get S).bind fun v => (F v).bind fun y => goX κ exits y
  sound hr := by
    simp only [Bool.and_eq_true] at hk
    obtain ⟨v, h1, h2⟩ := Option.bind_eq_some_iff.mp hr
    obtain ⟨y, h3, h4⟩ := Option.bind_eq_some_iff.mp h2
    rw [h v] at h3
    refine PW.weaken (Pt.get_wk hk.1 h1) (PW.absorb (PW.mono (evC_sound h3) fun e S' hq => ?_))
    obtain ⟨S2, h6, h7⟩ := packX_wk hq hk.2
    rw [h7] at h4
    exact ⟨S2, h6, h4⟩
/-- A loop told by a function. -/
def CD.loop (V : Env P GL) (c : Code) (a : CT P GL ks) (inn : Pt) (exits : List (PE × Pt)) (F : Nat → inn.C → Option (ExT exits)) (k : Nat)
    (hk : (keeps ks inn.sh && keepsX ks exits) = true) (h0 : ∀ x, F 0 x = none)
    (h : ∀ n v, F (n + 1) v = evC V c a (inn.st v) fun e S => match e with | .normal => (inn.get S).bind fun v' => F n v' | e => packX exits e S) : CD P GL ks where
  code := .loop (putC c a)
  ok S := (inn.get S).isSome
  run S κ := (inn.get S).bind fun v => (F k v).bind fun y => goX κ exits y
  sound {α S κ r} hr := by
    simp only [Bool.and_eq_true] at hk
    obtain ⟨v, h1, h2⟩ := Option.bind_eq_some_iff.mp hr
    obtain ⟨y, h3, h4⟩ := Option.bind_eq_some_iff.mp h2
    refine PW.absorb (PW.loop (fun n S' => ∃ v, S' = inn.st v ∧ F n v = some y) (Pt.get_wk hk.1 h1) ⟨v, rfl, h3⟩ ?_)
    rintro n S' ⟨v, rfl, hF⟩
    cases n with
    | zero => rw [h0] at hF; cases hF
    | succ n =>
      rw [h n v] at hF
      refine PW.mono (evC_sound hF) fun e S' hq => ?_
      have out : ∀ {e : PE}, packX exits e S' = some y → ∃ S2, Wk ks S' S2 ∧ κ e S2 = some r := by
        intro e hq
        obtain ⟨S2, h6, h7⟩ := packX_wk hq hk.2
        rw [h7] at h4
        exact ⟨S2, h6, h4⟩
      cases e with
      | normal =>
        obtain ⟨v', h5, h6⟩ := Option.bind_eq_some_iff.mp hq
        exact ⟨n, inn.st v', Nat.lt_succ_self n, Pt.get_wk hk.1 h5, v', rfl, h6⟩
      | exit id => exact out hq
      | ret => exact out hq
      | pan v => exact out hq
end
/-- A body. -/
def bodyOf (f : Func) : Code := match f.body with | some c => c | none => .skip
def _root_.Go.Code.L : Code → Code
  | .seq a _ => a
  | .cond _ a _ => a
  | .block _ a => a
  | .loop a => a
  | c => c
def _root_.Go.Code.M : Code → Code
  | .seq _ b => b
  | .cond _ _ b => b
  | c => c
/-- The slots of a function's arguments. -/
def slotsD : (l : List (Ty × Bool)) → DT l → Nat → List (Nat × PVal)
  | [], _, _ => []
  | s :: l, x, k => (k, .p (put1 s x.1)) :: slotsD l x.2 (k + 1)
theorem slotsD_eq : ∀ (l : List (Ty × Bool)) (x : DT l) (k : Nat), args0 ((putD l x).map .p) k = slotsD l x k
  | [], _, _ => rfl
  | s :: l, x, k => by simp only [putD, List.map_cons, args0, slotsD, slotsD_eq l]
def finD {P : Program} {GL : World → Prop} (V : Env P GL) (fn : Func) (rs : List (Ty × Bool)) : PE → St → Option (DT rs)
  | .ret, S | .normal, S => (resF V.E S fn.results.toList).bind (getR rs)
  | _, _ => none
/-- A function of data alone: its body's run gives its contract. -/
theorem con_of {P : Program} {GL : World → Prop} (V : Env P GL) (id : FuncId) (fn : Func) (hf : P.funcs[id]? = some fn) (as rs : List (Ty × Bool)) {X Y : Type} (i : DT as → X) (F : X → Option Y) (p : DT rs → Y) (o : Y → DT rs)
    (a : CT P GL []) (hn : (decide (as.length ≤ fn.ntmps) && (fn.body.isSome && !(fn.name == "runtime.NumGoroutine"))) = true) (hp : ∀ x, o (p x) = x) (ha : putC (bodyOf fn) a = bodyOf fn)
    (h : ∀ v, F (i v) = evC V (bodyOf fn) a ⟨fn.ntmps, slotsD as v 0, []⟩ fun e S => (finD V fn rs e S).map p) :
    ∀ v y, F (i v) = some y → Con P GL id ((putD as v).map .p) [] (.ret (putR rs (o y))) [] := fun v y hy => by
  simp only [Bool.and_eq_true, decide_eq_true_eq] at hn
  obtain ⟨c, hb⟩ := Option.isSome_iff_exists.1 hn.2.1
  have hc : bodyOf fn = c := by simp only [bodyOf, hb]
  rw [h v] at hy
  have := evC_sound hy
  rw [ha, hc] at this
  refine Con.of V.hE hf hb (by simpa [putD_len] using hn.1) ?_
  rw [slotsD_eq]
  refine PW.mono this fun e S hq => ?_
  obtain ⟨x, h5, rfl⟩ := Option.map_eq_some_iff.mp hq
  rw [hp]
  have post : ∀ {e : PE}, e = .ret ∨ e = .normal → (resF V.E S fn.results.toList).bind (getR rs) = some x → Post V.E fn [] (.ret (putR rs x)) [] e S := by
    intro e he h
    obtain ⟨p1, h1, h2⟩ := Option.bind_eq_some_iff.mp h
    refine ⟨trivial, by simp, by simp, by simp, ?_⟩
    rcases he with rfl | rfl
    · exact ⟨_, p1, rfl, h1, getR_le h2, dataP_ok (putR_data _ _)⟩
    · exact ⟨_, p1, rfl, h1, getR_le h2, dataP_ok (putR_data _ _)⟩
  cases e with
  | ret => exact post (.inl rfl) h5
  | normal => exact post (.inr rfl) h5
  | exit id => cases h5
  | pan v => cases h5
theorem fnOk {P : Program} {id : FuncId} {fn : Func} (hf : P.funcs[id]? = some fn) (h : (fn.body.isSome && !(fn.name == "runtime.NumGoroutine")) = true) :
    ∃ fn, P.funcs[id]? = some fn ∧ fn.body.isSome = true ∧ (fn.name == "runtime.NumGoroutine") = false := by
  simp only [Bool.and_eq_true, Bool.not_eq_true'] at h
  exact ⟨fn, hf, h.1, h.2⟩
/-- A function of data alone: its body's run. -/
def FD.of {P : Program} {GL : World → Prop} (V : Env P GL) (id : FuncId) (fn : Func) (hf : P.funcs[id]? = some fn) (as rs : List (Ty × Bool)) {X Y : Type} (i : DT as → X) (F : X → Option Y) (p : DT rs → Y) (o : Y → DT rs)
    (a : CT P GL []) (hn : (decide (as.length ≤ fn.ntmps) && (fn.body.isSome && !(fn.name == "runtime.NumGoroutine"))) = true) (hp : ∀ x, o (p x) = x) (ha : putC (bodyOf fn) a = bodyOf fn)
    (h : ∀ v, F (i v) = evC V (bodyOf fn) a ⟨fn.ntmps, slotsD as v 0, []⟩ fun e S => (finD V fn rs e S).map p) : FD P GL :=
  FD.data id as rs i F o (fnOk hf (by simp only [Bool.and_eq_true] at hn ⊢; exact hn.2)) (con_of V id fn hf as rs i F p o a hn hp ha h)
end Go.Proofs.YtpmnhbjbkoackaaDoor.En
