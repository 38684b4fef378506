/- A plain run worked out: along one path through a body's branches, with what the calls answer and which way each test goes given ahead. -/
import Derived.Test.YtpmnhbjbkoackaaDoorEn13
import Derived.KernelRfl
namespace Go.Proofs.YtpmnhbjbkoackaaDoor.En
open Go Go.RowKit
set_option linter.unusedVariables false
set_option linter.unusedSimpArgs false

def TysOk (P : Program) : List (TypeId × TI) → Prop
  | [] => True
  | x :: l => ti P x.1 = some x.2 ∧ TysOk P l
theorem EnvOk.of {P : Program} {rw : Nat → Bool} : ∀ {l : List (TypeId × TI)}, TysOk P l → EnvOk P ⟨fun t => l.lookup t, rw⟩
  | [], _, t, i, h => by simp at h
  | (k, j) :: l, hl, t, i, h => by
    simp only [List.lookup] at h
    split at h
    · rename_i e
      have : t = k := by simpa using e
      subst this
      cases h
      exact hl.1
    · exact EnvOk.of (rw := rw) hl.2 t i h
theorem allP_app {l m : List Cnd} : allP (l ++ m) ↔ allP l ∧ allP m := by
  induction l with
  | nil => simp [allP]
  | cons c l ih => simp only [List.cons_append, allP, ih, and_assoc]
/-- What a cell is to be handed on as: a list of such elements; anything else stays. -/
def fitC : Option Ty → Cell → Option Cell
  | some τ, .lst e l => if e = τ then some (.lst e l) else none
  | some τ, .acc e l _ _ _ => if e = τ then some (.lst e l) else none
  | some τ, .lit (.slice none 0 0) => some (.lst τ [])
  | none, .acc _ _ _ _ _ => none
  | none, .ptr _ _ => none
  | none, .row _ _ _ _ => none
  | none, .rptr _ _ _ _ _ _ => none
  | none, .dead => none
  | none, c => some c
  | _, _ => none
def fitCs : List (Option Ty) → List Cell → Option (List Cell)
  | [], [] => some []
  | s :: ss, c :: cs => (fitC s c).bind fun d => (fitCs ss cs).map (d :: ·)
  | _, _ => none
def fit1 : List (Option Ty) → P1 → Option P1
  | [s], .one c => (fitC s c).map .one
  | ss, .agg cs => (fitCs ss cs).map .agg
  | _, _ => none
def fitP (ss : List (Option Ty)) : PVal → Option PVal
  | .p x => (fit1 ss x).map .p
  | .tup _ => none
def fitPs : List (List (Option Ty)) → List PVal → Option (List PVal)
  | [], [] => some []
  | s :: ss, p :: ps => (fitP s p).bind fun q => (fitPs ss ps).map (q :: ·)
  | _, _ => none
def fit1s : List (List (Option Ty)) → List P1 → Option (List P1)
  | [], [] => some []
  | s :: ss, p :: ps => (fit1 s p).bind fun q => (fit1s ss ps).map (q :: ·)
  | _, _ => none
def fitO : List (List (Option Ty)) → PVal → Option PVal
  | [s], .p x => (fit1 s x).map .p
  | ss, .tup ps => (fit1s ss ps).map .tup
  | _, _ => none
/-- Plain data: no name in it. -/
def dataC : Cell → Prop
  | .acc _ _ _ _ _ => False
  | .ptr _ _ => False
  | .row _ _ _ _ => False
  | .rptr _ _ _ _ _ _ => False
  | _ => True
theorem fitC_spec {s : Option Ty} {c d : Cell} (h : fitC s c = some d) : CLe d c ∧ d ≠ .dead ∧ dataC d := by
  unfold fitC at h
  split at h
  · split at h
    · cases h; exact ⟨rfl, by simp, trivial⟩
    · cases h
  · split at h
    · cases h; exact ⟨rfl, by simp, trivial⟩
    · cases h
  · cases h; exact ⟨rfl, by simp, trivial⟩
  · cases h
  · cases h
  · cases h
  · cases h
  · cases h
  · rename_i n1 n2 n4 n5 n3
    cases h
    cases c with
    | acc => exact (n1 _ _ _ _ _ rfl).elim
    | ptr => exact (n2 _ _ rfl).elim
    | row => exact (n4 _ _ _ _ rfl).elim
    | rptr => exact (n5 _ _ _ _ _ _ rfl).elim
    | dead => exact (n3 rfl).elim
    | _ => exact ⟨rfl, by simp, trivial⟩
  · cases h
theorem fitCs_spec : ∀ {ss : List (Option Ty)} {cs ds : List Cell}, fitCs ss cs = some ds → CLes ds cs ∧ ∀ c ∈ ds, dataC c
  | [], [], ds, h => by cases h; exact ⟨trivial, by simp⟩
  | s :: ss, c :: cs, ds, h => by
    simp only [fitCs, Option.bind_eq_some_iff, Option.map_eq_some_iff] at h
    obtain ⟨d, h1, es, h2, rfl⟩ := h
    obtain ⟨a1, a2, a3⟩ := fitC_spec h1
    obtain ⟨b1, b2⟩ := fitCs_spec h2
    exact ⟨⟨⟨a1, a2⟩, b1⟩, fun c hc => by rcases List.mem_cons.1 hc with rfl | hc; exact a3; exact b2 c hc⟩
  | [], _ :: _, _, h => by simp [fitCs] at h
  | _ :: _, [], _, h => by simp [fitCs] at h
def data1 : P1 → Prop
  | .one c => dataC c
  | .agg cs => ∀ c ∈ cs, dataC c
def dataP : PVal → Prop
  | .p x => data1 x
  | .tup ps => ∀ p ∈ ps, data1 p
theorem fit1_spec {ss : List (Option Ty)} {x y : P1} (h : fit1 ss x = some y) : P1Le y x ∧ data1 y := by
  unfold fit1 at h
  split at h
  · simp only [Option.map_eq_some_iff] at h
    obtain ⟨d, h1, rfl⟩ := h
    obtain ⟨a1, a2, a3⟩ := fitC_spec h1
    exact ⟨a1, a3⟩
  · simp only [Option.map_eq_some_iff] at h
    obtain ⟨d, h1, rfl⟩ := h
    exact fitCs_spec h1
  · cases h
theorem fitP_spec {ss : List (Option Ty)} {x y : PVal} (h : fitP ss x = some y) : PLe y x ∧ dataP y := by
  cases x with
  | p x =>
    simp only [fitP, Option.map_eq_some_iff] at h
    obtain ⟨d, h1, rfl⟩ := h
    exact fit1_spec h1
  | tup ps => cases h
theorem fitPs_spec : ∀ {ss : List (List (Option Ty))} {ps qs : List PVal}, fitPs ss ps = some qs → PLes qs ps ∧ ∀ q ∈ qs, dataP q
  | [], [], qs, h => by cases h; exact ⟨trivial, by simp⟩
  | s :: ss, c :: cs, ds, h => by
    simp only [fitPs, Option.bind_eq_some_iff, Option.map_eq_some_iff] at h
    obtain ⟨d, h1, es, h2, rfl⟩ := h
    obtain ⟨a1, a2⟩ := fitP_spec h1
    obtain ⟨b1, b2⟩ := fitPs_spec h2
    exact ⟨⟨a1, b1⟩, fun c hc => by rcases List.mem_cons.1 hc with rfl | hc; exact a2; exact b2 c hc⟩
  | [], _ :: _, _, h => by simp [fitPs] at h
  | _ :: _, [], _, h => by simp [fitPs] at h
theorem fit1s_spec : ∀ {ss : List (List (Option Ty))} {ps qs : List P1}, fit1s ss ps = some qs → P1Les qs ps ∧ ∀ q ∈ qs, data1 q
  | [], [], qs, h => by cases h; exact ⟨trivial, by simp⟩
  | s :: ss, c :: cs, ds, h => by
    simp only [fit1s, Option.bind_eq_some_iff, Option.map_eq_some_iff] at h
    obtain ⟨d, h1, es, h2, rfl⟩ := h
    obtain ⟨a1, a2⟩ := fit1_spec h1
    obtain ⟨b1, b2⟩ := fit1s_spec h2
    exact ⟨⟨a1, b1⟩, fun c hc => by rcases List.mem_cons.1 hc with rfl | hc; exact a2; exact b2 c hc⟩
  | [], _ :: _, _, h => by simp [fit1s] at h
  | _ :: _, [], _, h => by simp [fit1s] at h
theorem fitO_spec {ss : List (List (Option Ty))} {x y : PVal} (h : fitO ss x = some y) : PLe y x ∧ dataP y := by
  unfold fitO at h
  split at h
  · simp only [Option.map_eq_some_iff] at h
    obtain ⟨d, h1, rfl⟩ := h
    exact fit1_spec h1
  · simp only [Option.map_eq_some_iff] at h
    obtain ⟨d, h1, rfl⟩ := h
    exact fit1s_spec h1
  · cases h
theorem dataC_ren {σ β : Nat → Nat} {c : Cell} (h : dataC c) : c.ren σ β = c := by cases c <;> first | rfl | exact h.elim
theorem data1_ren {σ β : Nat → Nat} {x : P1} (h : data1 x) : x.ren σ β = x := by
  cases x with
  | one c => simp [P1.ren, dataC_ren (show dataC c from h)]
  | agg cs =>
    simp only [P1.ren]
    congr 1
    have : ∀ l : List Cell, (∀ c ∈ l, dataC c) → l.map (Cell.ren σ β) = l := by
      intro l
      induction l with
      | nil => intro _; rfl
      | cons c l ih => intro hl; simp [dataC_ren (hl c (by simp)), ih (fun c hc => hl c (by simp [hc]))]
    exact this cs h
theorem dataP_ren {σ β : Nat → Nat} {x : PVal} (h : dataP x) : x.ren σ β = x := by
  cases x with
  | p x => simp [PVal.ren, data1_ren (show data1 x from h)]
  | tup ps =>
    simp only [PVal.ren]
    congr 1
    have : ∀ l : List P1, (∀ c ∈ l, data1 c) → l.map (P1.ren σ β) = l := by
      intro l
      induction l with
      | nil => intro _; rfl
      | cons c l ih => intro hl; simp [data1_ren (hl c (by simp)), ih (fun c hc => hl c (by simp [hc]))]
    exact this ps h
theorem dataC_ok {rs : List (Nat × Res)} {c : Cell} (h : dataC c) : okC rs c := by cases c <;> first | trivial | exact h.elim
theorem dataP_ok {rs : List (Nat × Res)} {x : PVal} (h : dataP x) : okP rs x := by
  have h1 : ∀ {x : P1}, data1 x → okP1 rs x := fun {x} hx => by
    cases x with
    | one c => exact dataC_ok hx
    | agg cs => exact fun c hc => dataC_ok (hx c hc)
  cases x with
  | p x => exact h1 h
  | tup ps => exact fun p hp => h1 (h p hp)
/-- A call by data alone. -/
theorem callR_data {P : Program} {GL : World → Prop} {f : FuncId} {ps args : List PVal} {out : PVal} {R : Nat → Option Res} (h : Con P GL f ps [] (.ret out) []) (hd : ∀ p ∈ ps, dataP p) (hle : PLes ps args) (ho : dataP out) : CallR P GL f args R (.ret out) [] [] := by
  have hm : ps.map (PVal.ren id fun _ => 0) = ps := by
    clear h hle
    induction ps with
    | nil => rfl
    | cons p ps ih => simp [dataP_ren (hd p (by simp)), ih (fun q hq => hd q (by simp [hq]))]
  exact ⟨ps, [], .ret out, [], id, fun _ => 0, h, by rw [hm]; exact hle, fun p hp => dataP_ok (hd p hp), by simp, by simp, by simp, by simp, by simp, by simp, by simp [Out.ren, dataP_ren ho], by simp, by simp⟩


/-- Plain data as a slot's value: of a type, in one cell or as a struct. -/
def put1 (s : Ty × Bool) (x : s.1.T) : P1 := if s.2 = true then .agg (flat s.1 x) else match flat s.1 x with | [c] => .one c | _ => .one .dead
def get1 (s : Ty × Bool) : P1 → Option s.1.T
  | .one c => if s.2 = false then unflat s.1 [c] else none
  | .agg cs => if s.2 = true then unflat s.1 cs else none
@[reducible] def DT : List (Ty × Bool) → Type
  | [] => Unit
  | s :: l => s.1.T × DT l
def putD : (l : List (Ty × Bool)) → DT l → List P1
  | [], _ => []
  | s :: l, x => put1 s x.1 :: putD l x.2
def getD1 : (l : List (Ty × Bool)) → List P1 → Option (DT l)
  | [], [] => some ()
  | s :: l, p :: ps => (get1 s p).bind fun x => (getD1 l ps).bind fun y => some (x, y)
  | _, _ => none
def getA : (l : List (Ty × Bool)) → List PVal → Option (DT l)
  | [], [] => some ()
  | s :: l, .p p :: ps => (get1 s p).bind fun x => (getA l ps).bind fun y => some (x, y)
  | _, _ => none
def putR : (l : List (Ty × Bool)) → DT l → PVal
  | [s], x => .p (put1 s x.1)
  | [], _ => .tup []
  | s :: s' :: l, x => .tup (putD (s :: s' :: l) x)
def getR : (l : List (Ty × Bool)) → PVal → Option (DT l)
  | [s], .p p => getD1 [s] [p]
  | [], .tup ps => getD1 [] ps
  | s :: s' :: l, .tup ps => getD1 (s :: s' :: l) ps
  | _, _ => none
theorem unc_le {τ : Ty} {c : Cell} {x : τ.T} (h : unc τ c = some x) : CLes (flat τ x) [c] := by
  unfold unc at h
  split at h
  · split at h
    · rename_i e; cases h; subst e; exact ⟨⟨rfl, by simp⟩, trivial⟩
    · cases h
  · cases h; exact ⟨⟨rfl, by simp⟩, trivial⟩
  · cases h; exact ⟨⟨rfl, by simp⟩, trivial⟩
  · split at h
    · rename_i e; cases h; subst e; exact ⟨⟨rfl, by simp⟩, trivial⟩
    · cases h
  · split at h
    · rename_i e; cases h; subst e; exact ⟨⟨rfl, by simp⟩, trivial⟩
    · cases h
  · cases h; exact ⟨⟨rfl, by simp⟩, trivial⟩
  · cases h
theorem CLes.app : ∀ {a b c d : List Cell}, CLes a b → CLes c d → CLes (a ++ c) (b ++ d)
  | [], [], _, _, _, h => h
  | _ :: _, _ :: _, _, _, h, h' => ⟨h.1, CLes.app h.2 h'⟩
  | [], _ :: _, _, _, h, _ => h.elim
  | _ :: _, [], _, _, h, _ => h.elim
theorem unflat_le : ∀ {τ : Ty} {cs : List Cell} {x : τ.T}, unflat τ cs = some x → CLes (flat τ x) cs
  | .pair a b, cs, x, h => by
    simp only [unflat, Option.bind_eq_some_iff] at h
    obtain ⟨x1, h1, x2, h2, e⟩ := h
    cases e
    have := CLes.app (unflat_le h1) (unflat_le h2)
    rwa [List.take_append_drop] at this
  | .int k, [c], x, h => unc_le h
  | .bool, [c], x, h => unc_le h
  | .str, [c], x, h => unc_le h
  | .list e, [c], x, h => unc_le h
  | .int _, [], _, h => by cases h
  | .bool, [], _, h => by cases h
  | .str, [], _, h => by cases h
  | .list _, [], _, h => by cases h
  | .int _, _ :: _ :: _, _, h => by cases h
  | .bool, _ :: _ :: _, _, h => by cases h
  | .str, _ :: _ :: _, _, h => by cases h
  | .list _, _ :: _ :: _, _, h => by cases h
theorem flat_data : ∀ (τ : Ty) (x : τ.T), ∀ c ∈ flat τ x, dataC c
  | .int _, _, c, h | .bool, _, c, h | .str, _, c, h | .list _, _, c, h => by
    simp only [flat, List.mem_singleton] at h
    subst h
    trivial
  | .pair a b, x, c, h => by
    rcases List.mem_append.1 h with h | h
    · exact flat_data a _ c h
    · exact flat_data b _ c h
theorem put1_data (s : Ty × Bool) (x : s.1.T) : data1 (put1 s x) := by
  unfold put1
  split
  · exact flat_data _ _
  · split
    · rename_i c hc
      exact flat_data s.1 x c (by rw [hc]; simp)
    · trivial
theorem get1_le {s : Ty × Bool} {p : P1} {x : s.1.T} (h : get1 s p = some x) : P1Le (put1 s x) p := by
  cases p with
  | one c =>
    simp only [get1] at h
    split at h
    · rename_i e
      have hl := unflat_le h
      unfold put1
      rw [if_neg (by rw [e]; simp)]
      split
      · rename_i c' hc'
        rw [hc'] at hl
        exact hl.1.1
      · rename_i hn
        exact trivial
    · cases h
  | agg cs =>
    simp only [get1] at h
    split at h
    · rename_i e
      unfold put1
      rw [if_pos e]
      exact unflat_le h
    · cases h
theorem getD1_le : ∀ {l : List (Ty × Bool)} {ps : List P1} {x : DT l}, getD1 l ps = some x → P1Les (putD l x) ps
  | [], [], _, _ => trivial
  | s :: l, p :: ps, x, h => by
    simp only [getD1, Option.bind_eq_some_iff] at h
    obtain ⟨y, h1, z, h2, e⟩ := h
    cases e
    exact ⟨get1_le h1, getD1_le h2⟩
  | [], _ :: _, _, h => by cases h
  | _ :: _, [], _, h => by cases h
theorem getA_le : ∀ {l : List (Ty × Bool)} {ps : List PVal} {x : DT l}, getA l ps = some x → PLes ((putD l x).map .p) ps
  | [], [], _, _ => trivial
  | s :: l, .p p :: ps, x, h => by
    simp only [getA, Option.bind_eq_some_iff] at h
    obtain ⟨y, h1, z, h2, e⟩ := h
    cases e
    exact ⟨get1_le h1, getA_le h2⟩
  | [], _ :: _, _, h => by cases h
  | _ :: _, [], _, h => by cases h
  | _ :: _, .tup _ :: _, _, h => by cases h
theorem putD_data : ∀ (l : List (Ty × Bool)) (x : DT l), ∀ p ∈ putD l x, data1 p
  | [], _, p, h => by cases h
  | s :: l, x, p, h => by
    rcases List.mem_cons.1 h with rfl | h
    · exact put1_data _ _
    · exact putD_data l _ p h
theorem putD_len : ∀ (l : List (Ty × Bool)) (x : DT l), (putD l x).length = l.length
  | [], _ => rfl
  | s :: l, x => by simp [putD, putD_len l]
theorem putR_data : ∀ (l : List (Ty × Bool)) (x : DT l), dataP (putR l x)
  | [s], x => put1_data s x.1
  | [], _ => fun p hp => by cases hp
  | s :: s' :: l, x => putD_data (s :: s' :: l) x
theorem getR_le : ∀ {l : List (Ty × Bool)} {p : PVal} {x : DT l}, getR l p = some x → PLe (putR l x) p
  | [s], .p p, x, h => (getD1_le (l := [s]) h).1
  | [], .tup ps, x, h => getD1_le (l := []) h
  | s :: s' :: l, .tup ps, x, h => getD1_le (l := s :: s' :: l) h
  | [], .p _, _, h => by cases h
  | [_], .tup _, _, h => by cases h
  | _ :: _ :: _, .p _, _, h => by cases h

/-- Under conditions. -/
def chk {α : Type} : List Cnd → Option α → Option α
  | [], x => x
  | c :: cs, x => @ite _ c.p c.d (chk cs x) none
theorem chk_some {α : Type} {x : Option α} {r : α} : ∀ {cs : List Cnd}, chk cs x = some r → allP cs ∧ x = some r
  | [], h => ⟨trivial, h⟩
  | c :: cs, h => by
    simp only [chk] at h
    letI := c.d
    by_cases hc : c.p
    · rw [if_pos hc] at h
      exact ⟨⟨hc, (chk_some h).1⟩, (chk_some h).2⟩
    · rw [if_neg hc] at h
      cases h
/-- What is known of a function: how a call goes on. -/
structure FD (P : Program) (GL : World → Prop) where
  id : FuncId
  /-- is it told for such arguments? -/
  ok : List PVal → (Nat → Option Res) → Bool := fun _ _ => true
  call : {α : Type} → Nat → List PVal → (Nat → Option Res) → (PVal → List (Nat × Res) → List Nat → Option α) → Option α
  sound : ∀ {α : Type} {n : Nat} {args : List PVal} {R : Nat → Option Res} {κ : PVal → List (Nat × Res) → List Nat → Option α} {r : α}, call n args R κ = some r → ∃ p us T, CallR P GL id args R (.ret p) us T ∧ κ p us T = some r
  fn : ∃ fn, P.funcs[id]? = some fn ∧ fn.body.isSome = true ∧ (fn.name == "runtime.NumGoroutine") = false
structure Env (P : Program) (GL : World → Prop) where
  E : EnvT
  hE : EnvOk P E
  fds : List (FD P GL)
  hm : P.follows .mixedOrders = true
def findFD {P : Program} {GL : World → Prop} (f : FuncId) (args : List PVal) (R : Nat → Option Res) : List (FD P GL) → Option (FD P GL)
  | [] => none
  | d :: l => match d.id == f && d.ok args R with
    | true => some d
    | false => findFD f args R l
theorem findFD_id {P : Program} {GL : World → Prop} {f : FuncId} {args : List PVal} {R : Nat → Option Res} : ∀ {l : List (FD P GL)} {d : FD P GL}, findFD f args R l = some d → d.id = f
  | [], _, h => by cases h
  | d :: l, _, h => by
    simp only [findFD] at h
    split at h
    · rename_i e
      simp only [Bool.and_eq_true, beq_iff_eq] at e
      cases h; exact e.1
    · exact findFD_id h
/-- A function of data alone, by what is known of it. -/
def FD.data {P : Program} {GL : World → Prop} (id : FuncId) (as rs : List (Ty × Bool)) {X Y : Type} (i : DT as → X) (F : X → Option Y) (o : Y → DT rs)
    (hfn : ∃ fn, P.funcs[id]? = some fn ∧ fn.body.isSome = true ∧ (fn.name == "runtime.NumGoroutine") = false)
    (hc : ∀ v y, F (i v) = some y → Con P GL id ((putD as v).map .p) [] (.ret (putR rs (o y))) []) : FD P GL where
  id := id
  call _ args R κ := (getA as args).bind fun v => (F (i v)).bind fun y => κ (putR rs (o y)) [] []
  sound h := by
    obtain ⟨v, h1, h2⟩ := Option.bind_eq_some_iff.mp h
    obtain ⟨y, h3, h4⟩ := Option.bind_eq_some_iff.mp h2
    refine ⟨_, _, _, callR_data (hc v y h3) ?_ (getA_le h1) (putR_data _ _), h4⟩
    intro p hp
    obtain ⟨q, hq, rfl⟩ := List.mem_map.1 hp
    exact putD_data _ _ _ hq
  fn := hfn
def dstB (n : Nat) : Option Nat → Bool
  | none => true
  | some t => decide (t < n)
theorem dstB_ok {n : Nat} {d : Option Nat} (h : dstB n d = true) : dstOk n d := by
  intro t e
  subst e
  exact of_decide_eq_true h
/-- What is known of tests within a region: the slot, and its value. -/
def knPut (kn : List (Nat × Bool)) : Option Nat → List (Nat × Bool)
  | none => kn
  | some t => kn.filter fun x => !(x.1 == t)
/-- A number, looked up (so that no great term is carried along). -/
def forceN {α : Type} (n : Nat) (f : Nat → α) : Nat → Nat → α
  | 0, _ => f n
  | b + 1, i => match n == i with
    | true => f i
    | false => forceN n f b (i + 1)
theorem forceN_eq {α : Type} {n : Nat} {f : Nat → α} : ∀ {b i : Nat}, forceN n f b i = f n
  | 0, _ => rfl
  | b + 1, i => by
    simp only [forceN]
    split
    · rename_i e
      have : n = i := by simpa using e
      rw [this]
    · exact forceN_eq
def forceNs {α : Type} : List Nat → (List Nat → α) → α
  | [], f => f []
  | x :: l, f => forceNs l fun m => f (x :: m)
theorem forceNs_eq {α : Type} : ∀ {l : List Nat} {f : List Nat → α}, forceNs l f = f l
  | [], _ => rfl
  | x :: l, f => by simp only [forceNs, forceNs_eq]
def nxt {α : Type} (us : List (Nat × Res)) (T : List Nat) (f : List Nat × List Nat → α) : α := forceNs (us.map (·.1)) fun u => forceNs T fun t => f (u, t)
theorem nxt_eq {α : Type} {us : List (Nat × Res)} {T : List Nat} {f : List Nat × List Nat → α} : nxt us T f = f (us.map (·.1), T) := by simp only [nxt, forceNs_eq]
section
variable {P : Program} {GL : World → Prop} {α : Type}
/-- One operation, and what follows. -/
def evO (V : Env P GL) (kn : List (Nat × Bool)) (o : Oper) (S : St) (κ : PVal → List (Nat × Res) → List Nat → Option α) : Option α :=
  match o.op with
  | .call cl => match cl.callee with
    | .value f => match fnOf (S.ev f) with
      | some fid => match findFD fid (cl.args.toList.map S.ev) S.R V.fds with
        | some d => forceN S.res.length (fun n => d.call n (cl.args.toList.map S.ev) S.R κ) 300 0
        | none => none
      | none => none
    | _ => match stepF V.E o S.ev S.R with
      | some x => chk x.1 (κ x.2.1 x.2.2 (touch o S.ev))
      | none => none
  | .pick (.tmp t) a b => match kn.lookup t with
    | some true => κ (S.ev a) [] (touch o S.ev)
    | some false => κ (S.ev b) [] (touch o S.ev)
    | none => match S.get t with
      | .p (.one (.bool t)) => if t = true then κ (S.ev a) [] (touch o S.ev) else κ (S.ev b) [] (touch o S.ev)
      | _ => none
  | .pick _ _ _ => none
  | .panic _ => none
  | _ => match stepF V.E o S.ev S.R with
    | some x => chk x.1 (κ x.2.1 x.2.2 (touch o S.ev))
    | none => none
/-- A region's operations, and what follows. -/
def evOps (V : Env P GL) (ops : Array Oper) : List Oper → List (Nat × Bool) → List (List Nat × List Nat) → St → (List (List Nat × List Nat) → St → Option α) → Option α
  | [], kn, tr, S, κ => κ tr.reverse S
  | o :: rest, kn, tr, S, κ => if dstB S.n o.dst = true then match o.guard with
    | none => evO V kn o S fun p us T => nxt us T fun q => evOps V ops rest (knPut kn o.dst) (q :: tr) (S.put o.dst p us) κ
    | some (j, want) => match (ops[j]?).bind (·.dst) with
      | some t => match kn.lookup t with
        | some v => match v == want with
          | true => evO V kn o S fun p us T => nxt us T fun q => evOps V ops rest (knPut kn o.dst) (q :: tr) (S.put o.dst p us) κ
          | false => evOps V ops rest (knPut kn o.dst) (([], []) :: tr) (S.put o.dst (.tup []) []) κ
        | none => match S.get t with
          | .p (.one (.bool b)) => if b = true then
              match want with
              | true => evO V ((t, true) :: kn) o S fun p us T => nxt us T fun q => evOps V ops rest (knPut ((t, true) :: kn) o.dst) (q :: tr) (S.put o.dst p us) κ
              | false => evOps V ops rest (knPut ((t, true) :: kn) o.dst) (([], []) :: tr) (S.put o.dst (.tup []) []) κ
            else
              match want with
              | true => evOps V ops rest (knPut ((t, false) :: kn) o.dst) (([], []) :: tr) (S.put o.dst (.tup []) []) κ
              | false => evO V ((t, false) :: kn) o S fun p us T => nxt us T fun q => evOps V ops rest (knPut ((t, false) :: kn) o.dst) (q :: tr) (S.put o.dst p us) κ
          | .tup [] => evOps V ops rest (knPut kn o.dst) (([], []) :: tr) (S.put o.dst (.tup []) []) κ
          | _ => none
      | none => none
    else none
def KnOk (kn : List (Nat × Bool)) (S : St) : Prop := ∀ t v, kn.lookup t = some v → S.get t = .p (.one (.bool v))
theorem KnOk.nil (S : St) : KnOk [] S := fun t v h => by cases h
theorem KnOk.cons {kn : List (Nat × Bool)} {S : St} {t : Nat} {v : Bool} (h : KnOk kn S) (ht : S.get t = .p (.one (.bool v))) : KnOk ((t, v) :: kn) S := by
  intro t' v' h'
  simp only [List.lookup] at h'
  split at h'
  · rename_i e
    have : t' = t := by simpa using e
    subst this
    cases h'
    exact ht
  · exact h t' v' h'
theorem lookup_filter {kn : List (Nat × Bool)} {t t' : Nat} : (kn.filter fun x => !(x.1 == t)).lookup t' = if t' = t then none else kn.lookup t' := by
  induction kn with
  | nil => simp
  | cons x l ih =>
    obtain ⟨k, v⟩ := x
    simp only [List.filter_cons]
    by_cases e : k = t
    · subst e
      simp only [beq_self_eq_true, Bool.not_true, Bool.false_eq_true, if_false, ih, List.lookup]
      by_cases e2 : t' = k
      · subst e2; simp
      · have : (t' == k) = false := by simpa using e2
        simp [e2, this]
    · have : (k == t) = false := by simpa using e
      simp only [this, Bool.not_false, if_true, List.lookup]
      by_cases e2 : t' = k
      · subst e2
        simp [e]
      · have h2 : (t' == k) = false := by simpa using e2
        simp only [h2, ih]
theorem KnOk.put {kn : List (Nat × Bool)} {S : St} {d : Option Nat} {p : PVal} {us : List (Nat × Res)} (h : KnOk kn S) : KnOk (knPut kn d) (S.put d p us) := by
  cases d with
  | none => exact h
  | some t =>
    intro t' v' h'
    simp only [knPut] at h'
    rw [lookup_filter] at h'
    split at h'
    · cases h'
    · rename_i e
      have e2 : (t' == t) = false := by simpa using e
      have := h t' v' h'
      simp only [St.get, St.put, List.lookup, e2] at this ⊢
      exact this
theorem evO_PO {V : Env P GL} {kn : List (Nat × Bool)} {o : Oper} {S : St} {κ : PVal → List (Nat × Res) → List Nat → Option α} {r : α} (h : evO V kn o S κ = some r) (hkn : KnOk kn S) (hd : dstOk S.n o.dst) :
    ∃ p us T, κ p us T = some r ∧ (∀ (K : St → Prop) (Q : PE → St → Prop), K (S.put o.dst p us) → PO P V.E GL o S K Q) ∧
      (∀ K' : (List Nat × List Nat) → St → Prop, K' (us.map (·.1), T) (S.put o.dst p us) → PDO P V.E GL o S K') := by
  unfold evO at h
  split at h
  · rename_i cl ho
    split at h
    · rename_i f hf
      split at h
      · rename_i fid hfid
        split at h
        · rename_i d hfd
          rw [forceN_eq] at h
          obtain ⟨p, us, T, hcall, hk⟩ := d.sound h
          have hid := findFD_id hfd
          have hfn := d.fn
          rw [hid] at hcall hfn
          refine ⟨p, us, T, hk, fun K Q hK => ?_, fun K' hK => ?_⟩
          · unfold PO
            simp only [ho, hf, hfid]
            exact ⟨.ret p, us, T, hcall, hfn, hd, hK⟩
          · unfold PDO
            simp only [ho, hf, hfid]
            exact ⟨p, us, T, hcall, hfn, hd, hK⟩
        · cases h
      · cases h
    · rename_i hnv
      split at h
      · rename_i x hx
        obtain ⟨h1, h2⟩ := chk_some h
        obtain ⟨c, p, us⟩ := x
        refine ⟨p, us, _, h2, fun K Q hK => ?_, fun K' hK => ?_⟩
        · unfold PO
          cases hcal : cl.callee with
          | value f => exact (hnv f hcal).elim
          | invoke r m => simp only [ho, hcal, hx]; exact ⟨h1, hd, hK⟩
          | builtin b => simp only [ho, hcal, hx]; exact ⟨h1, hd, hK⟩
        · unfold PDO
          cases hcal : cl.callee with
          | value f => exact (hnv f hcal).elim
          | invoke r m => simp only [ho, hcal, hx]; exact ⟨h1, hd, hK⟩
          | builtin b => simp only [ho, hcal, hx]; exact ⟨h1, hd, hK⟩
      · cases h
  · rename_i t a b ho
    have pk : ∀ v, S.get t = .p (.one (.bool v)) → κ (if v = true then S.ev a else S.ev b) [] (touch o S.ev) = some r →
        ∃ p us T, κ p us T = some r ∧ (∀ (K : St → Prop) (Q : PE → St → Prop), K (S.put o.dst p us) → PO P V.E GL o S K Q) ∧
          (∀ K' : (List Nat × List Nat) → St → Prop, K' (us.map (·.1), T) (S.put o.dst p us) → PDO P V.E GL o S K') := by
      intro v hv hk
      have hs : stepF V.E o S.ev S.R = some ([], if v = true then S.ev a else S.ev b, []) := by
        simp only [stepF, ho, show S.ev (.tmp t) = S.get t from rfl, hv]
      refine ⟨_, _, _, hk, fun K Q hK => ?_, fun K' hK => ?_⟩
      · unfold PO
        simp only [ho, hs]
        exact ⟨trivial, hd, hK⟩
      · unfold PDO
        simp only [ho, hs]
        exact ⟨trivial, hd, hK⟩
    split at h
    · rename_i hl
      exact pk true (hkn t true hl) h
    · rename_i hl
      exact pk false (hkn t false hl) h
    · split at h
      · rename_i v hv
        cases v with
        | true => rw [if_pos rfl] at h; exact pk true hv h
        | false => rw [if_neg (by simp)] at h; exact pk false hv h
      · cases h
  · cases h
  · cases h
  · rename_i hn1 hn2 hn3 hn4
    split at h
    · rename_i x hx
      obtain ⟨h1, h2⟩ := chk_some h
      obtain ⟨c, p, us⟩ := x
      refine ⟨p, us, _, h2, fun K Q hK => ?_, fun K' hK => ?_⟩
      · unfold PO
        cases ho : o.op with
        | call cl => exact (hn1 cl ho).elim
        | panic x => exact (hn4 x ho).elim
        | _ => simp only [hx]; exact ⟨h1, hd, hK⟩
      · unfold PDO
        cases ho : o.op with
        | call cl => exact (hn1 cl ho).elim
        | _ => simp only [hx]; exact ⟨h1, hd, hK⟩
    · cases h
/-- A region's rest, in the text's order or in any. -/
theorem evOps_sound {V : Env P GL} {ops : Array Oper} {κ : List (List Nat × List Nat) → St → Option α} {r : α} {Q : PE → St → Prop} {Q' : St → Prop} (hQ : ∀ tr S, κ tr S = some r → Q .normal S) :
    ∀ {l : List Oper} {kn : List (Nat × Bool)} {tr : List (List Nat × List Nat)} {S : St}, evOps V ops l kn tr S κ = some r → KnOk kn S →
      PL P V.E GL ops Q l S ∧ ((∀ tr S, κ tr S = some r → confOk ops tr = true ∧ Q' S) → PD P V.E GL ops Q' l tr S)
  | [], kn, tr, S, h, _ => ⟨hQ _ _ h, fun hQ' => hQ' _ _ h⟩
  | o :: rest, kn, tr, S, h, hkn => by
    simp only [evOps] at h
    split at h
    · rename_i hd
      have hd := dstB_ok hd
      have run : ∀ {kn : List (Nat × Bool)}, KnOk kn S → (evO V kn o S fun p us T => nxt us T fun q => evOps V ops rest (knPut kn o.dst) (q :: tr) (S.put o.dst p us) κ) = some r →
          (PO P V.E GL o S (PL P V.E GL ops Q rest) Q ∧ ((∀ tr S, κ tr S = some r → confOk ops tr = true ∧ Q' S) → PDO P V.E GL o S (fun t S' => PD P V.E GL ops Q' rest (t :: tr) S'))) := by
        intro kn hkn h
        obtain ⟨p, us, T, h1, h2, h3⟩ := evO_PO h hkn hd
        rw [nxt_eq] at h1
        have ih := evOps_sound hQ (Q' := Q') h1 hkn.put
        exact ⟨h2 _ _ ih.1, fun hQ' => h3 _ (ih.2 hQ')⟩
      have skip : ∀ {kn : List (Nat × Bool)}, KnOk kn S → evOps V ops rest (knPut kn o.dst) (([], []) :: tr) (S.put o.dst (.tup []) []) κ = some r →
          ((dstOk S.n o.dst ∧ PL P V.E GL ops Q rest (S.put o.dst (.tup []) [])) ∧ ((∀ tr S, κ tr S = some r → confOk ops tr = true ∧ Q' S) → dstOk S.n o.dst ∧ PD P V.E GL ops Q' rest (([], []) :: tr) (S.put o.dst (.tup []) []))) := by
        intro kn hkn h
        have ih := evOps_sound hQ (Q' := Q') h hkn.put
        exact ⟨⟨hd, ih.1⟩, fun hQ' => ⟨hd, ih.2 hQ'⟩⟩
      unfold PL PD
      split at h
      · rename_i hg
        simp only [hg]
        exact run hkn h
      · rename_i j want hg
        split at h
        · rename_i t hj
          simp only [hg, hj]
          have fin : ∀ {b : Bool} {kn : List (Nat × Bool)}, S.get t = .p (.one (.bool b)) → KnOk kn S →
              (match b == want with
                | true => evO V kn o S fun p us T => nxt us T fun q => evOps V ops rest (knPut kn o.dst) (q :: tr) (S.put o.dst p us) κ
                | false => evOps V ops rest (knPut kn o.dst) (([], []) :: tr) (S.put o.dst (.tup []) []) κ) = some r →
              (match S.get t with
                | .p (.one (.bool b)) => if b = want then PO P V.E GL o S (PL P V.E GL ops Q rest) Q else dstOk S.n o.dst ∧ PL P V.E GL ops Q rest (S.put o.dst (.tup []) [])
                | .tup [] => dstOk S.n o.dst ∧ PL P V.E GL ops Q rest (S.put o.dst (.tup []) [])
                | _ => False) ∧ ((∀ tr S, κ tr S = some r → confOk ops tr = true ∧ Q' S) → (match S.get t with
                | .p (.one (.bool b)) => if b = want then PDO P V.E GL o S (fun t S' => PD P V.E GL ops Q' rest (t :: tr) S') else dstOk S.n o.dst ∧ PD P V.E GL ops Q' rest (([], []) :: tr) (S.put o.dst (.tup []) [])
                | .tup [] => dstOk S.n o.dst ∧ PD P V.E GL ops Q' rest (([], []) :: tr) (S.put o.dst (.tup []) [])
                | _ => False)) := by
            intro b kn hb hkn h
            simp only [hb]
            split at h
            · rename_i e
              have e : b = want := by simpa using e
              simp only [if_pos e]
              exact run hkn h
            · rename_i e
              have e : ¬ b = want := by simpa using e
              simp only [if_neg e]
              exact skip hkn h
          split at h
          · rename_i v hv
            exact fin (hkn t v hv) hkn h
          · split at h
            · rename_i b hb
              cases b with
              | true =>
                rw [if_pos rfl] at h
                refine fin hb (hkn.cons hb) ?_
                cases want <;> exact h
              | false =>
                rw [if_neg (by simp)] at h
                refine fin hb (hkn.cons hb) ?_
                cases want <;> exact h
            · rename_i hb
              simp only [hb]
              exact skip hkn h
            · cases h
        · cases h
    · cases h
end
end Go.Proofs.YtpmnhbjbkoackaaDoor.En
