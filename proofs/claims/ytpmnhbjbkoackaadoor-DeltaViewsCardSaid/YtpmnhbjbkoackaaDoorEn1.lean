/- What Go's values stand for, as plain data: a small universe of types, cells, and how they lie in memory. -/
import Derived.Below
import Derived.Laws.AppendOwn
import Derived.IntWalk
import Derived.Laws.BytesArg
namespace Go.Proofs.YtpmnhbjbkoackaaDoor.En
open Go Go.RowKit
set_option linter.unusedVariables false
set_option linter.unusedSimpArgs false

/-- Types of plain data. -/
inductive Ty where
  | int (k : IntKind) | bool | str | list (e : Ty) | pair (a b : Ty)
  deriving DecidableEq
@[reducible] def Ty.T : Ty → Type
  | .int _ => Int
  | .bool => Bool
  | .str => ByteArray
  | .list e => List e.T
  | .pair a b => a.T × b.T
def Ty.dflt : (τ : Ty) → τ.T
  | .int _ => (0 : Int)
  | .bool => false
  | .str => ByteArray.empty
  | .list _ => []
  | .pair a b => (a.dflt, b.dflt)
/-- How many cells a value takes. -/
def Ty.sz : Ty → Nat
  | .pair a b => a.sz + b.sz
  | _ => 1
theorem Ty.sz_pos : ∀ τ : Ty, 0 < τ.sz
  | .pair a b => by have := Ty.sz_pos a; simp only [Ty.sz]; omega
  | .int _ | .bool | .str | .list _ => by simp [Ty.sz]

/-- The longest string or slice. -/
def lenOk (n : Nat) : Prop := n ≤ 9223372036854775807

section data
variable (w : World) (W : Nat → Nat → Prop)
/-- The cells from an address on read as a list's elements; none of them may be written. -/
def LC {α : Type} (sz : Nat) (D : α → List Value → Prop) (A : Option Addr) (l : List α) : Prop :=
  l = [] ∨ ∃ b o, A = some ⟨b, o, none⟩ ∧ ∀ i x, l[i]? = some x → ∃ vs : List Value, vs.length = sz ∧ D x vs ∧
    ∀ j v, vs[j]? = some v → w.cell? ⟨b, o + i * sz + j, none⟩ = some v ∧ ¬ W b (o + i * sz + j)
/-- Cells that read as plain data. -/
def DV : (τ : Ty) → τ.T → List Value → Prop
  | .int k, n, vs => vs = [.int k n] ∧ k.wrap n = n
  | .bool, b, vs => vs = [.bool b]
  | .str, s, vs => vs = [.string s] ∧ lenOk s.size
  | .list e, l, vs => ∃ A c, vs = [.slice A (List.length l) c] ∧ List.length l ≤ c ∧ lenOk c ∧ LC w W e.sz (DV e) A l
  | .pair a b, x, vs => ∃ v1 v2, vs = v1 ++ v2 ∧ DV a x.1 v1 ∧ DV b x.2 v2
end data
variable {w w' : World} {W W' : Nat → Nat → Prop}
theorem DV.len : ∀ {τ : Ty} {x : τ.T} {vs : List Value}, DV w W τ x vs → vs.length = τ.sz
  | .int _, _, _, h => by obtain ⟨rfl, _⟩ := h; rfl
  | .bool, _, _, h => by obtain rfl := h; rfl
  | .str, _, _, h => by obtain ⟨rfl, _⟩ := h; rfl
  | .list _, _, _, h => by obtain ⟨A, c, rfl, _⟩ := h; rfl
  | .pair a b, _, _, h => by
    obtain ⟨v1, v2, rfl, h1, h2⟩ := h
    simp [Ty.sz, DV.len h1, DV.len h2]
theorem DV.one : ∀ {τ : Ty} {x : τ.T} {vs : List Value}, DV w W τ x vs → ∀ v ∈ vs, v.oneCell' = true
  | .int _, _, _, h => by obtain ⟨rfl, _⟩ := h; simp [Value.oneCell']
  | .bool, _, _, h => by obtain rfl := h; simp [Value.oneCell']
  | .str, _, _, h => by obtain ⟨rfl, _⟩ := h; simp [Value.oneCell']
  | .list _, _, _, h => by obtain ⟨A, c, rfl, _⟩ := h; simp [Value.oneCell']
  | .pair a b, _, _, h => by
    obtain ⟨v1, v2, rfl, h1, h2⟩ := h
    intro v hv
    rcases List.mem_append.1 hv with hv | hv
    · exact DV.one h1 v hv
    · exact DV.one h2 v hv
/-- What may not be written keeps what it holds. -/
def Kp (w : World) (W : Nat → Nat → Prop) (w' : World) (W' : Nat → Nat → Prop) : Prop :=
  ∀ b o v, w.cell? ⟨b, o, none⟩ = some v → ¬ W b o → w'.cell? ⟨b, o, none⟩ = some v ∧ ¬ W' b o
theorem Kp.refl (w : World) (W : Nat → Nat → Prop) : Kp w W w W := fun _ _ _ h h' => ⟨h, h'⟩
theorem Kp.trans {w1 w2 w3 : World} {W1 W2 W3 : Nat → Nat → Prop} (h : Kp w1 W1 w2 W2) (h' : Kp w2 W2 w3 W3) : Kp w1 W1 w3 W3 :=
  fun b o v hc hw => let ⟨a, c⟩ := h b o v hc hw; h' b o v a c
theorem LC.mono {α : Type} {sz : Nat} {D D' : α → List Value → Prop} {A : Option Addr} {l : List α} (hk : Kp w W w' W')
    (hD : ∀ x vs, D x vs → D' x vs) (h : LC w W sz D A l) : LC w' W' sz D' A l := by
  rcases h with h | ⟨b, o, rfl, h⟩
  · exact .inl h
  · refine .inr ⟨b, o, rfl, fun i x hx => ?_⟩
    obtain ⟨vs, hl, hd, hc⟩ := h i x hx
    exact ⟨vs, hl, hD _ _ hd, fun j v hv => let ⟨a, c⟩ := hc j v hv; hk _ _ _ a c⟩
theorem DV.mono (hk : Kp w W w' W') : ∀ {τ : Ty} {x : τ.T} {vs : List Value}, DV w W τ x vs → DV w' W' τ x vs
  | .int _, _, _, h => h
  | .bool, _, _, h => h
  | .str, _, _, h => h
  | .list e, l, _, h => by
    obtain ⟨A, c, rfl, h1, h2, h3⟩ := h
    exact ⟨A, c, rfl, h1, h2, h3.mono hk (fun x vs h => DV.mono hk h)⟩
  | .pair a b, _, _, h => by
    obtain ⟨v1, v2, rfl, h1, h2⟩ := h
    exact ⟨v1, v2, rfl, DV.mono hk h1, DV.mono hk h2⟩
/-- An element of a list. -/
theorem LC.get {α : Type} {sz : Nat} {D : α → List Value → Prop} {A : Option Addr} {l : List α} (h : LC w W sz D A l) {i : Nat} {x : α} (hx : l[i]? = some x) :
    ∃ b o, A = some ⟨b, o, none⟩ ∧ ∃ vs : List Value, vs.length = sz ∧ D x vs ∧ ∀ j v, vs[j]? = some v → w.cell? ⟨b, o + i * sz + j, none⟩ = some v ∧ ¬ W b (o + i * sz + j) := by
  rcases h with rfl | ⟨b, o, rfl, h⟩
  · simp at hx
  · exact ⟨b, o, rfl, h i x hx⟩
/-- A cut of a list. -/
theorem LC.cut {α : Type} {sz : Nat} {D : α → List Value → Prop} {b o : Nat} {l : List α} (h : LC w W sz D (some ⟨b, o, none⟩) l) (lo hi : Nat) :
    LC w W sz D (some ⟨b, o + lo * sz, none⟩) ((l.take hi).drop lo) := by
  rcases h with rfl | ⟨b', o', e, h⟩
  · exact .inl (by simp)
  · simp only [Option.some.injEq, Addr.mk.injEq, and_true] at e
    obtain ⟨rfl, rfl⟩ := e
    refine .inr ⟨_, _, rfl, fun i x hx => ?_⟩
    have hx' : l[lo + i]? = some x := by
      rw [List.getElem?_drop, List.getElem?_take] at hx
      split at hx
      · exact hx
      · cases hx
    obtain ⟨vs, hl, hd, hc⟩ := h _ _ hx'
    refine ⟨vs, hl, hd, fun j v hv => ?_⟩
    have := hc j v hv
    rwa [show o + (lo + i) * sz + j = o + lo * sz + i * sz + j by rw [Nat.add_mul]; omega] at this
theorem LC.cutNone {α : Type} {sz : Nat} {D : α → List Value → Prop} {l : List α} (h : LC w W sz D none l) (lo hi : Nat) (A : Option Addr) :
    LC w W sz D A ((l.take hi).drop lo) := by
  rcases h with rfl | ⟨b', o', e, h⟩
  · exact .inl (by simp)
  · cases e

/-- The element at a place. -/
def rdT (τ : Ty) (l : List τ.T) (i : Int) : τ.T := l.getD i.toNat τ.dflt

/-- What a slot's or a variable's cell holds. -/
inductive Cell where
  | int (k : IntKind) (n : Int)
  | bool (b : Bool)
  | str (s : ByteArray)
  | lst (e : Ty) (l : List e.T)
  /-- a list behind which its holder may append: the right's name and count -/
  | acc (e : Ty) (l : List e.T) (T id ver : Nat)
  /-- a pointer into a variable of the call's own, or one that was handed in -/
  | ptr (id off : Nat)
  /-- a pointer into plain data that isn't written -/
  | eptr (τ : Ty) (x : τ.T) (off : Nat)
  /-- a list whose elements may be written; what it holds the name's resource tells -/
  | row (e : Ty) (T id ver : Nat)
  /-- a pointer into an element of such a list -/
  | rptr (e : Ty) (T id ver i off : Nat)
  | lit (v : Value)
  | dead
/-- What may be written: a variable (its cells), or the right to append. -/
inductive Res where
  | blk (cs : List Cell)
  | tok (ver : Nat)
  | row (e : Ty) (l : List e.T) (T ver : Nat)
/-- Where it lies. -/
structure Gh where
  loc : Nat → Option Nat
  tip : Nat → Nat
/-- The list's value. -/
def rowV (g : Gh) (id n : Nat) : Value := match g.loc id with | some b => .slice (some ⟨b, 0, none⟩) n (g.tip id) | none => .slice none 0 0
theorem rowV_eq {g g' : Gh} {id id' n : Nat} (h1 : g'.loc id' = g.loc id) (h2 : g'.tip id' = g.tip id) : rowV g' id' n = rowV g id n := by unfold rowV; rw [h1, h2]
theorem rowV_block {g : Gh} {id n : Nat} : (rowV g id n).ownBlock = g.loc id := by
  unfold rowV
  cases g.loc id <;> rfl
theorem rowV_one {g : Gh} {id n : Nat} : (rowV g id n).oneCell' = true := by
  unfold rowV
  cases g.loc id <;> rfl
/-- Cells that read as a list, one element behind the other. -/
def FR {α : Type} (sz : Nat) (D : α → List Value → Prop) (xs : List Value) (l : List α) : Prop :=
  xs.length = l.length * sz ∧ ∀ (i : Nat) (x : α), l[i]? = some x → ∃ vs : List Value, vs.length = sz ∧ D x vs ∧ ∀ (j : Nat) (u : Value), vs[j]? = some u → xs[i * sz + j]? = some u
theorem FR.mono {α : Type} {sz : Nat} {D D' : α → List Value → Prop} {xs : List Value} {l : List α} (h : FR sz D xs l) (hD : ∀ x vs, D x vs → D' x vs) : FR sz D' xs l :=
  ⟨h.1, fun i x hx => let ⟨vs, h1, h2, h3⟩ := h.2 i x hx; ⟨vs, h1, hD _ _ h2, h3⟩⟩
def own (R : Nat → Option Res) (g : Gh) (b o : Nat) : Prop :=
  ∃ id r, R id = some r ∧ g.loc id = some b ∧ ∀ v, r = .tok v → g.tip id ≤ o
def Wr (Fb : Nat → Nat → Prop) (R : Nat → Option Res) (g : Gh) (b o : Nat) : Prop := Fb b o ∨ own R g b o
/-- The list's cells, flat. -/
def CV (w : World) (W : Nat → Nat → Prop) (R : Nat → Option Res) (g : Gh) (v : Value) : Cell → Prop
  | .int k n => v = .int k n ∧ k.wrap n = n
  | .bool b => v = .bool b
  | .str s => v = .string s ∧ lenOk s.size
  | .lst e l => DV w W (.list e) l [v]
  | .acc e l T id ver => DV w W (.list e) l [v] ∧ ∃ ver', R id = some (.tok ver') ∧ ver ≤ ver' ∧
      (ver = ver' → v.ownBlock = g.loc id ∧ ∃ xs, w.ownsRow 0 T e.sz v (List.length l) xs ∧ ∀ b, g.loc id = some b → g.tip id = List.length l * e.sz)
  | .ptr id off => ∃ b cs, R id = some (.blk cs) ∧ g.loc id = some b ∧ v = .pointer (some ⟨b, off, none⟩)
  | .eptr τ x off => ∃ b o vs, v = .pointer (some ⟨b, o + off, none⟩) ∧ DV w W τ x vs ∧ ∀ j u, vs[j]? = some u → w.cell? ⟨b, o + j, none⟩ = some u ∧ ¬ W b (o + j)
  | .row e T id ver => ∃ l ver', R id = some (.row e l T ver') ∧ ver ≤ ver' ∧ v.oneCell' = true ∧ (ver = ver' → v = rowV g id (List.length l))
  | .rptr e T id ver i off => ∃ l ver', R id = some (.row e l T ver') ∧ ver ≤ ver' ∧ (∃ a, v = .pointer (some a)) ∧ (ver = ver' → i < List.length l ∧ ∃ b, g.loc id = some b ∧ v = .pointer (some ⟨b, i * e.sz + off, none⟩))
  | .lit u => v = u ∧ v.oneCell' = true
  | .dead => True
def CVs (w : World) (W : Nat → Nat → Prop) (R : Nat → Option Res) (g : Gh) : List Value → List Cell → Prop
  | [], [] => True
  | v :: vs, c :: cs => (CV w W R g v c ∧ v.oneCell' = true) ∧ CVs w W R g vs cs
  | _, _ => False
/-- What an operand stands for. -/
inductive P1 where
  | one (c : Cell)
  | agg (cs : List Cell)
def P1V (w : World) (W : Nat → Nat → Prop) (R : Nat → Option Res) (g : Gh) (v : Value) : P1 → Prop
  | .one c => CV w W R g v c
  | .agg cs => ∃ vs : List Value, v = .agg vs.toArray ∧ CVs w W R g vs cs
def P1Vs (w : World) (W : Nat → Nat → Prop) (R : Nat → Option Res) (g : Gh) : List Value → List P1 → Prop
  | [], [] => True
  | v :: vs, p :: ps => P1V w W R g v p ∧ P1Vs w W R g vs ps
  | _, _ => False
inductive PVal where
  | p (x : P1)
  | tup (ps : List P1)
def PV (w : World) (W : Nat → Nat → Prop) (R : Nat → Option Res) (g : Gh) (v : Value) : PVal → Prop
  | .p x => P1V w W R g v x
  | .tup ps => ∃ vs : List Value, v = .tuple vs.toArray ∧ P1Vs w W R g vs ps
/-- Steps that leave the other values as they were. -/
def Res.later (w w' : World) (g g' : Gh) (id : Nat) : Res → Res → Prop
  | .blk _, .blk _ => g'.loc id = g.loc id
  | .tok v, .tok v' => v ≤ v' ∧ (v = v' → g'.loc id = g.loc id ∧ g'.tip id = g.tip id ∧ ∀ b, g.loc id = some b → w'.heap[b]? = w.heap[b]?)
  | .row e l T v, .row e' l' T' v' => e' = e ∧ T' = T ∧ v ≤ v' ∧ (v = v' → List.length l' = List.length l ∧ g'.loc id = g.loc id ∧ g'.tip id = g.tip id)
  | _, _ => False
structure Tr (w : World) (W : Nat → Nat → Prop) (R : Nat → Option Res) (g : Gh) (w' : World) (W' : Nat → Nat → Prop) (R' : Nat → Option Res) (g' : Gh) : Prop where
  kp : Kp w W w' W'
  live : ∀ id r, R id = some r → ∃ r', R' id = some r' ∧ Res.later w w' g g' id r r'
variable {R R' : Nat → Option Res} {g g' : Gh}
theorem ownsRow_same {w w' : World} {base : Nat} {T : TypeId} {size : Nat} {v : Value} {n : Nat} {xs : List Value} (h : w.ownsRow base T size v n xs)
    (hb : ∀ b, v.ownBlock = some b → w'.heap[b]? = w.heap[b]?) : w'.ownsRow base T size v n xs := by
  refine ⟨h.1, ?_⟩
  rcases h.2 with h | ⟨gb, cap, cur, rfl, h1, h2, h3⟩
  · exact .inl h
  · exact .inr ⟨gb, cap, cur, rfl, h1, by rw [hb gb rfl]; exact h2, h3⟩
theorem CV.mono (ht : Tr w W R g w' W' R' g') {v : Value} : ∀ {c : Cell}, CV w W R g v c → CV w' W' R' g' v c
  | .int _ _, h => h
  | .bool _, h => h
  | .str _, h => h
  | .lst _ _, h => DV.mono ht.kp h
  | .acc e l T id ver, h => by
    obtain ⟨h1, ver', h2, h3, h4⟩ := h
    obtain ⟨r', hr', hl⟩ := ht.live id _ h2
    cases r' with
    | blk cs => exact hl.elim
    | row _ _ _ _ => exact hl.elim
    | tok v2 =>
      obtain ⟨hv, hs⟩ := hl
      refine ⟨DV.mono ht.kp h1, v2, hr', by omega, fun e1 => ?_⟩
      have e2 : ver = ver' := by omega
      have e3 : ver' = v2 := by omega
      obtain ⟨ho, xs, hrow, htip⟩ := h4 e2
      obtain ⟨hloc, htp, hh⟩ := hs e3
      refine ⟨by rw [hloc]; exact ho, xs, ownsRow_same hrow (fun b hb => hh b (by rw [← ho]; exact hb)), fun b hb => ?_⟩
      rw [htp]
      exact htip b (by rw [← hloc]; exact hb)
  | .ptr id off, h => by
    obtain ⟨b, cs, h1, h2, h3⟩ := h
    obtain ⟨r', hr', hl⟩ := ht.live id _ h1
    cases r' with
    | blk cs' => exact ⟨b, cs', hr', (show g'.loc id = g.loc id from hl).trans h2, h3⟩
    | tok _ => exact hl.elim
    | row _ _ _ _ => exact hl.elim
  | .row e T id ver, h => by
    obtain ⟨l, ver', h1, h2, ho, h3⟩ := h
    obtain ⟨r', hr', hl⟩ := ht.live id _ h1
    cases r' with
    | blk cs => exact hl.elim
    | tok _ => exact hl.elim
    | row e' l' T' v2 =>
      obtain ⟨rfl, rfl, hv, hs⟩ := hl
      refine ⟨l', v2, hr', by omega, ho, fun e1 => ?_⟩
      obtain ⟨k1, k2, k3⟩ := hs (by omega)
      rw [k1, rowV_eq k2 k3]
      exact h3 (by omega)
  | .rptr e T id ver i off, h => by
    obtain ⟨l, ver', h1, h2, ho, h3⟩ := h
    obtain ⟨r', hr', hl⟩ := ht.live id _ h1
    cases r' with
    | blk cs => exact hl.elim
    | tok _ => exact hl.elim
    | row e' l' T' v2 =>
      obtain ⟨rfl, rfl, hv, hs⟩ := hl
      refine ⟨l', v2, hr', by omega, ho, fun e1 => ?_⟩
      obtain ⟨k1, k2, k3⟩ := hs (by omega)
      rw [k1, k2]
      exact h3 (by omega)
  | .eptr τ x off, h => by
    obtain ⟨b, o, vs, h1, h2, h3⟩ := h
    exact ⟨b, o, vs, h1, DV.mono ht.kp h2, fun j u hu => let ⟨a, c⟩ := h3 j u hu; ht.kp _ _ _ a c⟩
  | .lit _, h => h
  | .dead, _ => trivial
theorem CVs.mono (ht : Tr w W R g w' W' R' g') : ∀ {vs : List Value} {cs : List Cell}, CVs w W R g vs cs → CVs w' W' R' g' vs cs
  | [], [], _ => trivial
  | _ :: _, _ :: _, h => ⟨⟨CV.mono ht h.1.1, h.1.2⟩, CVs.mono ht h.2⟩
  | [], _ :: _, h => h.elim
  | _ :: _, [], h => h.elim
theorem P1V.mono (ht : Tr w W R g w' W' R' g') {v : Value} : ∀ {p : P1}, P1V w W R g v p → P1V w' W' R' g' v p
  | .one _, h => CV.mono ht h
  | .agg _, ⟨vs, e, h⟩ => ⟨vs, e, CVs.mono ht h⟩
theorem P1Vs.mono (ht : Tr w W R g w' W' R' g') : ∀ {vs : List Value} {cs : List P1}, P1Vs w W R g vs cs → P1Vs w' W' R' g' vs cs
  | [], [], _ => trivial
  | _ :: _, _ :: _, h => ⟨P1V.mono ht h.1, P1Vs.mono ht h.2⟩
  | [], _ :: _, h => h.elim
  | _ :: _, [], h => h.elim
theorem PV.mono (ht : Tr w W R g w' W' R' g') {v : Value} : ∀ {p : PVal}, PV w W R g v p → PV w' W' R' g' v p
  | .p _, h => P1V.mono ht h
  | .tup _, ⟨vs, e, h⟩ => ⟨vs, e, P1Vs.mono ht h⟩
theorem Tr.refl (w : World) (W : Nat → Nat → Prop) (R : Nat → Option Res) (g : Gh) : Tr w W R g w W R g :=
  ⟨Kp.refl w W, fun id r h => ⟨r, h, by cases r <;> simp [Res.later]⟩⟩
theorem CVs.len : ∀ {vs : List Value} {cs : List Cell}, CVs w W R g vs cs → vs.length = cs.length
  | [], [], _ => rfl
  | _ :: _, _ :: _, h => by simp [CVs.len h.2]
  | [], _ :: _, h => h.elim
  | _ :: _, [], h => h.elim
theorem CVs.get : ∀ {vs : List Value} {cs : List Cell}, CVs w W R g vs cs → ∀ (j : Nat) (v : Value) (c : Cell), vs[j]? = some v → cs[j]? = some c → CV w W R g v c ∧ v.oneCell' = true
  | [], [], _, j, v, c, h, _ => by simp at h
  | _ :: _, _ :: _, h, 0, v, c, hv, hc => by simp at hv hc; subst hv hc; exact h.1
  | _ :: _, _ :: _, h, j + 1, v, c, hv, hc => CVs.get h.2 j v c (by simpa using hv) (by simpa using hc)
  | [], _ :: _, h, _, _, _, _, _ => h.elim
  | _ :: _, [], h, _, _, _, _, _ => h.elim
theorem CVs.of_get : ∀ {vs : List Value} {cs : List Cell}, vs.length = cs.length → (∀ (j : Nat) (v : Value) (c : Cell), vs[j]? = some v → cs[j]? = some c → CV w W R g v c ∧ v.oneCell' = true) → CVs w W R g vs cs
  | [], [], _, _ => trivial
  | v :: vs, c :: cs, h, hj => ⟨hj 0 v c rfl rfl, CVs.of_get (by simpa using h) (fun j v c hv hc => hj (j + 1) v c (by simpa using hv) (by simpa using hc))⟩
  | [], _ :: _, h, _ => by simp at h
  | _ :: _, [], h, _ => by simp at h
theorem CVs.append {vs us : List Value} {cs ds : List Cell} (h : CVs w W R g vs cs) (h' : CVs w W R g us ds) : CVs w W R g (vs ++ us) (cs ++ ds) := by
  induction vs generalizing cs with
  | nil => cases cs with
    | nil => exact h'
    | cons => exact h.elim
  | cons v vs ih => cases cs with
    | nil => exact h.elim
    | cons c cs => exact ⟨h.1, ih h.2⟩

/-- Plain data as cells, and back. -/
def flat : (τ : Ty) → τ.T → List Cell
  | .int k, n => [.int k n]
  | .bool, b => [.bool b]
  | .str, s => [.str s]
  | .list e, l => [.lst e l]
  | .pair a b, x => flat a x.1 ++ flat b x.2
theorem flat_len : ∀ (τ : Ty) (x : τ.T), (flat τ x).length = τ.sz
  | .int _, _ | .bool, _ | .str, _ | .list _, _ => rfl
  | .pair a b, x => by simp [flat, Ty.sz, flat_len a, flat_len b]
theorem DV.flat : ∀ {τ : Ty} {x : τ.T} {vs : List Value}, DV w W τ x vs → CVs w W R g vs (flat τ x)
  | .int _, _, _, h => by obtain ⟨rfl, h⟩ := h; exact ⟨⟨⟨rfl, h⟩, rfl⟩, trivial⟩
  | .bool, _, _, h => by obtain rfl := h; exact ⟨⟨rfl, rfl⟩, trivial⟩
  | .str, _, _, h => by obtain ⟨rfl, h⟩ := h; exact ⟨⟨⟨rfl, h⟩, rfl⟩, trivial⟩
  | .list e, _, _, h => by
    obtain ⟨A, c, rfl, h⟩ := h
    exact ⟨⟨⟨A, c, rfl, h⟩, rfl⟩, trivial⟩
  | .pair a b, _, _, h => by
    obtain ⟨v1, v2, rfl, h1, h2⟩ := h
    exact CVs.append (DV.flat h1) (DV.flat h2)
/-- A cell as data of one cell. -/
def unc : (τ : Ty) → Cell → Option τ.T
  | .int k, .int k' n => if k = k' then some n else none
  | .bool, .bool b => some b
  | .str, .str s => some s
  | .list e, .lst e' l => if h : e' = e then some (h ▸ l) else none
  | .list e, .acc e' l _ _ _ => if h : e' = e then some (h ▸ l) else none
  | .list e, .lit (.slice none 0 0) => some []
  | _, _ => none
def unflat : (τ : Ty) → List Cell → Option τ.T
  | .pair a b, cs => (unflat a (cs.take a.sz)).bind fun x => (unflat b (cs.drop a.sz)).bind fun y => some (x, y)
  | .int k, [c] => unc (.int k) c
  | .bool, [c] => unc .bool c
  | .str, [c] => unc .str c
  | .list e, [c] => unc (.list e) c
  | _, _ => none
theorem unc_sound {τ : Ty} {c : Cell} {x : τ.T} {v : Value} (h : unc τ c = some x) (hv : CV w W R g v c) : DV w W τ x [v] := by
  unfold unc at h
  split at h
  · split at h
    · cases h; rename_i e; subst e; exact ⟨by rw [hv.1], hv.2⟩
    · cases h
  · cases h; exact congrArg (fun x => [x]) hv
  · cases h; exact ⟨by rw [hv.1], hv.2⟩
  · split at h
    · rename_i e; subst e; cases h; exact hv
    · cases h
  · split at h
    · rename_i e; subst e; cases h; exact hv.1
    · cases h
  · cases h
    rw [hv.1]
    exact ⟨none, 0, rfl, Nat.le_refl _, by simp [lenOk], .inl rfl⟩
  · cases h
theorem CVs.take {vs : List Value} {cs : List Cell} (h : CVs w W R g vs cs) (n : Nat) : CVs w W R g (vs.take n) (cs.take n) :=
  CVs.of_get (by simp [CVs.len h]) fun j v c hv hc => by
    rw [List.getElem?_take] at hv hc
    split at hv
    · rename_i hj; rw [if_pos hj] at hc; exact CVs.get h j v c hv hc
    · cases hv
theorem CVs.drop {vs : List Value} {cs : List Cell} (h : CVs w W R g vs cs) (n : Nat) : CVs w W R g (vs.drop n) (cs.drop n) :=
  CVs.of_get (by simp [CVs.len h]) fun j v c hv hc => by
    rw [List.getElem?_drop] at hv hc
    exact CVs.get h _ v c hv hc
theorem unflat_sound : ∀ {τ : Ty} {cs : List Cell} {x : τ.T} {vs : List Value}, unflat τ cs = some x → CVs w W R g vs cs → DV w W τ x vs
  | .pair a b, cs, x, vs, h, hv => by
    simp only [unflat, Option.bind_eq_some_iff] at h
    obtain ⟨x1, h1, x2, h2, e⟩ := h
    cases e
    exact ⟨vs.take a.sz, vs.drop a.sz, (List.take_append_drop _ _).symm, unflat_sound h1 (hv.take _), unflat_sound h2 (hv.drop _)⟩
  | .int k, [c], x, [v], h, hv => unc_sound h hv.1.1
  | .bool, [c], x, [v], h, hv => unc_sound h hv.1.1
  | .str, [c], x, [v], h, hv => unc_sound h hv.1.1
  | .list e, [c], x, [v], h, hv => unc_sound h hv.1.1
  | .int _, [], _, _, h, _ | .bool, [], _, _, h, _ | .str, [], _, _, h, _ | .list _, [], _, _, h, _ => by simp [unflat] at h
  | .int _, _ :: _ :: _, _, _, h, _ | .bool, _ :: _ :: _, _, _, h, _ | .str, _ :: _ :: _, _, _, h, _ | .list _, _ :: _ :: _, _, _, h, _ => by simp [unflat] at h
  | .int _, [_], _, [], h, hv | .bool, [_], _, [], h, hv | .str, [_], _, [], h, hv | .list _, [_], _, [], h, hv => hv.elim
  | .int _, [_], _, _ :: _ :: _, h, hv | .bool, [_], _, _ :: _ :: _, h, hv | .str, [_], _, _ :: _ :: _, h, hv | .list _, [_], _, _ :: _ :: _, h, hv => hv.2.elim
end Go.Proofs.YtpmnhbjbkoackaaDoor.En
