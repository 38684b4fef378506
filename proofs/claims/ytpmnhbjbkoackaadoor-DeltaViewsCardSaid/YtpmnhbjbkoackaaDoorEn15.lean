/- What is kept of a state at a loop's head or where ways meet: the listed slots and variables, rights to append under new names. -/
import Derived.Test.YtpmnhbjbkoackaaDoorEn14
namespace Go.Proofs.YtpmnhbjbkoackaaDoor.En
open Go Go.RowKit
set_option linter.unusedVariables false
set_option linter.unusedSimpArgs false
/-- How a cell is kept: as data; as a list with the right to append, by this name; as a pointer into a kept variable. -/
inductive KC where
  | d (s : Option Ty)
  | t (e : Ty) (T id : Nat)
  | r (e : Ty) (T id : Nat)
  | p
def viewCell (R : Nat → Option Res) (blk : List Nat) : KC → Cell → Option Cell
  | .d (some τ), .row e T id ver => match R id with
    | some (.row e3 l T3 v) => if h : e3 = τ then if e = e3 ∧ T = T3 ∧ v = ver then some (.lst τ (h ▸ l)) else none else none
    | _ => none
  | .d s, c => fitC s c
  | .r e T id', .row e2 T2 id ver => match R id with
    | some (.row e3 _ T3 v) => if e2 = e ∧ e3 = e ∧ T2 = T ∧ T3 = T ∧ v = ver then some (.row e T id' 0) else none
    | _ => none
  | .r e T id', .lit (.slice none 0 0) => some (.row e T id' 0)
  | .t e T id', .acc e2 l T2 id ver => match R id with
    | some (.tok v) => if e2 = e ∧ T2 = T ∧ v = ver then some (.acc e2 l T2 id' 0) else none
    | _ => none
  | .t e T id', .lit (.slice none 0 0) => some (.acc e [] T id' 0)
  | .p, .ptr id off => if blk.contains id = true then some (.ptr id off) else none
  | _, _ => none
def viewCells (R : Nat → Option Res) (blk : List Nat) : List KC → List Cell → Option (List Cell)
  | [], [] => some []
  | k :: ks, c :: cs => (viewCell R blk k c).bind fun d => (viewCells R blk ks cs).map (d :: ·)
  | _, _ => none
def view1 (R : Nat → Option Res) (blk : List Nat) : List KC → PVal → Option PVal
  | [k], .p (.one c) => (viewCell R blk k c).map fun d => .p (.one d)
  | ks, .p (.agg cs) => (viewCells R blk ks cs).map fun ds => .p (.agg ds)
  | _, _ => none
def tokCell (R : Nat → Option Res) : KC → Cell → List (Nat × Option Nat × Res)
  | .t _ _ id', .acc _ _ _ id _ => [(id', some id, .tok 0)]
  | .t _ _ id', _ => [(id', none, .tok 0)]
  | .r e T id', .row _ _ id _ => [(id', some id, match R id with | some (.row e3 l T3 _) => .row e3 l T3 0 | _ => .row e [] T 0)]
  | .r e T id', _ => [(id', none, .row e [] T 0)]
  | _, _ => []
def tokCells (R : Nat → Option Res) : List KC → List Cell → List (Nat × Option Nat × Res)
  | k :: ks, c :: cs => tokCell R k c ++ tokCells R ks cs
  | _, _ => []
def tok1 (R : Nat → Option Res) : List KC → PVal → List (Nat × Option Nat × Res)
  | [k], .p (.one c) => tokCell R k c
  | ks, .p (.agg cs) => tokCells R ks cs
  | _, _ => []
/-- Lists that are handed on as data, and may not be written any more. -/
def frzCell : KC → Cell → List Nat
  | .d (some _), .row _ _ id _ => [id]
  | _, _ => []
def frzCells : List KC → List Cell → List Nat
  | k :: ks, c :: cs => frzCell k c ++ frzCells ks cs
  | _, _ => []
def frz1 : List KC → PVal → List Nat
  | [k], .p (.one c) => frzCell k c
  | ks, .p (.agg cs) => frzCells ks cs
  | _, _ => []
def viewT (S : St) (blk : List Nat) : List (Nat × List KC) → Option (List (Nat × PVal))
  | [] => some []
  | x :: l => (view1 S.R blk x.2 (S.get x.1)).bind fun p => (viewT S blk l).map ((x.1, p) :: ·)
def viewB (S : St) (blk : List Nat) : List (Nat × List KC) → Option (List (Nat × Res))
  | [] => some []
  | x :: l => match S.R x.1 with
    | some (.blk cs) => (viewCells S.R blk x.2 cs).bind fun ds => (viewB S blk l).map ((x.1, .blk ds) :: ·)
    | _ => none
def toksT (S : St) : List (Nat × List KC) → List (Nat × Option Nat × Res)
  | [] => []
  | x :: l => tok1 S.R x.2 (S.get x.1) ++ toksT S l
def toksB (S : St) : List (Nat × List KC) → List (Nat × Option Nat × Res)
  | [] => []
  | x :: l => (match S.R x.1 with | some (.blk cs) => tokCells S.R x.2 cs | _ => []) ++ toksB S l
def frzT (S : St) : List (Nat × List KC) → List Nat
  | [] => []
  | x :: l => frz1 x.2 (S.get x.1) ++ frzT S l
def frzB (S : St) : List (Nat × List KC) → List Nat
  | [] => []
  | x :: l => (match S.R x.1 with | some (.blk cs) => frzCells x.2 cs | _ => []) ++ frzB S l
/-- Rights that were handed in and are given up: their names, and what stands for it. -/
def deads (S : St) : List (Nat × Res) → Option (List (Nat × Option Nat))
  | [] => some []
  | x :: l => match S.R x.1, x.2 with
    | some (.tok v), .tok u => if v < u then (deads S l).map ((x.1, none) :: ·) else if v = u then (deads S l).map ((x.1, some x.1) :: ·) else none
    | some (.row e m T v), .row e' m' T' u => if e' = e ∧ T' = T ∧ List.length m' = 0 then if v < u then (deads S l).map ((x.1, none) :: ·) else if v = u ∧ List.length m = 0 then (deads S l).map ((x.1, some x.1) :: ·) else none else none
    | _, _ => none
/-- The kept state. -/
def viewS (ts bs : List (Nat × List KC)) (dk : List (Nat × Res)) (S : St) : Option St :=
  match viewT S (bs.map (·.1)) ts, viewB S (bs.map (·.1)) bs, deads S dk with
  | some a, some b, some d =>
    if ((((toksT S ts ++ toksB S bs).map fun x => (x.1, x.2.1)) ++ d).map (·.1)).Nodup ∧ ((((toksT S ts ++ toksB S bs).map fun x => (x.1, x.2.1)) ++ d).filterMap (·.2)).Nodup ∧
      ((((toksT S ts ++ toksB S bs).map fun x => (x.1, x.2.1)) ++ d).all fun x => !(bs.map (·.1)).contains x.1 && (match x.2 with | some j => !(bs.map (·.1)).contains j | none => true)) = true ∧
      ((frzT S ts ++ frzB S bs).all fun i => !(bs.map (·.1)).contains i && !((((toksT S ts ++ toksB S bs).map fun x => (x.1, x.2.1)) ++ d).filterMap (·.2)).contains i) = true then
      some ⟨S.n, a, b ++ ((toksT S ts ++ toksB S bs).map fun x => (x.1, x.2.2)) ++ dk⟩
    else none
  | _, _, _ => none
section
variable {S : St} {R R' : Nat → Option Res} {blk : List Nat} {t0 : List (Nat × Option Nat × Res)} {tk : List (Nat × Option Nat)}
def sig (blk : List Nat) (tk : List (Nat × Option Nat)) (id : Nat) : Option Nat := if blk.contains id = true then some id else (tk.lookup id).join
theorem tk_lookup {α : Type} : ∀ {tk : List (Nat × α)} {x : Nat × α}, (tk.map (·.1)).Nodup → x ∈ tk → tk.lookup x.1 = some x.2
  | [], x, _, h => by cases h
  | y :: tk, x, hn, h => by
    obtain ⟨k, v⟩ := y
    simp only [List.map_cons, List.nodup_cons] at hn
    rcases List.mem_cons.1 h with rfl | h
    · simp [List.lookup]
    · have hne : x.1 ≠ k := fun e => hn.1 (by rw [← e]; exact List.mem_map.2 ⟨x, h, rfl⟩)
      have : (x.1 == k) = false := by simpa using hne
      simp only [List.lookup, this]
      exact tk_lookup hn.2 h
theorem lk_mem' {α : Type} : ∀ {l : List (Nat × α)} {i : Nat} {x : α}, l.lookup i = some x → (i, x) ∈ l
  | [], i, x, h => by simp at h
  | (k, y) :: l, i, x, h => by
    simp only [List.lookup] at h
    split at h
    · rename_i e
      have : i = k := by simpa using e
      subst this
      cases h
      simp
    · exact List.mem_cons_of_mem _ (lk_mem' h)
/-- What is right of the names. -/
structure Names (R' : Nat → Option Res) (blk : List Nat) (t0 : List (Nat × Option Nat × Res)) (tk : List (Nat × Option Nat)) : Prop where
  n0 : ∀ x ∈ t0, (x.1, x.2.1) ∈ tk
  n1 : (tk.map (·.1)).Nodup
  n3 : ∀ x ∈ tk, blk.contains x.1 = false
  toks : ∀ x ∈ t0, R' x.1 = some x.2.2
  blks : ∀ id, blk.contains id = true → ∃ cs, R' id = some (.blk cs)
theorem sig_of (hN : Names R' blk t0 tk) {x : Nat × Option Nat × Res} (h : x ∈ t0) : sig blk tk x.1 = x.2.1 := by
  have hm := hN.n0 _ h
  have hb := hN.n3 _ hm
  have hl := tk_lookup hN.n1 hm
  simp only [sig]
  rw [if_neg (by rw [hb]; simp), hl]
  rfl
theorem viewCell_V (hN : Names R' blk t0 tk) {k : KC} {c d : Cell} (h : viewCell R blk k c = some d) (ht : ∀ x ∈ tokCell R k c, x ∈ t0) (hf : ∀ i ∈ frzCell k c, ∀ id', sig blk tk id' ≠ some i) : VCell (sig blk tk) R R' d c ∧ d ≠ .dead := by
  unfold viewCell at h
  split at h
  · rename_i τ e T id ver
    split at h
    · rename_i e3 l T3 v hR
      split at h
      · rename_i he
        subst he
        split at h
        · rename_i hc
          obtain ⟨rfl, rfl, rfl⟩ := hc
          cases h
          exact ⟨⟨rfl, hR, fun id' _ => hf id (by simp [frzCell]) id'⟩, by simp⟩
        · cases h
      · cases h
    · cases h
  · rename_i s hn
    obtain ⟨a1, a2, a3⟩ := fitC_spec h
    refine ⟨?_, a2⟩
    cases d with
    | dead => exact (a2 rfl).elim
    | acc => exact a3.elim
    | ptr => exact a3.elim
    | row => exact a3.elim
    | rptr => exact a3.elim
    | lst e l =>
      cases c with
      | row => simp [CLe] at a1
      | _ => exact a1
    | _ => exact a1
  · rename_i e T id' e2 T2 id ver
    split at h
    · rename_i e3 l T3 v hR
      split at h
      · rename_i hc
        obtain ⟨rfl, rfl, rfl, rfl, rfl⟩ := hc
        cases h
        have hm0 := ht _ (by simp only [tokCell, hR]; exact List.mem_singleton.2 rfl)
        have hto := hN.toks _ hm0
        exact ⟨⟨sig_of hN hm0, rfl, rfl, l, hto, hR⟩, by simp⟩
      · cases h
    · cases h
  · rename_i e T id'
    cases h
    have hm0 : (id', none, Res.row e [] T 0) ∈ t0 := ht _ (by simp [tokCell])
    exact ⟨⟨sig_of hN hm0, hN.toks _ hm0⟩, by simp⟩
  · rename_i e T id' e2 l T2 id ver
    split at h
    · rename_i v hv
      split at h
      · rename_i hc
        obtain ⟨rfl, rfl, rfl⟩ := hc
        cases h
        have hm0 : (id', some id, Res.tok 0) ∈ t0 := ht _ (by simp [tokCell])
        exact ⟨⟨rfl, rfl, sig_of hN hm0, hN.toks _ hm0, hv⟩, by simp⟩
      · cases h
    · cases h
  · rename_i e T id'
    cases h
    have hm0 : (id', none, Res.tok 0) ∈ t0 := ht _ (by simp [tokCell])
    exact ⟨⟨rfl, sig_of hN hm0, hN.toks _ hm0⟩, by simp⟩
  · rename_i id off
    split at h
    · rename_i hb
      cases h
      obtain ⟨cs, hcs⟩ := hN.blks id hb
      refine ⟨⟨rfl, by simp only [sig]; rw [if_pos hb], by rw [hcs]; trivial⟩, by simp⟩
    · cases h
  · cases h
theorem viewCells_V (hN : Names R' blk t0 tk) : ∀ {ks : List KC} {cs ds : List Cell}, viewCells R blk ks cs = some ds → (∀ x ∈ tokCells R ks cs, x ∈ t0) → (∀ i ∈ frzCells ks cs, ∀ id', sig blk tk id' ≠ some i) → VCells (sig blk tk) R R' ds cs
  | [], [], ds, h, _, _ => by cases h; trivial
  | k :: ks, c :: cs, ds, h, ht, hf => by
    simp only [viewCells, Option.bind_eq_some_iff, Option.map_eq_some_iff] at h
    obtain ⟨d, h1, es, h2, rfl⟩ := h
    exact ⟨viewCell_V hN h1 (fun x hx => ht x (by simp [tokCells, hx])) (fun i hi => hf i (by simp [frzCells, hi])), viewCells_V hN h2 (fun x hx => ht x (by simp [tokCells, hx])) (fun i hi => hf i (by simp [frzCells, hi]))⟩
  | [], _ :: _, _, h, _, _ => by simp [viewCells] at h
  | _ :: _, [], _, h, _, _ => by simp [viewCells] at h
theorem frz1_agg (ks : List KC) (cs : List Cell) : frz1 ks (.p (.agg cs)) = frzCells ks cs := by
  cases ks with
  | nil => rfl
  | cons k l => cases l <;> rfl
theorem tok1_agg (ks : List KC) (cs : List Cell) : tok1 R ks (.p (.agg cs)) = tokCells R ks cs := by
  cases ks with
  | nil => rfl
  | cons k l => cases l <;> rfl
theorem view1_agg (ks : List KC) (cs : List Cell) : view1 R blk ks (.p (.agg cs)) = (viewCells R blk ks cs).map fun ds => .p (.agg ds) := by
  cases ks with
  | nil => rfl
  | cons k l => cases l <;> rfl
theorem view1_one {ks : List KC} {c : Cell} {q : PVal} (h : view1 R blk ks (.p (.one c)) = some q) : ∃ k d, ks = [k] ∧ viewCell R blk k c = some d ∧ q = .p (.one d) := by
  match ks, h with
  | [k], h =>
    simp only [view1, Option.map_eq_some_iff] at h
    obtain ⟨d, h1, rfl⟩ := h
    exact ⟨k, d, rfl, h1, rfl⟩
theorem view1_V (hN : Names R' blk t0 tk) {ks : List KC} {p q : PVal} (h : view1 R blk ks p = some q) (ht : ∀ x ∈ tok1 R ks p, x ∈ t0) (hf : ∀ i ∈ frz1 ks p, ∀ id', sig blk tk id' ≠ some i) : VPV (sig blk tk) R R' q p := by
  cases p with
  | tup ps => match ks, h with
    | [], h => cases h
    | [_], h => cases h
    | _ :: _ :: _, h => cases h
  | p x => cases x with
    | one c =>
      obtain ⟨k, d, rfl, h1, rfl⟩ := view1_one h
      exact (viewCell_V hN h1 ht hf).1
    | agg cs =>
      rw [view1_agg] at h
      rw [tok1_agg] at ht
      rw [frz1_agg] at hf
      simp only [Option.map_eq_some_iff] at h
      obtain ⟨d, h1, rfl⟩ := h
      exact viewCells_V hN h1 ht hf
theorem viewT_V {S' : St} (hN : Names S'.R blk t0 tk) : ∀ {ts : List (Nat × List KC)} {l : List (Nat × PVal)}, viewT S blk ts = some l → (∀ x ∈ toksT S ts, x ∈ t0) → (∀ i ∈ frzT S ts, ∀ id', sig blk tk id' ≠ some i) → VTmps (sig blk tk) S S' l
  | [], l, h, _, _ => by cases h; trivial
  | x :: ts, l, h, ht, hf => by
    simp only [viewT, Option.bind_eq_some_iff, Option.map_eq_some_iff] at h
    obtain ⟨d, h1, es, h2, rfl⟩ := h
    exact ⟨view1_V hN h1 (fun x hx => ht x (by simp [toksT, hx])) (fun i hi => hf i (by simp [frzT, hi])), viewT_V hN h2 (fun x hx => ht x (by simp [toksT, hx])) (fun i hi => hf i (by simp [frzT, hi]))⟩
theorem viewB_V {S' : St} (hN : Names S'.R blk t0 tk) : ∀ {bs : List (Nat × List KC)} {l : List (Nat × Res)}, viewB S blk bs = some l → (∀ x ∈ bs, blk.contains x.1 = true) → (∀ x ∈ toksB S bs, x ∈ t0) → (∀ i ∈ frzB S bs, ∀ id', sig blk tk id' ≠ some i) → VRes (sig blk tk) S S' l ∧ l.map (·.1) = bs.map (·.1) ∧ (∀ id r, l.lookup id = some r → ∃ cs ds, r = .blk cs ∧ S.R id = some (.blk ds))
  | [], l, h, _, _, _ => by cases h; exact ⟨trivial, rfl, fun id r h => by simp at h⟩
  | x :: bs, l, h, hb, ht, hf => by
    obtain ⟨k, ms⟩ := x
    simp only [viewB] at h
    split at h
    · rename_i cs hcs
      simp only [Option.bind_eq_some_iff, Option.map_eq_some_iff] at h
      obtain ⟨d, h1, es, h2, rfl⟩ := h
      obtain ⟨a1, a2, a3⟩ := viewB_V hN h2 (fun x hx => hb x (by simp [hx])) (fun x hx => ht x (by simp [toksB, hx])) (fun i hi => hf i (by simp [frzB, hi]))
      refine ⟨⟨?_, a1⟩, by simp [a2], fun id r hr => ?_⟩
      · have hbk : blk.contains k = true := hb (k, ms) (by simp)
        have : sig blk tk k = some k := by simp only [sig]; rw [if_pos hbk]
        show VRes1 _ _ _ _ (sig blk tk k)
        rw [this]
        simp only [VRes1, hcs]
        exact viewCells_V hN h1 (fun x hx => ht x (by simp [toksB, hcs, hx])) (fun i hi => hf i (by simp [frzB, hcs, hi]))
      · simp only [List.lookup] at hr
        split at hr
        · rename_i e
          have : id = k := by simpa using e
          subst this
          cases hr
          exact ⟨d, cs, rfl, hcs⟩
        · exact a3 id r hr
    · cases h
end
theorem lookup_none_of {α : Type} {l : List (Nat × α)} {id : Nat} (h : id ∉ l.map (·.1)) : l.lookup id = none := by
  induction l with
  | nil => rfl
  | cons x l ih =>
    obtain ⟨k, v⟩ := x
    simp only [List.map_cons, List.mem_cons, not_or] at h
    have : (id == k) = false := by simpa using h.1
    simp only [List.lookup, this]
    exact ih h.2
theorem filterMap_inj {tk : List (Nat × Option Nat)} (h : (tk.filterMap (·.2)).Nodup) {x y : Nat × Option Nat} {j : Nat} (hx : x ∈ tk) (hy : y ∈ tk) (h1 : x.2 = some j) (h2 : y.2 = some j) : x = y := by
  induction tk with
  | nil => cases hx
  | cons z tk ih =>
    rw [List.filterMap_cons] at h
    rcases List.mem_cons.1 hx with rfl | hx' <;> rcases List.mem_cons.1 hy with rfl | hy'
    · rfl
    · rw [h1] at h
      simp only [List.nodup_cons] at h
      exact (h.1 (List.mem_filterMap.2 ⟨y, hy', h2⟩)).elim
    · rw [h2] at h
      simp only [List.nodup_cons] at h
      exact (h.1 (List.mem_filterMap.2 ⟨x, hx', h1⟩)).elim
    · refine ih ?_ hx' hy'
      split at h
      · exact h
      · exact (List.nodup_cons.1 h).2
theorem deads_spec {S : St} : ∀ {l : List (Nat × Res)} {d : List (Nat × Option Nat)}, deads S l = some d → d.map (·.1) = l.map (·.1) ∧
    ∀ x ∈ l, ∃ y, (x.1, y) ∈ d ∧ ((∃ v u, S.R x.1 = some (.tok v) ∧ x.2 = .tok u ∧ ((y = none ∧ v < u) ∨ (y = some x.1 ∧ v = u))) ∨
      (∃ (e : Ty) (m m' : List e.T) (T v u : Nat), S.R x.1 = some (.row e m T v) ∧ x.2 = .row e m' T u ∧ List.length m' = 0 ∧ ((y = none ∧ v < u) ∨ (y = some x.1 ∧ v = u ∧ List.length m = 0))))
  | [], d, h => by cases h; exact ⟨rfl, fun x hx => by cases hx⟩
  | x :: l, d, h => by
    obtain ⟨k, r⟩ := x
    simp only [deads] at h
    have fin : ∀ {y0 : Option Nat}, (deads S l).map ((k, y0) :: ·) = some d → ((∃ v u, S.R k = some (.tok v) ∧ r = .tok u ∧ ((y0 = none ∧ v < u) ∨ (y0 = some k ∧ v = u))) ∨
      (∃ (e : Ty) (m m' : List e.T) (T v u : Nat), S.R k = some (.row e m T v) ∧ r = .row e m' T u ∧ List.length m' = 0 ∧ ((y0 = none ∧ v < u) ∨ (y0 = some k ∧ v = u ∧ List.length m = 0)))) →
      d.map (·.1) = ((k, r) :: l).map (·.1) ∧
    ∀ x ∈ (k, r) :: l, ∃ y, (x.1, y) ∈ d ∧ ((∃ v u, S.R x.1 = some (.tok v) ∧ x.2 = .tok u ∧ ((y = none ∧ v < u) ∨ (y = some x.1 ∧ v = u))) ∨
      (∃ (e : Ty) (m m' : List e.T) (T v u : Nat), S.R x.1 = some (.row e m T v) ∧ x.2 = .row e m' T u ∧ List.length m' = 0 ∧ ((y = none ∧ v < u) ∨ (y = some x.1 ∧ v = u ∧ List.length m = 0)))) := by
      intro y0 hd hp
      obtain ⟨e, h1, rfl⟩ := Option.map_eq_some_iff.mp hd
      obtain ⟨a1, a2⟩ := deads_spec h1
      refine ⟨by simp [a1], fun y hy => ?_⟩
      rcases List.mem_cons.1 hy with rfl | hy
      · exact ⟨y0, by simp, hp⟩
      · obtain ⟨z, b1, b2⟩ := a2 y hy
        exact ⟨z, by simp [b1], b2⟩
    split at h
    · rename_i v u hv
      split at h
      · rename_i hlt
        exact fin h (.inl ⟨v, u, hv, rfl, .inl ⟨rfl, hlt⟩⟩)
      · split at h
        · rename_i heq
          exact fin h (.inl ⟨v, u, hv, rfl, .inr ⟨rfl, heq⟩⟩)
        · cases h
    · rename_i e m T v e' m' T' u hv
      split at h
      · rename_i hc
        obtain ⟨rfl, rfl, h0⟩ := hc
        split at h
        · rename_i hlt
          exact fin h (.inr ⟨_, m, m', _, v, u, hv, rfl, h0, .inl ⟨rfl, hlt⟩⟩)
        · split at h
          · rename_i heq
            exact fin h (.inr ⟨_, m, m', _, v, u, hv, rfl, h0, .inr ⟨rfl, heq⟩⟩)
          · cases h
      · cases h
    · cases h
/-- The kept state says no more than the state. -/
theorem Wk.view {ks : List Nat} {ts bs : List (Nat × List KC)} {dk : List (Nat × Res)} {S S' : St} (h : viewS ts bs dk S = some S') (hk : ∀ k ∈ ks, k ∈ bs.map (·.1) ∨ k ∈ dk.map (·.1)) : Wk ks S S' := by
  unfold viewS at h
  split at h
  · rename_i a b d ha hb hd
    split at h
    · rename_i hc
      obtain ⟨n1, n2, n3, n4⟩ := hc
      cases h
      obtain ⟨dd1, dd2⟩ := deads_spec hd
      generalize ht0 : toksT S ts ++ toksB S bs = t0 at *
      generalize htk : (t0.map fun x => (x.1, x.2.1)) ++ d = tk at *
      generalize hblk : bs.map (·.1) = blk at *
      have n3' : ∀ x ∈ tk, blk.contains x.1 = false ∧ ∀ j, x.2 = some j → blk.contains j = false := by
        intro x hx
        have := List.all_eq_true.1 n3 x hx
        simp only [Bool.and_eq_true, Bool.not_eq_true'] at this
        refine ⟨this.1, fun j hj => ?_⟩
        have h2 := this.2
        rw [hj] at h2
        simpa using h2
      let S' : St := ⟨S.n, a, b ++ (t0.map fun x => (x.1, x.2.2)) ++ dk⟩
      have h0k : ∀ x ∈ t0, (x.1, x.2.1) ∈ tk := fun x hx => by rw [← htk]; exact List.mem_append_left _ (List.mem_map.2 ⟨x, hx, rfl⟩)
      have hdk : ∀ x ∈ d, x ∈ tk := fun x hx => by rw [← htk]; simp [hx]
      have n10 : (t0.map (·.1)).Nodup := by rw [← htk, List.map_append, List.map_map] at n1; exact (List.nodup_append.1 n1).1
      have n1d : (dk.map (·.1)).Nodup := by rw [← htk, List.map_append] at n1; rw [← dd1]; exact (List.nodup_append.1 n1).2.1
      have nsep : ∀ x ∈ dk, x.1 ∉ t0.map (·.1) := fun x hx hm => by
        rw [← htk, List.map_append, List.map_map] at n1
        exact (List.nodup_append.1 n1).2.2 x.1 hm x.1 (by rw [dd1]; exact List.mem_map.2 ⟨x, hx, rfl⟩) rfl
      have nblk : ∀ x ∈ dk, x.1 ∉ blk := fun x hx hm => by
        have : x.1 ∈ d.map (·.1) := by rw [dd1]; exact List.mem_map.2 ⟨x, hx, rfl⟩
        obtain ⟨y, hy, e⟩ := List.mem_map.1 this
        have := (n3' y (hdk y hy)).1
        rw [e] at this
        simp at this
        exact this hm
      have hbkeys : b.map (·.1) = blk := by
        rw [← hblk]
        have : ∀ {bs : List (Nat × List KC)} {l : List (Nat × Res)}, viewB S blk bs = some l → l.map (·.1) = bs.map (·.1) := by
          intro bs
          induction bs with
          | nil => intro l h; cases h; rfl
          | cons x bs ih =>
            intro l h
            simp only [viewB] at h
            split at h
            · simp only [Option.bind_eq_some_iff, Option.map_eq_some_iff] at h
              obtain ⟨d, h1, es, h2, rfl⟩ := h
              simp [ih h2]
            · cases h
        exact this hb
      have hbblk : ∀ {l : List (Nat × Res)} {bs : List (Nat × List KC)}, viewB S blk bs = some l → ∀ id, id ∈ l.map (·.1) → ∃ cs, l.lookup id = some (.blk cs) := by
        intro l bs
        induction bs generalizing l with
        | nil => intro h; cases h; intro id hid; simp at hid
        | cons x bs ih =>
          intro h id hid
          simp only [viewB] at h
          split at h
          · simp only [Option.bind_eq_some_iff, Option.map_eq_some_iff] at h
            obtain ⟨d, h1, es, h2, rfl⟩ := h
            by_cases e : id = x.1
            · subst e; exact ⟨d, by simp [List.lookup]⟩
            · have : (id == x.1) = false := by simpa using e
              simp only [List.map_cons, List.mem_cons] at hid
              obtain ⟨cs, hcs⟩ := ih h2 id (hid.resolve_left e)
              exact ⟨cs, by simp only [List.lookup, this]; exact hcs⟩
          · cases h
      have hR : ∀ id, S'.R id = ((b.lookup id).or ((t0.map fun x => (x.1, x.2.2)).lookup id)).or (dk.lookup id) := fun id => by
        show (b ++ (t0.map fun x => (x.1, x.2.2)) ++ dk).lookup id = _
        rw [up_app, up_app]
      have htok : ∀ x ∈ t0, (t0.map fun x => (x.1, x.2.2)).lookup x.1 = some x.2.2 := by
        intro x hx
        have := tk_lookup (tk := t0.map fun x => (x.1, x.2.2)) (x := (x.1, x.2.2)) (by simpa [Function.comp_def] using n10) (List.mem_map.2 ⟨x, hx, rfl⟩)
        exact this
      have hdtok : ∀ x ∈ dk, S'.R x.1 = some x.2 := by
        intro x hx
        have := tk_lookup (tk := dk) (x := x) n1d hx
        rw [hR, lookup_none_of (by rw [hbkeys]; exact nblk x hx), lookup_none_of (by simpa [Function.comp_def] using nsep x hx)]
        exact this
      have hN : Names S'.R blk t0 tk := by
        refine ⟨h0k, n1, fun x hx => (n3' x hx).1, fun x hx => ?_, fun id hid => ?_⟩
        · rw [hR, lookup_none_of (by rw [hbkeys]; have := (n3' _ (h0k x hx)).1; simpa using this), htok x hx]; rfl
        · obtain ⟨cs, hcs⟩ := hbblk hb id (by rw [hbkeys]; simpa using hid)
          exact ⟨cs, by rw [hR, hcs]; rfl⟩
      have hbc : ∀ x ∈ bs, blk.contains x.1 = true := fun x hx => by
        rw [← hblk]; simp only [List.contains_iff_mem]; exact List.mem_map.2 ⟨x, hx, rfl⟩
      have hsig0 : ∀ z ∈ tk, sig blk tk z.1 = z.2 := fun z hz => by
        simp only [sig]
        rw [if_neg (by rw [(n3' z hz).1]; simp), tk_lookup n1 hz]
        rfl
      have hfz : ∀ i ∈ frzT S ts ++ frzB S bs, ∀ id', sig blk tk id' ≠ some i := by
        intro i hi id' he
        have := List.all_eq_true.1 n4 i hi
        simp only [Bool.and_eq_true, Bool.not_eq_true'] at this
        obtain ⟨f1, f2⟩ := this
        simp only [sig] at he
        split at he
        · rename_i hb'
          cases he
          rw [f1] at hb'
          cases hb'
        · cases hl : tk.lookup id' with
          | none => rw [hl] at he; cases he
          | some y =>
            rw [hl] at he
            have he : y = some i := he
            subst he
            have hm : (id', some i) ∈ tk := lk_mem' hl
            have : i ∈ tk.filterMap (·.2) := List.mem_filterMap.2 ⟨_, hm, rfl⟩
            have f3 : (tk.filterMap (·.2)).contains i = true := by simpa using this
            rw [f2] at f3
            cases f3
      obtain ⟨v1, v2, v3⟩ := viewB_V (S' := S') hN hb hbc (fun x hx => by rw [← ht0]; simp [hx]) (fun i hi => hfz i (by simp [hi]))
      have hVd : ∀ l : List (Nat × Res), (∀ x ∈ l, x ∈ dk) → VRes (sig blk tk) S S' l := by
        intro l
        induction l with
        | nil => intro _; trivial
        | cons x l ih =>
          intro hl
          refine ⟨?_, ih (fun y hy => hl y (by simp [hy]))⟩
          obtain ⟨y, h1, h2⟩ := dd2 x (hl x (by simp))
          have hs : sig blk tk x.1 = y := hsig0 _ (hdk _ h1)
          show VRes1 _ _ _ _ (sig blk tk x.1)
          rw [hs]
          rcases h2 with ⟨v, u, q1, q2, h3⟩ | ⟨e, m, m', T, v, u, q1, q2, q3, h3⟩
          · rw [q2]
            rcases h3 with ⟨rfl, _⟩ | ⟨rfl, _⟩
            · trivial
            · simp only [VRes1, q1]
          · rw [q2]
            rcases h3 with ⟨rfl, _⟩ | ⟨rfl, _, h0⟩
            · exact q3
            · simp only [VRes1, q1]
              exact ⟨by rw [List.eq_nil_of_length_eq_zero q3, List.eq_nil_of_length_eq_zero h0], trivial⟩
      have hVt : ∀ l : List (Nat × Option Nat × Res), (∀ x ∈ l, x ∈ t0) → (∀ x ∈ l, VRes1 (sig blk tk) S S' x.2.2 x.2.1) → VRes (sig blk tk) S S' (l.map fun x => (x.1, x.2.2)) := by
        intro l
        induction l with
        | nil => intro _ _; trivial
        | cons x l ih =>
          intro hl hj
          refine ⟨?_, ih (fun y hy => hl y (by simp [hy])) (fun y hy => hj y (by simp [hy]))⟩
          have hm := hl x (by simp)
          show VRes1 _ _ _ _ (sig blk tk x.1)
          rw [sig_of hN hm]
          exact hj x (by simp)
      have htkR : ∀ x ∈ t0, VRes1 (sig blk tk) S S' x.2.2 x.2.1 := by
        have hcell : ∀ {k : KC} {c d : Cell}, viewCell S.R blk k c = some d → ∀ x ∈ tokCell S.R k c, VRes1 (sig blk tk) S S' x.2.2 x.2.1 := by
          intro k c d h x hx
          unfold tokCell at hx
          split at hx
          · simp only [List.mem_singleton] at hx
            subst hx
            simp only [viewCell] at h
            split at h
            · rename_i v hv; simp only [VRes1, hv]
            · cases h
          · simp only [List.mem_singleton] at hx
            subst hx
            trivial
          · simp only [List.mem_singleton] at hx
            subst hx
            simp only [viewCell] at h
            split at h
            · rename_i e3 l T3 v hv; simp only [VRes1, hv, true_and]
            · cases h
          · simp only [List.mem_singleton] at hx
            subst hx
            exact rfl
          · cases hx
        have hcells : ∀ {ks : List KC} {cs ds : List Cell}, viewCells S.R blk ks cs = some ds → ∀ x ∈ tokCells S.R ks cs, VRes1 (sig blk tk) S S' x.2.2 x.2.1 := by
          intro ks
          induction ks with
          | nil => intro cs ds _ x hx; simp [tokCells] at hx
          | cons k ks ih =>
            intro cs ds h x hx
            cases cs with
            | nil => simp [tokCells] at hx
            | cons c cs =>
              simp only [viewCells, Option.bind_eq_some_iff, Option.map_eq_some_iff] at h
              obtain ⟨d, h1, es, h2, rfl⟩ := h
              simp only [tokCells, List.mem_append] at hx
              rcases hx with hx | hx
              · exact hcell h1 x hx
              · exact ih h2 x hx
        have h1 : ∀ {ks : List KC} {p q : PVal}, view1 S.R blk ks p = some q → ∀ x ∈ tok1 S.R ks p, VRes1 (sig blk tk) S S' x.2.2 x.2.1 := by
          intro ks p q h x hx
          cases p with
          | tup ps => match ks, h with
            | [], h => cases h
            | [_], h => cases h
            | _ :: _ :: _, h => cases h
          | p y => cases y with
            | one c =>
              obtain ⟨k, d, rfl, h1, rfl⟩ := view1_one h
              exact hcell h1 x hx
            | agg cs =>
              rw [view1_agg] at h
              rw [tok1_agg] at hx
              simp only [Option.map_eq_some_iff] at h
              obtain ⟨d, h1, rfl⟩ := h
              exact hcells h1 x hx
        have hT : ∀ {ts : List (Nat × List KC)} {l : List (Nat × PVal)}, viewT S blk ts = some l → ∀ x ∈ toksT S ts, VRes1 (sig blk tk) S S' x.2.2 x.2.1 := by
          intro ts
          induction ts with
          | nil => intro l _ x hx; simp [toksT] at hx
          | cons y ts ih =>
            intro l h x hx
            simp only [viewT, Option.bind_eq_some_iff, Option.map_eq_some_iff] at h
            obtain ⟨d, h2, es, h3, rfl⟩ := h
            simp only [toksT, List.mem_append] at hx
            rcases hx with hx | hx
            · exact h1 h2 x hx
            · exact ih h3 x hx
        have hB : ∀ {ts : List (Nat × List KC)} {l : List (Nat × Res)}, viewB S blk ts = some l → ∀ x ∈ toksB S ts, VRes1 (sig blk tk) S S' x.2.2 x.2.1 := by
          intro ts
          induction ts with
          | nil => intro l _ x hx; simp [toksB] at hx
          | cons y ts ih =>
            intro l h x hx
            simp only [viewB] at h
            split at h
            · rename_i cs hcs
              simp only [Option.bind_eq_some_iff, Option.map_eq_some_iff] at h
              obtain ⟨d, h2, es, h3, rfl⟩ := h
              simp only [toksB, hcs, List.mem_append] at hx
              rcases hx with hx | hx
              · exact hcells h2 x hx
              · exact ih h3 x hx
            · cases h
        intro x hx
        rw [← ht0] at hx
        rcases List.mem_append.1 hx with hx | hx
        · exact hT ha x hx
        · exact hB hb x hx
      have hVapp : ∀ {l m : List (Nat × Res)}, VRes (sig blk tk) S S' l → VRes (sig blk tk) S S' m → VRes (sig blk tk) S S' (l ++ m) := by
        intro l m hl hm
        induction l with
        | nil => exact hm
        | cons x l ih => exact ⟨hl.1, ih hl.2⟩
      refine Wk.of (sig blk tk) (S' := S') rfl (viewT_V hN ha (fun x hx => by rw [← ht0]; simp [hx]) (fun i hi => hfz i (by simp [hi]))) (hVapp (hVapp v1 (hVt t0 (fun x hx => hx) htkR)) (hVd dk (fun x hx => hx))) ?_ ?_
      · have : ∀ l : List Nat, (∀ k ∈ l, k ∈ blk ∨ k ∈ dk.map (·.1)) → VKs (sig blk tk) S S' l := by
          intro l
          induction l with
          | nil => intro _; trivial
          | cons k l ih =>
            intro hl
            refine ⟨?_, ih (fun k hk => hl k (by simp [hk]))⟩
            rcases hl k (by simp) with hkm | hkm
            · have hkb : blk.contains k = true := by simpa using hkm
              obtain ⟨cs, hcs⟩ := hN.blks k hkb
              obtain ⟨cs2, hcs2⟩ := hbblk hb k (by rw [hbkeys]; exact hkm)
              obtain ⟨_, ds, _, hds⟩ := v3 k _ hcs2
              rw [hds, hcs]
              show sig blk tk k = some k
              simp only [sig]
              rw [if_pos hkb]
            · obtain ⟨x, hx, rfl⟩ := List.mem_map.1 hkm
              obtain ⟨y, h1, h2⟩ := dd2 x hx
              rcases h2 with ⟨v, u, q1, q2, h3⟩ | ⟨e, m, m', T, v, u, q1, q2, q3, h3⟩
              · rw [q1, hdtok x hx, q2]
                rcases h3 with ⟨_, h4⟩ | ⟨rfl, h4⟩
                · exact .inr h4
                · exact .inl ⟨hsig0 _ (hdk _ h1), h4.symm⟩
              · rw [q1, hdtok x hx, q2]
                refine ⟨rfl, rfl, ?_⟩
                rcases h3 with ⟨_, h4⟩ | ⟨rfl, h4, h5⟩
                · exact .inr h4
                · exact .inl ⟨hsig0 _ (hdk _ h1), h4.symm, by rw [q3, h5]⟩
        exact this ks hk
      · intro x hx y hy j h1 h2
        have hkey : ∀ x : Nat × Res, x ∈ b ++ (t0.map fun x => (x.1, x.2.2)) ++ dk → blk.contains x.1 = true ∨ ∃ z ∈ tk, z.1 = x.1 := by
          intro x hx
          rcases List.mem_append.1 hx with hx | hx
          rcases List.mem_append.1 hx with hx | hx
          · left
            have : x.1 ∈ b.map (·.1) := List.mem_map.2 ⟨x, hx, rfl⟩
            rw [hbkeys] at this
            simpa using this
          · obtain ⟨z, hz, rfl⟩ := List.mem_map.1 hx
            exact .inr ⟨_, h0k z hz, rfl⟩
          · obtain ⟨y, h1, _⟩ := dd2 x hx
            exact .inr ⟨_, hdk _ h1, rfl⟩
        have hsig : ∀ z ∈ tk, sig blk tk z.1 = z.2 := fun z hz => by
          simp only [sig]
          rw [if_neg (by rw [(n3' z hz).1]; simp), tk_lookup n1 hz]
          rfl
        rcases hkey x hx with hbx | ⟨z, hz, ez⟩ <;> rcases hkey y hy with hby | ⟨u, hu, eu⟩
        · simp only [sig] at h1 h2
          rw [if_pos hbx] at h1
          rw [if_pos hby] at h2
          exact (Option.some.inj h1).trans (Option.some.inj h2).symm
        · simp only [sig] at h1
          rw [if_pos hbx] at h1
          cases h1
          rw [← eu, hsig u hu] at h2
          have := (n3' u hu).2 _ h2
          rw [this] at hbx; cases hbx
        · simp only [sig] at h2
          rw [if_pos hby] at h2
          cases h2
          rw [← ez, hsig z hz] at h1
          have := (n3' z hz).2 _ h1
          rw [this] at hby; cases hby
        · rw [← ez, hsig z hz] at h1
          rw [← eu, hsig u hu] at h2
          rw [← ez, ← eu, filterMap_inj n2 hz hu h1 h2]
    · cases h
  · cases h
end Go.Proofs.YtpmnhbjbkoackaaDoor.En
