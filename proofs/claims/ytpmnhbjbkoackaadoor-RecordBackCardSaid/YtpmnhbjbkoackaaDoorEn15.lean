/- What is kept of a state at a loop's head or where ways meet: the listed slots and variables, rights to append under new names. -/
import Derived.Test.YtpmnhbjbkoackaaDoorEn14
namespace Go.Proofs.YtpmnhbjbkoackaaDoor.En
open Go Go.RowKit
set_option linter.unusedVariables false
set_option linter.unusedSimpArgs false
/-- How a cell is kept: as data; as a list with the right to append, by this name; as a pointer into a kept variable. -/
inductive KC where
  | d (s : Option Ty)
  | t (e : Ty) (T id : Nat)
  | p
def viewCell (R : Nat → Option Res) (blk : List Nat) : KC → Cell → Option Cell
  | .d s, c => fitC s c
  | .t e T id', .acc e2 l T2 id ver => match R id with
    | some (.tok v) => if e2 = e ∧ T2 = T ∧ v = ver then some (.acc e2 l T2 id' 0) else none
    | _ => none
  | .t e T id', .lit (.slice none 0 0) => some (.acc e [] T id' 0)
  | .p, .ptr id off => if blk.contains id = true then some (.ptr id off) else none
  | _, _ => none
def viewCells (R : Nat → Option Res) (blk : List Nat) : List KC → List Cell → Option (List Cell)
  | [], [] => some []
  | k :: ks, c :: cs => (viewCell R blk k c).bind fun d => (viewCells R blk ks cs).map (d :: ·)
  | _, _ => none
def view1 (R : Nat → Option Res) (blk : List Nat) : List KC → PVal → Option PVal
  | [k], .p (.one c) => (viewCell R blk k c).map fun d => .p (.one d)
  | ks, .p (.agg cs) => (viewCells R blk ks cs).map fun ds => .p (.agg ds)
  | _, _ => none
def tokCell : KC → Cell → List (Nat × Option Nat)
  | .t _ _ id', .acc _ _ _ id _ => [(id', some id)]
  | .t _ _ id', _ => [(id', none)]
  | _, _ => []
def tokCells : List KC → List Cell → List (Nat × Option Nat)
  | k :: ks, c :: cs => tokCell k c ++ tokCells ks cs
  | _, _ => []
def tok1 : List KC → PVal → List (Nat × Option Nat)
  | [k], .p (.one c) => tokCell k c
  | ks, .p (.agg cs) => tokCells ks cs
  | _, _ => []
def viewT (S : St) (blk : List Nat) : List (Nat × List KC) → Option (List (Nat × PVal))
  | [] => some []
  | x :: l => (view1 S.R blk x.2 (S.get x.1)).bind fun p => (viewT S blk l).map ((x.1, p) :: ·)
def viewB (S : St) (blk : List Nat) : List (Nat × List KC) → Option (List (Nat × Res))
  | [] => some []
  | x :: l => match S.R x.1 with
    | some (.blk cs) => (viewCells S.R blk x.2 cs).bind fun ds => (viewB S blk l).map ((x.1, .blk ds) :: ·)
    | _ => none
def toksT (S : St) : List (Nat × List KC) → List (Nat × Option Nat)
  | [] => []
  | x :: l => tok1 x.2 (S.get x.1) ++ toksT S l
def toksB (S : St) : List (Nat × List KC) → List (Nat × Option Nat)
  | [] => []
  | x :: l => (match S.R x.1 with | some (.blk cs) => tokCells x.2 cs | _ => []) ++ toksB S l
/-- Rights that were handed in and are given up: their names, and the counts that stand for it. -/
def deads (S : St) : List (Nat × Nat) → Option (List (Nat × Option Nat))
  | [] => some []
  | x :: l => match S.R x.1 with
    | some (.tok v) => if v < x.2 then (deads S l).map ((x.1, none) :: ·) else if v = x.2 then (deads S l).map ((x.1, some x.1) :: ·) else none
    | _ => none
/-- The kept state. -/
def viewS (ts bs : List (Nat × List KC)) (dk : List (Nat × Nat)) (S : St) : Option St :=
  match viewT S (bs.map (·.1)) ts, viewB S (bs.map (·.1)) bs, deads S dk with
  | some a, some b, some d =>
    if ((toksT S ts ++ toksB S bs ++ d).map (·.1)).Nodup ∧ ((toksT S ts ++ toksB S bs ++ d).filterMap (·.2)).Nodup ∧
      ((toksT S ts ++ toksB S bs ++ d).all fun x => !(bs.map (·.1)).contains x.1 && (match x.2 with | some j => !(bs.map (·.1)).contains j | none => true)) = true then
      some ⟨S.n, a, b ++ ((toksT S ts ++ toksB S bs).map fun x => (x.1, .tok 0)) ++ dk.map fun x => (x.1, .tok x.2)⟩
    else none
  | _, _, _ => none
section
variable {S : St} {R R' : Nat → Option Res} {blk : List Nat} {t0 tk : List (Nat × Option Nat)}
def sig (blk : List Nat) (tk : List (Nat × Option Nat)) (id : Nat) : Option Nat := if blk.contains id = true then some id else (tk.lookup id).join
theorem tk_lookup {α : Type} : ∀ {tk : List (Nat × α)} {x : Nat × α}, (tk.map (·.1)).Nodup → x ∈ tk → tk.lookup x.1 = some x.2
  | [], x, _, h => by cases h
  | y :: tk, x, hn, h => by
    obtain ⟨k, v⟩ := y
    simp only [List.map_cons, List.nodup_cons] at hn
    rcases List.mem_cons.1 h with rfl | h
    · simp [List.lookup]
    · have hne : x.1 ≠ k := fun e => hn.1 (by rw [← e]; exact List.mem_map.2 ⟨x, h, rfl⟩)
      have : (x.1 == k) = false := by simpa using hne
      simp only [List.lookup, this]
      exact tk_lookup hn.2 h
/-- What is right of the names. -/
structure Names (R' : Nat → Option Res) (blk : List Nat) (t0 tk : List (Nat × Option Nat)) : Prop where
  n0 : ∀ x ∈ t0, x ∈ tk
  n1 : (tk.map (·.1)).Nodup
  n3 : ∀ x ∈ tk, blk.contains x.1 = false
  toks : ∀ x ∈ t0, R' x.1 = some (.tok 0)
  blks : ∀ id, blk.contains id = true → ∃ cs, R' id = some (.blk cs)
theorem viewCell_V (hN : Names R' blk t0 tk) {k : KC} {c d : Cell} (h : viewCell R blk k c = some d) (ht : ∀ x ∈ tokCell k c, x ∈ t0) : VCell (sig blk tk) R R' d c ∧ d ≠ .dead := by
  unfold viewCell at h
  split at h
  · obtain ⟨a1, a2, a3⟩ := fitC_spec h
    refine ⟨?_, a2⟩
    cases d with
    | dead => exact (a2 rfl).elim
    | acc => exact a3.elim
    | ptr => exact a3.elim
    | _ => exact a1
  · rename_i e T id' e2 l T2 id ver
    split at h
    · rename_i v hv
      split at h
      · rename_i hc
        obtain ⟨rfl, rfl, rfl⟩ := hc
        cases h
        have hm0 : (id', some id) ∈ t0 := ht _ (by simp [tokCell])
        have hm := hN.n0 _ hm0
        have hb := hN.n3 _ hm
        have hl := tk_lookup hN.n1 hm
        refine ⟨⟨rfl, rfl, ?_, hN.toks _ hm0, hv⟩, by simp⟩
        simp only [sig]
        rw [if_neg (by rw [hb]; simp), hl]
        rfl
      · cases h
    · cases h
  · rename_i e T id'
    cases h
    have hm0 : (id', none) ∈ t0 := ht _ (by simp [tokCell])
    have hm := hN.n0 _ hm0
    have hb := hN.n3 _ hm
    have hl := tk_lookup hN.n1 hm
    refine ⟨⟨rfl, ?_, hN.toks _ hm0⟩, by simp⟩
    simp only [sig]
    rw [if_neg (by rw [hb]; simp), hl]
    rfl
  · rename_i id off
    split at h
    · rename_i hb
      cases h
      obtain ⟨cs, hcs⟩ := hN.blks id hb
      refine ⟨⟨rfl, by simp only [sig]; rw [if_pos hb], by rw [hcs]; trivial⟩, by simp⟩
    · cases h
  · cases h
theorem viewCells_V (hN : Names R' blk t0 tk) : ∀ {ks : List KC} {cs ds : List Cell}, viewCells R blk ks cs = some ds → (∀ x ∈ tokCells ks cs, x ∈ t0) → VCells (sig blk tk) R R' ds cs
  | [], [], ds, h, _ => by cases h; trivial
  | k :: ks, c :: cs, ds, h, ht => by
    simp only [viewCells, Option.bind_eq_some_iff, Option.map_eq_some_iff] at h
    obtain ⟨d, h1, es, h2, rfl⟩ := h
    exact ⟨viewCell_V hN h1 (fun x hx => ht x (by simp [tokCells, hx])), viewCells_V hN h2 (fun x hx => ht x (by simp [tokCells, hx]))⟩
  | [], _ :: _, _, h, _ => by simp [viewCells] at h
  | _ :: _, [], _, h, _ => by simp [viewCells] at h
theorem tok1_agg (ks : List KC) (cs : List Cell) : tok1 ks (.p (.agg cs)) = tokCells ks cs := by
  cases ks with
  | nil => rfl
  | cons k l => cases l <;> rfl
theorem view1_agg (ks : List KC) (cs : List Cell) : view1 R blk ks (.p (.agg cs)) = (viewCells R blk ks cs).map fun ds => .p (.agg ds) := by
  cases ks with
  | nil => rfl
  | cons k l => cases l <;> rfl
theorem view1_one {ks : List KC} {c : Cell} {q : PVal} (h : view1 R blk ks (.p (.one c)) = some q) : ∃ k d, ks = [k] ∧ viewCell R blk k c = some d ∧ q = .p (.one d) := by
  match ks, h with
  | [k], h =>
    simp only [view1, Option.map_eq_some_iff] at h
    obtain ⟨d, h1, rfl⟩ := h
    exact ⟨k, d, rfl, h1, rfl⟩
theorem view1_V (hN : Names R' blk t0 tk) {ks : List KC} {p q : PVal} (h : view1 R blk ks p = some q) (ht : ∀ x ∈ tok1 ks p, x ∈ t0) : VPV (sig blk tk) R R' q p := by
  cases p with
  | tup ps => match ks, h with
    | [], h => cases h
    | [_], h => cases h
    | _ :: _ :: _, h => cases h
  | p x => cases x with
    | one c =>
      obtain ⟨k, d, rfl, h1, rfl⟩ := view1_one h
      exact (viewCell_V hN h1 ht).1
    | agg cs =>
      rw [view1_agg] at h
      rw [tok1_agg] at ht
      simp only [Option.map_eq_some_iff] at h
      obtain ⟨d, h1, rfl⟩ := h
      exact viewCells_V hN h1 ht
theorem viewT_V {S' : St} (hN : Names S'.R blk t0 tk) : ∀ {ts : List (Nat × List KC)} {l : List (Nat × PVal)}, viewT S blk ts = some l → (∀ x ∈ toksT S ts, x ∈ t0) → VTmps (sig blk tk) S S' l
  | [], l, h, _ => by cases h; trivial
  | x :: ts, l, h, ht => by
    simp only [viewT, Option.bind_eq_some_iff, Option.map_eq_some_iff] at h
    obtain ⟨d, h1, es, h2, rfl⟩ := h
    exact ⟨view1_V hN h1 (fun x hx => ht x (by simp [toksT, hx])), viewT_V hN h2 (fun x hx => ht x (by simp [toksT, hx]))⟩
theorem viewB_V {S' : St} (hN : Names S'.R blk t0 tk) : ∀ {bs : List (Nat × List KC)} {l : List (Nat × Res)}, viewB S blk bs = some l → (∀ x ∈ bs, blk.contains x.1 = true) → (∀ x ∈ toksB S bs, x ∈ t0) → VRes (sig blk tk) S S' l ∧ l.map (·.1) = bs.map (·.1) ∧ (∀ id r, l.lookup id = some r → ∃ cs ds, r = .blk cs ∧ S.R id = some (.blk ds))
  | [], l, h, _, _ => by cases h; exact ⟨trivial, rfl, fun id r h => by simp at h⟩
  | x :: bs, l, h, hb, ht => by
    obtain ⟨k, ms⟩ := x
    simp only [viewB] at h
    split at h
    · rename_i cs hcs
      simp only [Option.bind_eq_some_iff, Option.map_eq_some_iff] at h
      obtain ⟨d, h1, es, h2, rfl⟩ := h
      obtain ⟨a1, a2, a3⟩ := viewB_V hN h2 (fun x hx => hb x (by simp [hx])) (fun x hx => ht x (by simp [toksB, hx]))
      refine ⟨⟨?_, a1⟩, by simp [a2], fun id r hr => ?_⟩
      · have hbk : blk.contains k = true := hb (k, ms) (by simp)
        have : sig blk tk k = some k := by simp only [sig]; rw [if_pos hbk]
        show VRes1 _ _ _ _ (sig blk tk k)
        rw [this]
        simp only [VRes1, hcs]
        exact viewCells_V hN h1 (fun x hx => ht x (by simp [toksB, hcs, hx]))
      · simp only [List.lookup] at hr
        split at hr
        · rename_i e
          have : id = k := by simpa using e
          subst this
          cases hr
          exact ⟨d, cs, rfl, hcs⟩
        · exact a3 id r hr
    · cases h
end
theorem lookup_none_of {α : Type} {l : List (Nat × α)} {id : Nat} (h : id ∉ l.map (·.1)) : l.lookup id = none := by
  induction l with
  | nil => rfl
  | cons x l ih =>
    obtain ⟨k, v⟩ := x
    simp only [List.map_cons, List.mem_cons, not_or] at h
    have : (id == k) = false := by simpa using h.1
    simp only [List.lookup, this]
    exact ih h.2
theorem filterMap_inj {tk : List (Nat × Option Nat)} (h : (tk.filterMap (·.2)).Nodup) {x y : Nat × Option Nat} {j : Nat} (hx : x ∈ tk) (hy : y ∈ tk) (h1 : x.2 = some j) (h2 : y.2 = some j) : x = y := by
  induction tk with
  | nil => cases hx
  | cons z tk ih =>
    rw [List.filterMap_cons] at h
    rcases List.mem_cons.1 hx with rfl | hx' <;> rcases List.mem_cons.1 hy with rfl | hy'
    · rfl
    · rw [h1] at h
      simp only [List.nodup_cons] at h
      exact (h.1 (List.mem_filterMap.2 ⟨y, hy', h2⟩)).elim
    · rw [h2] at h
      simp only [List.nodup_cons] at h
      exact (h.1 (List.mem_filterMap.2 ⟨x, hx', h1⟩)).elim
    · refine ih ?_ hx' hy'
      split at h
      · exact h
      · exact (List.nodup_cons.1 h).2
theorem deads_spec {S : St} : ∀ {l : List (Nat × Nat)} {d : List (Nat × Option Nat)}, deads S l = some d → d.map (·.1) = l.map (·.1) ∧
    ∀ x ∈ l, ∃ y v, (x.1, y) ∈ d ∧ S.R x.1 = some (.tok v) ∧ ((y = none ∧ v < x.2) ∨ (y = some x.1 ∧ v = x.2))
  | [], d, h => by cases h; exact ⟨rfl, fun x hx => by cases hx⟩
  | x :: l, d, h => by
    simp only [deads] at h
    split at h
    · rename_i v hv
      split at h
      · rename_i hlt
        obtain ⟨e, h1, rfl⟩ := Option.map_eq_some_iff.mp h
        obtain ⟨a1, a2⟩ := deads_spec h1
        refine ⟨by simp [a1], fun y hy => ?_⟩
        rcases List.mem_cons.1 hy with rfl | hy
        · exact ⟨none, v, by simp, hv, .inl ⟨rfl, hlt⟩⟩
        · obtain ⟨z, u, b1, b2⟩ := a2 y hy
          exact ⟨z, u, by simp [b1], b2⟩
      · split at h
        · rename_i heq
          obtain ⟨e, h1, rfl⟩ := Option.map_eq_some_iff.mp h
          obtain ⟨a1, a2⟩ := deads_spec h1
          refine ⟨by simp [a1], fun y hy => ?_⟩
          rcases List.mem_cons.1 hy with rfl | hy
          · exact ⟨some y.1, v, by simp, hv, .inr ⟨rfl, heq⟩⟩
          · obtain ⟨z, u, b1, b2⟩ := a2 y hy
            exact ⟨z, u, by simp [b1], b2⟩
        · cases h
    · cases h
/-- The kept state says no more than the state. -/
theorem Wk.view {ks : List Nat} {ts bs : List (Nat × List KC)} {dk : List (Nat × Nat)} {S S' : St} (h : viewS ts bs dk S = some S') (hk : ∀ k ∈ ks, k ∈ bs.map (·.1) ∨ k ∈ dk.map (·.1)) : Wk ks S S' := by
  unfold viewS at h
  split at h
  · rename_i a b d ha hb hd
    split at h
    · rename_i hc
      obtain ⟨n1, n2, n3⟩ := hc
      cases h
      obtain ⟨dd1, dd2⟩ := deads_spec hd
      generalize ht0 : toksT S ts ++ toksB S bs = t0 at *
      generalize htk : t0 ++ d = tk at *
      generalize hblk : bs.map (·.1) = blk at *
      have n3' : ∀ x ∈ tk, blk.contains x.1 = false ∧ ∀ j, x.2 = some j → blk.contains j = false := by
        intro x hx
        have := List.all_eq_true.1 n3 x hx
        simp only [Bool.and_eq_true, Bool.not_eq_true'] at this
        refine ⟨this.1, fun j hj => ?_⟩
        have h2 := this.2
        rw [hj] at h2
        simpa using h2
      let S' : St := ⟨S.n, a, b ++ (t0.map fun x => (x.1, Res.tok 0)) ++ dk.map fun x => (x.1, Res.tok x.2)⟩
      have h0k : ∀ x ∈ t0, x ∈ tk := fun x hx => by rw [← htk]; simp [hx]
      have hdk : ∀ x ∈ d, x ∈ tk := fun x hx => by rw [← htk]; simp [hx]
      have n10 : (t0.map (·.1)).Nodup := by rw [← htk, List.map_append] at n1; exact (List.nodup_append.1 n1).1
      have n1d : (dk.map (·.1)).Nodup := by rw [← htk, List.map_append] at n1; rw [← dd1]; exact (List.nodup_append.1 n1).2.1
      have nsep : ∀ x ∈ dk, x.1 ∉ t0.map (·.1) := fun x hx hm => by
        rw [← htk, List.map_append] at n1
        exact (List.nodup_append.1 n1).2.2 x.1 hm x.1 (by rw [dd1]; exact List.mem_map.2 ⟨x, hx, rfl⟩) rfl
      have nblk : ∀ x ∈ dk, x.1 ∉ blk := fun x hx hm => by
        have : x.1 ∈ d.map (·.1) := by rw [dd1]; exact List.mem_map.2 ⟨x, hx, rfl⟩
        obtain ⟨y, hy, e⟩ := List.mem_map.1 this
        have := (n3' y (hdk y hy)).1
        rw [e] at this
        simp at this
        exact this hm
      have hbkeys : b.map (·.1) = blk := by
        rw [← hblk]
        have : ∀ {bs : List (Nat × List KC)} {l : List (Nat × Res)}, viewB S blk bs = some l → l.map (·.1) = bs.map (·.1) := by
          intro bs
          induction bs with
          | nil => intro l h; cases h; rfl
          | cons x bs ih =>
            intro l h
            simp only [viewB] at h
            split at h
            · simp only [Option.bind_eq_some_iff, Option.map_eq_some_iff] at h
              obtain ⟨d, h1, es, h2, rfl⟩ := h
              simp [ih h2]
            · cases h
        exact this hb
      have hbblk : ∀ {l : List (Nat × Res)} {bs : List (Nat × List KC)}, viewB S blk bs = some l → ∀ id, id ∈ l.map (·.1) → ∃ cs, l.lookup id = some (.blk cs) := by
        intro l bs
        induction bs generalizing l with
        | nil => intro h; cases h; intro id hid; simp at hid
        | cons x bs ih =>
          intro h id hid
          simp only [viewB] at h
          split at h
          · simp only [Option.bind_eq_some_iff, Option.map_eq_some_iff] at h
            obtain ⟨d, h1, es, h2, rfl⟩ := h
            by_cases e : id = x.1
            · subst e; exact ⟨d, by simp [List.lookup]⟩
            · have : (id == x.1) = false := by simpa using e
              simp only [List.map_cons, List.mem_cons] at hid
              obtain ⟨cs, hcs⟩ := ih h2 id (hid.resolve_left e)
              exact ⟨cs, by simp only [List.lookup, this]; exact hcs⟩
          · cases h
      have hR : ∀ id, S'.R id = ((b.lookup id).or ((t0.map fun x => (x.1, Res.tok 0)).lookup id)).or ((dk.map fun x => (x.1, Res.tok x.2)).lookup id) := fun id => by
        show (b ++ (t0.map fun x => (x.1, Res.tok 0)) ++ dk.map fun x => (x.1, Res.tok x.2)).lookup id = _
        rw [up_app, up_app]
      have htok : ∀ x ∈ t0, (t0.map fun x => (x.1, Res.tok 0)).lookup x.1 = some (.tok 0) := by
        intro x hx
        have := tk_lookup (tk := t0.map fun x => (x.1, Res.tok 0)) (x := (x.1, Res.tok 0)) (by simpa [Function.comp_def] using n10) (List.mem_map.2 ⟨x, hx, rfl⟩)
        exact this
      have hdtok : ∀ x ∈ dk, S'.R x.1 = some (.tok x.2) := by
        intro x hx
        have := tk_lookup (tk := dk.map fun x => (x.1, Res.tok x.2)) (x := (x.1, Res.tok x.2)) (by simpa [Function.comp_def] using n1d) (List.mem_map.2 ⟨x, hx, rfl⟩)
        rw [hR, lookup_none_of (by rw [hbkeys]; exact nblk x hx), lookup_none_of (by simpa [Function.comp_def] using nsep x hx)]
        exact this
      have hN : Names S'.R blk t0 tk := by
        refine ⟨h0k, n1, fun x hx => (n3' x hx).1, fun x hx => ?_, fun id hid => ?_⟩
        · rw [hR, lookup_none_of (by rw [hbkeys]; have := (n3' x (h0k x hx)).1; simpa using this), htok x hx]; rfl
        · obtain ⟨cs, hcs⟩ := hbblk hb id (by rw [hbkeys]; simpa using hid)
          exact ⟨cs, by rw [hR, hcs]; rfl⟩
      have hbc : ∀ x ∈ bs, blk.contains x.1 = true := fun x hx => by
        rw [← hblk]; simp only [List.contains_iff_mem]; exact List.mem_map.2 ⟨x, hx, rfl⟩
      obtain ⟨v1, v2, v3⟩ := viewB_V (S' := S') hN hb hbc (fun x hx => by rw [← ht0]; simp [hx])
      have hVd : ∀ l : List (Nat × Nat), (∀ x ∈ l, x ∈ dk) → VRes (sig blk tk) S S' (l.map fun x => (x.1, Res.tok x.2)) := by
        intro l
        induction l with
        | nil => intro _; trivial
        | cons x l ih =>
          intro hl
          refine ⟨?_, ih (fun y hy => hl y (by simp [hy]))⟩
          obtain ⟨y, v, h1, h2, h3⟩ := dd2 x (hl x (by simp))
          have hs : sig blk tk x.1 = y := by
            simp only [sig]
            rw [if_neg (by have := nblk x (hl x (by simp)); simpa using this), tk_lookup (x := (x.1, y)) n1 (hdk _ h1)]
            rfl
          show VRes1 _ _ _ _ (sig blk tk x.1)
          rw [hs]
          rcases h3 with ⟨rfl, _⟩ | ⟨rfl, _⟩
          · trivial
          · simp only [VRes1, h2]
      have hVt : ∀ l : List (Nat × Option Nat), (∀ x ∈ l, x ∈ tk) → (∀ x ∈ l, ∀ j, x.2 = some j → ∃ v, S.R j = some (.tok v)) → VRes (sig blk tk) S S' (l.map fun x => (x.1, Res.tok 0)) := by
        intro l
        induction l with
        | nil => intro _ _; trivial
        | cons x l ih =>
          intro hl hj
          refine ⟨?_, ih (fun y hy => hl y (by simp [hy])) (fun y hy => hj y (by simp [hy]))⟩
          have hm := hl x (by simp)
          have hs : sig blk tk x.1 = x.2 := by
            simp only [sig]
            rw [if_neg (by rw [(n3' x hm).1]; simp), tk_lookup n1 hm]
            rfl
          show VRes1 _ _ _ _ (sig blk tk x.1)
          rw [hs]
          cases hx : x.2 with
          | none => trivial
          | some j =>
            obtain ⟨v, hv⟩ := hj x (by simp) j hx
            simp only [VRes1, hv]
      have htkR : ∀ x ∈ t0, ∀ j, x.2 = some j → ∃ v, S.R j = some (.tok v) := by
        have hcell : ∀ {k : KC} {c d : Cell}, viewCell S.R blk k c = some d → ∀ x ∈ tokCell k c, ∀ j, x.2 = some j → ∃ v, S.R j = some (.tok v) := by
          intro k c d h x hx j hj
          unfold tokCell at hx
          split at hx
          · simp only [List.mem_singleton] at hx
            subst hx
            cases hj
            simp only [viewCell] at h
            split at h
            · rename_i v hv; exact ⟨v, hv⟩
            · cases h
          · simp only [List.mem_singleton] at hx
            subst hx
            cases hj
          · cases hx
        have hcells : ∀ {ks : List KC} {cs ds : List Cell}, viewCells S.R blk ks cs = some ds → ∀ x ∈ tokCells ks cs, ∀ j, x.2 = some j → ∃ v, S.R j = some (.tok v) := by
          intro ks
          induction ks with
          | nil => intro cs ds _ x hx; simp [tokCells] at hx
          | cons k ks ih =>
            intro cs ds h x hx j hj
            cases cs with
            | nil => simp [tokCells] at hx
            | cons c cs =>
              simp only [viewCells, Option.bind_eq_some_iff, Option.map_eq_some_iff] at h
              obtain ⟨d, h1, es, h2, rfl⟩ := h
              simp only [tokCells, List.mem_append] at hx
              rcases hx with hx | hx
              · exact hcell h1 x hx j hj
              · exact ih h2 x hx j hj
        have h1 : ∀ {ks : List KC} {p q : PVal}, view1 S.R blk ks p = some q → ∀ x ∈ tok1 ks p, ∀ j, x.2 = some j → ∃ v, S.R j = some (.tok v) := by
          intro ks p q h x hx j hj
          cases p with
          | tup ps => match ks, h with
            | [], h => cases h
            | [_], h => cases h
            | _ :: _ :: _, h => cases h
          | p y => cases y with
            | one c =>
              obtain ⟨k, d, rfl, h1, rfl⟩ := view1_one h
              exact hcell h1 x hx j hj
            | agg cs =>
              rw [view1_agg] at h
              rw [tok1_agg] at hx
              simp only [Option.map_eq_some_iff] at h
              obtain ⟨d, h1, rfl⟩ := h
              exact hcells h1 x hx j hj
        have hT : ∀ {ts : List (Nat × List KC)} {l : List (Nat × PVal)}, viewT S blk ts = some l → ∀ x ∈ toksT S ts, ∀ j, x.2 = some j → ∃ v, S.R j = some (.tok v) := by
          intro ts
          induction ts with
          | nil => intro l _ x hx; simp [toksT] at hx
          | cons y ts ih =>
            intro l h x hx j hj
            simp only [viewT, Option.bind_eq_some_iff, Option.map_eq_some_iff] at h
            obtain ⟨d, h2, es, h3, rfl⟩ := h
            simp only [toksT, List.mem_append] at hx
            rcases hx with hx | hx
            · exact h1 h2 x hx j hj
            · exact ih h3 x hx j hj
        have hB : ∀ {ts : List (Nat × List KC)} {l : List (Nat × Res)}, viewB S blk ts = some l → ∀ x ∈ toksB S ts, ∀ j, x.2 = some j → ∃ v, S.R j = some (.tok v) := by
          intro ts
          induction ts with
          | nil => intro l _ x hx; simp [toksB] at hx
          | cons y ts ih =>
            intro l h x hx j hj
            simp only [viewB] at h
            split at h
            · rename_i cs hcs
              simp only [Option.bind_eq_some_iff, Option.map_eq_some_iff] at h
              obtain ⟨d, h2, es, h3, rfl⟩ := h
              simp only [toksB, hcs, List.mem_append] at hx
              rcases hx with hx | hx
              · exact hcells h2 x hx j hj
              · exact ih h3 x hx j hj
            · cases h
        intro x hx
        rw [← ht0] at hx
        rcases List.mem_append.1 hx with hx | hx
        · exact hT ha x hx
        · exact hB hb x hx
      have hVapp : ∀ {l m : List (Nat × Res)}, VRes (sig blk tk) S S' l → VRes (sig blk tk) S S' m → VRes (sig blk tk) S S' (l ++ m) := by
        intro l m hl hm
        induction l with
        | nil => exact hm
        | cons x l ih => exact ⟨hl.1, ih hl.2⟩
      refine Wk.of (sig blk tk) (S' := S') rfl (viewT_V hN ha (fun x hx => by rw [← ht0]; simp [hx])) (hVapp (hVapp v1 (hVt t0 h0k htkR)) (hVd dk (fun x hx => hx))) ?_ ?_
      · have : ∀ l : List Nat, (∀ k ∈ l, k ∈ blk ∨ k ∈ dk.map (·.1)) → VKs (sig blk tk) S S' l := by
          intro l
          induction l with
          | nil => intro _; trivial
          | cons k l ih =>
            intro hl
            refine ⟨?_, ih (fun k hk => hl k (by simp [hk]))⟩
            rcases hl k (by simp) with hkm | hkm
            · have hkb : blk.contains k = true := by simpa using hkm
              obtain ⟨cs, hcs⟩ := hN.blks k hkb
              obtain ⟨cs2, hcs2⟩ := hbblk hb k (by rw [hbkeys]; exact hkm)
              obtain ⟨_, ds, _, hds⟩ := v3 k _ hcs2
              rw [hds, hcs]
              show sig blk tk k = some k
              simp only [sig]
              rw [if_pos hkb]
            · obtain ⟨x, hx, rfl⟩ := List.mem_map.1 hkm
              obtain ⟨y, v, h1, h2, h3⟩ := dd2 x hx
              rw [h2, hdtok x hx]
              rcases h3 with ⟨_, h4⟩ | ⟨rfl, h4⟩
              · exact .inr h4
              · refine .inl ⟨?_, h4.symm⟩
                simp only [sig]
                rw [if_neg (by have := nblk x hx; simpa using this), tk_lookup (x := (x.1, some x.1)) n1 (hdk _ h1)]
                rfl
        exact this ks hk
      · intro x hx y hy j h1 h2
        have hkey : ∀ x : Nat × Res, x ∈ b ++ (t0.map fun x => (x.1, Res.tok 0)) ++ (dk.map fun x => (x.1, Res.tok x.2)) → blk.contains x.1 = true ∨ ∃ z ∈ tk, z.1 = x.1 := by
          intro x hx
          rcases List.mem_append.1 hx with hx | hx
          rcases List.mem_append.1 hx with hx | hx
          · left
            have : x.1 ∈ b.map (·.1) := List.mem_map.2 ⟨x, hx, rfl⟩
            rw [hbkeys] at this
            simpa using this
          · obtain ⟨z, hz, rfl⟩ := List.mem_map.1 hx
            exact .inr ⟨z, h0k z hz, rfl⟩
          · obtain ⟨z, hz, rfl⟩ := List.mem_map.1 hx
            obtain ⟨y, v, h1, _⟩ := dd2 z hz
            exact .inr ⟨_, hdk _ h1, rfl⟩
        have hsig : ∀ z ∈ tk, sig blk tk z.1 = z.2 := fun z hz => by
          simp only [sig]
          rw [if_neg (by rw [(n3' z hz).1]; simp), tk_lookup n1 hz]
          rfl
        rcases hkey x hx with hbx | ⟨z, hz, ez⟩ <;> rcases hkey y hy with hby | ⟨u, hu, eu⟩
        · simp only [sig] at h1 h2
          rw [if_pos hbx] at h1
          rw [if_pos hby] at h2
          exact (Option.some.inj h1).trans (Option.some.inj h2).symm
        · simp only [sig] at h1
          rw [if_pos hbx] at h1
          cases h1
          rw [← eu, hsig u hu] at h2
          have := (n3' u hu).2 _ h2
          rw [this] at hbx; cases hbx
        · simp only [sig] at h2
          rw [if_pos hby] at h2
          cases h2
          rw [← ez, hsig z hz] at h1
          have := (n3' z hz).2 _ h1
          rw [this] at hby; cases hby
        · rw [← ez, hsig z hz] at h1
          rw [← eu, hsig u hu] at h2
          rw [← ez, ← eu, filterMap_inj n2 hz hu h1 h2]
    · cases h
  · cases h
end Go.Proofs.YtpmnhbjbkoackaaDoor.En
