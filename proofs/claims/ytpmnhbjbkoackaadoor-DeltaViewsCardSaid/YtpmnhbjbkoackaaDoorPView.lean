/- Views of deltas: what the plain functions come to: DeltaUndone and DeltaViews. -/
import Derived.Test.YtpmnhbjbkoackaaDoorPDelta
namespace Go.Proofs.YtpmnhbjbkoackaaDoor.En
open Go Go.RowKit Go.Proofs.YtpmnhbjbkoackaaDoor.Dig
set_option linter.unusedVariables false
set_option linter.unusedSimpArgs false
abbrev Rw := List (List Int)
def placeV (w : Int) (rows : Rw) (d : Dl) : Int :=
  if d.1 = 1 then (if d.2.1 ≠ (rows.length : Int) then 1 else if (d.2.2.length : Int) ≠ w then 3 else 0)
  else if d.1 = 2 then (if d.2.1 < 0 then 1 else if (rows.length : Int) ≤ d.2.1 then 1 else if (d.2.2.length : Int) ≠ w then 3 else 0)
  else if d.1 = 3 then (if (rows.length : Int) = 0 then 1 else if d.2.1 ≠ (rows.length : Int) - 1 then 1 else if 0 < d.2.2.length then 1 else 0)
  else 22
def movV (rows : Rw) (d : Dl) : Rw := if d.1 = 1 then rows ++ [d.2.2] else if d.1 = 2 then rows.set d.2.1.toNat d.2.2 else rows.take d.2.1.toNat
def doV (w : Int) (rows : Rw) (d : Dl) : Int × Rw := if placeV w rows d ≠ 0 then (placeV w rows d, rows) else (0, movV rows d)
theorem doV_ok {w : Int} {rows : Rw} {d : Dl} (h : placeV w rows d = 0) : doV w rows d = (0, movV rows d) := by unfold doV; rw [if_neg (by simpa using h)]
theorem doV_bad {w : Int} {rows : Rw} {d : Dl} (h : ¬ placeV w rows d = 0) : doV w rows d = (placeV w rows d, rows) := by unfold doV; rw [if_pos h]
theorem place3 {w : Int} {R : Rw} {a : Int} (h0 : 0 < R.length) (h : a = (R.length : Int) - 1) : placeV w R (3, a, []) = 0 := by
  have e : placeV w R (3, a, []) = (if (R.length : Int) = 0 then 1 else if a ≠ (R.length : Int) - 1 then 1 else 0) := rfl
  rw [e, if_neg (by omega), if_neg (by omega)]
theorem place2 {w : Int} {R : Rw} {a : Int} {l : List Int} (h0 : 0 ≤ a) (h : a < (R.length : Int)) (hw : (l.length : Int) = w) : placeV w R (2, a, l) = 0 := by
  have e : placeV w R (2, a, l) = (if a < 0 then 1 else if (R.length : Int) ≤ a then 1 else if (l.length : Int) ≠ w then 3 else 0) := rfl
  rw [e, if_neg (by omega), if_neg (by omega), if_neg (by omega)]
theorem place1 {w : Int} {R : Rw} {a : Int} {l : List Int} (h : a = (R.length : Int)) (hw : (l.length : Int) = w) : placeV w R (1, a, l) = 0 := by
  have e : placeV w R (1, a, l) = (if a ≠ (R.length : Int) then 1 else if (l.length : Int) ≠ w then 3 else 0) := rfl
  rw [e, if_neg (by omega), if_neg (by omega)]
structure InV (w : Int) (n : Nat) (rows : Rw) : Prop where
  w0 : 0 ≤ w
  w1 : w ≤ 64
  len : rows.length ≤ n
  el : ∀ r ∈ rows, (r.length : Int) = w
theorem InV.doV {w : Int} {n : Nat} {rows : Rw} (h : InV w n rows) (d : Dl) : InV w (n + 1) (doV w rows d).2 := by
  obtain ⟨h0, h1, h2, h3⟩ := h
  unfold En.doV
  split
  · exact ⟨h0, h1, by simp only; omega, h3⟩
  · rename_i hp
    rw [ne_eq, Decidable.not_not] at hp
    unfold placeV at hp
    simp only [movV]
    split
    · rename_i k1
      rw [if_pos k1] at hp
      have hw : (d.2.2.length : Int) = w := by
        split at hp
        · cases hp
        · split at hp
          · cases hp
          · rename_i q; simpa using q
      refine ⟨h0, h1, by simp; omega, fun r hr => ?_⟩
      rcases List.mem_append.1 hr with hr | hr
      · exact h3 r hr
      · rw [List.mem_singleton.1 hr]; exact hw
    · rename_i k1
      rw [if_neg k1] at hp
      split
      · rename_i k2
        rw [if_pos k2] at hp
        have hw : (d.2.2.length : Int) = w := by
          split at hp
          · cases hp
          · split at hp
            · cases hp
            · split at hp
              · cases hp
              · rename_i q; simpa using q
        refine ⟨h0, h1, by simp; omega, fun r hr => ?_⟩
        rcases List.mem_or_eq_of_mem_set hr with hr | hr
        · exact h3 r hr
        · rw [hr]; exact hw
      · exact ⟨h0, h1, by simp; omega, fun r hr => h3 r (List.mem_of_mem_take hr)⟩
theorem place_is (k : Nat) (w : Int) (rows : Rw) (d : Dl) (hr : rows.length ≤ 1000000) : __delta_View__place.f k d.1 d.2.1 d.2.2 w rows = some (placeV w rows d, w, rows) := by
  obtain ⟨a, b, l⟩ := d
  have hw : wrap64 ((rows.length : Int) - 1) = (rows.length : Int) - 1 := w64' (by omega) (by omega)
  unfold __delta_View__place.f placeV
  simp only [hw]
  by_cases h1 : a = 1
  · by_cases hb : b = (rows.length : Int) <;> by_cases hl : (l.length : Int) = w <;> simp [h1, hb, hl]
  by_cases h2 : a = 2
  · by_cases hb : b < 0 <;> by_cases hc : (rows.length : Int) ≤ b <;> by_cases hl : (l.length : Int) = w <;> simp [h2, hb, hc, hl]
  by_cases h3 : a = 3
  · by_cases hb : rows = [] <;> by_cases hc : b = (rows.length : Int) - 1 <;> by_cases hl : 0 < l.length <;> simp [h3, hb, hc, hl]
  simp [h1, h2, h3]
theorem clone_is {l : List Int} (h : l.length ≤ 1000000) : x_Clone47 l = some l := by unfold x_Clone47; rw [if_pos (by omega)]
theorem placeV_ok {w : Int} {rows : Rw} {d : Dl} (h : placeV w rows d = 0) : (d.1 = 1 ∧ d.2.1 = (rows.length : Int) ∧ (d.2.2.length : Int) = w) ∨ (d.1 = 2 ∧ 0 ≤ d.2.1 ∧ d.2.1 < (rows.length : Int) ∧ (d.2.2.length : Int) = w) ∨ (d.1 = 3 ∧ 0 < rows.length ∧ d.2.1 = (rows.length : Int) - 1 ∧ d.2.2.length = 0) := by
  unfold placeV at h
  split at h
  · split at h
    · cases h
    · split at h
      · cases h
      · rename_i a b c; left; exact ⟨a, by omega, by omega⟩
  · split at h
    · split at h
      · cases h
      · split at h
        · cases h
        · split at h
          · cases h
          · right; left; rename_i _ a b c d; exact ⟨a, by omega, by omega, by omega⟩
    · split at h
      · split at h
        · cases h
        · split at h
          · cases h
          · split at h
            · cases h
            · right; right; rename_i _ _ a b c d; exact ⟨a, by omega, by omega, by omega⟩
      · cases h
theorem do_is (k : Nat) {w : Int} {n : Nat} {rows : Rw} (d : Dl) (h : InV w n rows) (hn : n ≤ 1000000) : __delta_View__Do.f k d.1 d.2.1 d.2.2 w rows = some ((doV w rows d).1, w, (doV w rows d).2) := by
  have hlen := h.len
  have h64 := h.w1
  unfold __delta_View__Do.f
  rw [place_is k w rows d (by omega), Option.bind_some]
  unfold doV
  by_cases hp : placeV w rows d = 0
  · have e1 : doV w rows d = (0, movV rows d) := by unfold doV; rw [if_neg (by simpa using hp)]
    unfold doV at e1
    rw [e1, if_neg (by simpa using hp)]
    unfold movV
    simp only
    rcases placeV_ok hp with ⟨a, b, c⟩ | ⟨a, b, c, e⟩ | ⟨a, b, c, e⟩
    · rw [if_pos (c := (d.1 == 1) = true) (by simpa using a), clone_is (by omega), Option.bind_some, if_pos (by simp <;> omega), if_pos a]
    · rw [if_neg (c := (d.1 == 1) = true) (by simp [a]), if_pos (c := (d.1 == 2) = true) (by simpa using a), clone_is (by omega), Option.bind_some, if_pos (by omega), if_neg (by omega), if_pos a]
    · rw [if_neg (c := (d.1 == 1) = true) (by simp [a]), if_neg (c := (d.1 == 2) = true) (by simp [a]), if_pos (c := (d.1 == 3) = true) (by simpa using a), if_pos (by omega), if_neg (by omega), if_neg (by omega)]
  · rw [if_pos (by simpa using hp), if_pos hp]
/-- all, one by one -/
def allV (w : Int) (rows : Rw) : List Dl → Nat × Int × Rw
  | [] => (0, 0, rows)
  | d :: l => if (doV w rows d).1 ≠ 0 then (0, (doV w rows d).1, (doV w rows d).2) else ((allV w (doV w rows d).2 l).1 + 1, (allV w (doV w rows d).2 l).2)
theorem allV_in {w : Int} : ∀ (l : List Dl) (n : Nat) (rows : Rw), InV w n rows → InV w (n + l.length) (allV w rows l).2.2
  | [], n, rows, h => h
  | d :: l, n, rows, h => by
    have h' := h.doV d
    unfold allV
    split
    · exact ⟨h'.w0, h'.w1, by have := h'.len; simp; omega, h'.el⟩
    · have := allV_in l (n + 1) _ h'
      exact ⟨this.w0, this.w1, by have := this.len; simp only [List.length_cons]; omega, this.el⟩
theorem allV_cnt {w : Int} : ∀ (l : List Dl) (rows : Rw), (allV w rows l).2.1 = 0 → (allV w rows l).1 = l.length
  | [], rows, _ => rfl
  | d :: l, rows, h => by
    unfold allV at h ⊢
    split at h
    · rename_i q; exact absurd h q
    · rename_i q
      rw [if_neg q]
      simp only [List.length_cons]
      rw [allV_cnt l _ h]
abbrev DlTy : Ty := .pair (.int .i64) (.pair (.int .i64) (.list (.int .i64)))
theorem allV_ok {w : Int} {rows : Rw} {d : Dl} {l : List Dl} (h : (doV w rows d).1 = 0) : allV w rows (d :: l) = ((allV w (doV w rows d).2 l).1 + 1, (allV w (doV w rows d).2 l).2) := by rw [allV, if_neg (by simpa using h)]
theorem allV_bad {w : Int} {rows : Rw} {d : Dl} {l : List Dl} (h : ¬ (doV w rows d).1 = 0) : allV w rows (d :: l) = (0, (doV w rows d).1, (doV w rows d).2) := by rw [allV, if_pos h]
def endV (l : List Dl) (w : Int) (i : Nat) (r : Nat × Int × Rw) : (Int × Int × Int × Rw) ⊕ (List Dl × Int × Rw) := if r.2.1 = 0 then .inr (l, w, r.2.2) else .inl (((i + r.1 : Nat) : Int), r.2.1, w, r.2.2)
theorem endV_up (l : List Dl) (w : Int) (i : Nat) (r : Nat × Int × Rw) : endV l w i (r.1 + 1, r.2) = endV l w (i + 1) r := by
  unfold endV
  simp only [show i + (r.1 + 1) = i + 1 + r.1 by omega]
theorem all_loop (k : Nat) (w : Int) (l : List Dl) (hl : l.length ≤ 1000) : ∀ (d i n : Nat) (rows : Rw), i + d = l.length → InV w i rows → d < n →
    __delta_View__All.l0 k n l l (l.length : Int) (i : Int) w rows = some (endV l w i (allV w rows (l.drop i))) := by
  intro d
  induction d with
  | zero =>
    intro i n rows hi hv hn
    obtain ⟨n, rfl⟩ : ∃ q, n = q + 1 := ⟨n - 1, by omega⟩
    rw [List.drop_eq_nil_of_le (by omega)]
    simp only [__delta_View__All.l0]
    rw [if_neg (by rw [decide_eq_true_eq]; omega)]; rfl
  | succ d ih =>
    intro i n rows hi hv hn
    obtain ⟨n, rfl⟩ : ∃ q, n = q + 1 := ⟨n - 1, by omega⟩
    rw [getD_drop l i (Ty.dflt DlTy) (by omega)]
    simp only [__delta_View__All.l0]
    rw [if_pos (by rw [decide_eq_true_eq]; omega), if_pos (by omega), rdT_nat, do_is k (l.getD i (Ty.dflt DlTy)) hv (by omega), Option.bind_some]
    simp only
    by_cases he : (doV w rows (l.getD i (Ty.dflt DlTy))).1 = 0
    · rw [if_neg (by simpa using he), allV_ok he, w64n (by omega), ih (i + 1) n _ (by omega) (hv.doV _) (by omega), endV_up]
    · rw [if_pos (by simpa using he), allV_bad he]
      unfold endV
      simp only
      rw [if_neg he]; rfl
theorem all_is {k : Nat} {w : Int} {l : List Dl} (h0 : 0 ≤ w) (h1 : w ≤ 64) (hl : l.length ≤ 1000) (hk : l.length < k) : __delta_View__All.f k l w [] = some (((allV w [] l).1 : Int), (allV w [] l).2.1, w, (allV w [] l).2.2) := by
  unfold __delta_View__All.f
  rw [show (0 : Int) = ((0 : Nat) : Int) from rfl, all_loop k w l hl l.length 0 k [] (by omega) ⟨h0, h1, by simp, by simp⟩ hk, List.drop_zero, Option.bind_some]
  have hc := allV_cnt l [] (w := w)
  generalize allV w [] l = r at hc
  obtain ⟨c, e, R⟩ := r
  unfold endV
  by_cases he : e = 0
  · have := hc he
    simp only at this
    rw [if_pos he]
    simp only [he, this]; rfl
  · rw [if_neg he]
    simp only [Nat.zero_add]
theorem rows_loop (k : Nat) {w : Int} {m : Nat} (rows : Rw) (hv : InV w m rows) (hm : m ≤ 100000) : ∀ (d i n : Nat) (out : Rw), i + d = rows.length → out.length ≤ i → d < n →
    __delta_View__Rows.l0 k n out (rows.length : Int) (i : Int) w rows = some (out ++ rows.drop i, w, rows) := by
  have hlen := hv.len
  have h64 := hv.w1
  intro d
  induction d with
  | zero =>
    intro i n out hi ho hn
    obtain ⟨n, rfl⟩ : ∃ q, n = q + 1 := ⟨n - 1, by omega⟩
    rw [List.drop_eq_nil_of_le (by omega), List.append_nil]
    simp only [__delta_View__Rows.l0]
    rw [if_neg (by rw [decide_eq_true_eq]; omega)]
  | succ d ih =>
    intro i n out hi ho hn
    obtain ⟨n, rfl⟩ : ∃ q, n = q + 1 := ⟨n - 1, by omega⟩
    have hlt : i < rows.length := by omega
    have hmem : rows.getD i (Ty.dflt (.list (.int .i64))) ∈ rows := by rw [List.getD_eq_getElem?_getD, List.getElem?_eq_getElem hlt]; exact List.getElem_mem hlt
    have hw := hv.el _ hmem
    rw [getD_drop rows i (Ty.dflt (.list (.int .i64))) hlt]
    simp only [__delta_View__Rows.l0, Int.toNat_natCast]
    rw [if_pos (by rw [decide_eq_true_eq]; omega), if_pos (by omega), clone_is (by omega), Option.bind_some, if_pos (by simp <;> omega), w64n (by omega), ih (i + 1) n _ (by omega) (by simp; omega) (by omega)]
    simp
theorem rows_is {k : Nat} {w : Int} {m : Nat} {rows : Rw} (hv : InV w m rows) (hm : m ≤ 100000) (hk : m < k) : __delta_View__Rows.f k w rows = some (rows, w, rows) := by
  have hlen := hv.len
  unfold __delta_View__Rows.f __delta_View__Len.f
  rw [Option.bind_some]
  simp only
  rw [show (0 : Int) = ((0 : Nat) : Int) from rfl, rows_loop k rows hv hm rows.length 0 k [] (by omega) (by simp) (by omega), Option.bind_some]
  simp
theorem same28_loop (k : Nat) (a b : Rw) (hl : a.length ≤ 1000000) (hab : a.length = b.length) (m : Nat) (hm : m ≤ 1000000) (hk : m < k) (ha : ∀ r ∈ a, r.length ≤ m) (hb : ∀ r ∈ b, r.length ≤ m) : ∀ (d i n : Nat), i + d = a.length → d < n →
    ref28_Same.l0 k n a b (i : Int) = some (if a.drop i = b.drop i then .inr () else .inl false) := by
  intro d
  induction d with
  | zero =>
    intro i n hi hn
    obtain ⟨n, rfl⟩ : ∃ q, n = q + 1 := ⟨n - 1, by omega⟩
    simp only [ref28_Same.l0]
    rw [if_neg (by rw [decide_eq_true_eq]; omega), List.drop_eq_nil_of_le (by omega), List.drop_eq_nil_of_le (by omega), if_pos rfl]
  | succ d ih =>
    intro i n hi hn
    obtain ⟨n, rfl⟩ : ∃ q, n = q + 1 := ⟨n - 1, by omega⟩
    have hmem : ∀ (l : Rw) (hlt : i < l.length), l.getD i (Ty.dflt (.list (.int .i64))) ∈ l := fun l hlt => by rw [List.getD_eq_getElem?_getD, List.getElem?_eq_getElem hlt]; exact List.getElem_mem hlt
    have h1 := ha _ (hmem a (by omega))
    have h2 := hb _ (hmem b (by omega))
    simp only [ref28_Same.l0]
    rw [if_pos (by rw [decide_eq_true_eq]; omega), if_pos (by omega), if_pos (by omega), rdT_nat, rdT_nat, nums3_is (by omega) (by omega) (by omega), Option.bind_some, getD_drop a i (Ty.dflt (.list (.int .i64))) (by omega), getD_drop b i (Ty.dflt (.list (.int .i64))) (by omega)]
    by_cases he : a.getD i (Ty.dflt (.list (.int .i64))) = b.getD i (Ty.dflt (.list (.int .i64)))
    · rw [decide_eq_true he, if_neg (by decide), w64n (by omega), ih (i + 1) n (by omega) (by omega), he]
      simp
    · rw [decide_eq_false he, if_pos (by decide)]
      rw [if_neg (by intro e; exact he (List.cons.inj e).1)]
theorem same28_is {k : Nat} {a b : Rw} (hl : a.length ≤ 1000000) (m : Nat) (hm : m ≤ 1000000) (hk : m < k) (hk2 : a.length < k) (ha : ∀ r ∈ a, r.length ≤ m) (hb : ∀ r ∈ b, r.length ≤ m) : ref28_Same.f k a b = some (decide (a = b)) := by
  unfold ref28_Same.f
  by_cases h : a.length = b.length
  · rw [if_neg (by simp [h]), show (0 : Int) = ((0 : Nat) : Int) from rfl, same28_loop k a b hl h m hm hk ha hb a.length 0 k (by omega) hk2, List.drop_zero, List.drop_zero]
    by_cases e : a = b
    · rw [if_pos e, Option.bind_some, decide_eq_true e]
    · rw [if_neg e, Option.bind_some, decide_eq_false e]
  · rw [if_pos (by simp; omega), decide_eq_false (by intro e; rw [e] at h; exact h rfl)]
theorem same28_self {k : Nat} {w : Int} {m : Nat} {a : Rw} (hv : InV w m a) (hm : m ≤ 100000) (hk : m < k) (hk2 : 64 < k) : ref28_Same.f k a a = some true := by
  have hlen := hv.len
  have h64 := hv.w1
  have hel : ∀ r ∈ a, r.length ≤ 64 := fun r hr => by have := hv.el r hr; omega
  rw [same28_is (by omega) 64 (by omega) hk2 (by omega) hel hel, decide_eq_true rfl]
theorem great_loop (k : Nat) (l : List Dl) : ∀ (d i n : Nat), i + d = 60 → d < n → ∃ r, law32_Great.l0 k n l (i : Int) = some r ∧ (r = .inl true ∨ r = .inr l) := by
  intro d
  induction d with
  | zero =>
    intro i n hi hn
    obtain ⟨n, rfl⟩ : ∃ q, n = q + 1 := ⟨n - 1, by omega⟩
    simp only [law32_Great.l0]
    split
    · rw [if_neg (by rw [decide_eq_true_eq]; omega)]; exact ⟨_, rfl, .inr rfl⟩
    · exact ⟨_, rfl, .inr rfl⟩
  | succ d ih =>
    intro i n hi hn
    obtain ⟨n, rfl⟩ : ∃ q, n = q + 1 := ⟨n - 1, by omega⟩
    simp only [law32_Great.l0]
    by_cases h : i < l.length
    · rw [if_pos (by rw [decide_eq_true_eq]; omega), if_pos (by rw [decide_eq_true_eq]; omega), if_pos (by omega)]
      split
      · exact ⟨_, rfl, .inl rfl⟩
      · rw [w64n (by omega)]; exact ih (i + 1) n (by omega) (by omega)
    · rw [if_neg (by rw [decide_eq_true_eq]; omega)]; exact ⟨_, rfl, .inr rfl⟩
theorem great_is {k : Nat} (l : List Dl) (hk : 60 < k) : ∃ b, law32_Great.f k l = some b ∧ (b = false → l.length ≤ 60) := by
  obtain ⟨r, h1, h2⟩ := great_loop k l 60 0 k (by omega) hk
  unfold law32_Great.f
  rw [show (0 : Int) = ((0 : Nat) : Int) from rfl, h1, Option.bind_some]
  rcases h2 with rfl | rfl
  · exact ⟨_, rfl, by simp⟩
  · exact ⟨_, rfl, by simp; omega⟩
theorem new_is (k : Nat) (w : Int) : delta_New.f k w = some (if 0 ≤ w ∧ w ≤ 64 then .inr (0, w, []) else .inl 1) := by
  unfold delta_New.f
  by_cases h0 : w < 0
  · rw [if_pos (by simpa using h0), if_neg (by omega)]
  rw [if_neg (by simpa using h0)]
  by_cases h1 : 64 < w
  · rw [if_pos (by simpa using h1), if_neg (by omega)]
  rw [if_neg (by simpa using h1), if_pos (by omega)]
theorem deltaUndone_law (w : Int) (l : List Dl) (d : Dl) : ∃ k, law32_DeltaUndone.f k w l d = some true := by
  refine ⟨20000, ?_⟩
  obtain ⟨k, hk⟩ : ∃ k, k = 20000 := ⟨_, rfl⟩
  rw [← hk]
  have hlv := lives32 (k := k) (by omega)
  unfold law32_DeltaUndone.f
  rw [new_is, Option.bind_some]
  by_cases hw : ¬ (0 ≤ w ∧ w ≤ 64)
  · rw [if_neg hw]
    simp only
    rw [if_pos (by decide), hlv, Option.bind_some]
  rw [Decidable.not_not] at hw
  rw [if_pos hw]
  simp only
  rw [if_neg (by decide)]
  obtain ⟨b, hg1, hg2⟩ := great_is l (k := k) (by omega)
  rw [hg1, Option.bind_some]
  cases b with
  | true => rw [if_pos rfl, hlv, Option.bind_some]
  | false =>
    have hl := hg2 rfl
    rw [if_neg (by decide)]
    by_cases h100 : 100 < d.2.2.length
    · rw [if_pos (by rw [decide_eq_true_eq]; omega), hlv, Option.bind_some]
    rw [if_neg (by rw [decide_eq_true_eq]; omega), all_is hw.1 hw.2 (by omega) (by omega), Option.bind_some]
    have hv := allV_in l 0 [] (w := w) ⟨hw.1, hw.2, by simp, by simp⟩
    generalize (allV w [] l).2.2 = R at hv
    have hRl := hv.len
    simp only
    rw [rows_is hv (by omega) (by omega), Option.bind_some]
    simp only
    rw [do_is k d hv (by omega), Option.bind_some]
    have hv' := hv.doV d
    by_cases hp : placeV w R d = 0
    · rw [doV_ok hp] at hv' ⊢
      simp only at hv' ⊢
      rw [if_neg (by decide)]
      have fin : ∀ (a b : Int) (c : List Int), placeV w (movV R d) (a, b, c) = 0 → movV (movV R d) (a, b, c) = R → ((__delta_View__Do.f k a b c w (movV R d)).bind fun y31 =>
          if (y31.1 == (0 : Int)) = true then
            (__delta_View__Rows.f k y31.2.1 y31.2.2).bind fun y32 =>
            (ref28_Same.f k y32.1 R).bind fun y33 =>
            if y33 = true then
              (law32_lives.f k).bind fun y34 =>
              some y34
            else
            some false
          else
          some false) = some true := by
        intro a b c h1 h2
        have := do_is k (a, b, c) hv' (by omega)
        simp only at this
        rw [this, Option.bind_some, doV_ok h1]
        simp only
        rw [if_pos (by decide), h2]
        rw [rows_is hv (by omega) (by omega), Option.bind_some]
        simp only
        rw [same28_self hv (by omega) (by omega) (by omega), Option.bind_some, if_pos rfl, hlv, Option.bind_some]
      rcases placeV_ok hp with ⟨a, b, c⟩ | ⟨a, b, c, e⟩ | ⟨a, b, c, e⟩
      · rw [if_neg (by simpa using a)]
        unfold law32_DeltaUndone.j0
        rw [if_neg (by simp [a]), if_neg (by simp [a]), Option.bind_some]
        have hm : movV R d = R ++ [d.2.2] := by unfold movV; rw [if_pos a]
        refine fin 3 d.2.1 [] ?_ ?_
        · rw [hm]; exact place3 (by simp) (by simp; omega)
        · rw [hm]
          have e : movV (R ++ [d.2.2]) (3, d.2.1, []) = (R ++ [d.2.2]).take d.2.1.toNat := rfl
          rw [e, b]
          simp
      · rw [if_pos (by simp [a]), if_neg (by rw [decide_eq_true_eq]; omega), if_neg (by rw [decide_eq_true_eq]; omega)]
        unfold law32_DeltaUndone.j0
        rw [if_pos (by simp [a]), if_pos (by omega), Option.bind_some]
        have hlt : d.2.1.toNat < R.length := by omega
        have hr : rdT (.list (.int .i64)) R d.2.1 = R[d.2.1.toNat] := by
          unfold rdT; rw [List.getD_eq_getElem?_getD, List.getElem?_eq_getElem hlt]; rfl
        rw [hr]
        have hm : movV R d = R.set d.2.1.toNat d.2.2 := by unfold movV; rw [if_neg (by omega), if_pos a]
        refine fin 2 d.2.1 R[d.2.1.toNat] ?_ ?_
        · rw [hm]
          exact place2 b (by rw [List.length_set]; exact c) (hv.el _ (List.getElem_mem hlt))
        · rw [hm]
          have e : movV (R.set d.2.1.toNat d.2.2) (2, d.2.1, R[d.2.1.toNat]) = (R.set d.2.1.toNat d.2.2).set d.2.1.toNat R[d.2.1.toNat] := rfl
          rw [e]
          simp
      · rw [if_pos (by simp [a]), if_neg (by rw [decide_eq_true_eq]; omega), if_neg (by rw [decide_eq_true_eq]; omega)]
        unfold law32_DeltaUndone.j0
        rw [if_neg (by simp [a]), if_pos (by simp [a]), if_pos (by omega), Option.bind_some]
        have hlt : d.2.1.toNat < R.length := by omega
        have hr : rdT (.list (.int .i64)) R d.2.1 = R[d.2.1.toNat] := by
          unfold rdT; rw [List.getD_eq_getElem?_getD, List.getElem?_eq_getElem hlt]; rfl
        rw [hr]
        have hm : movV R d = R.take d.2.1.toNat := by unfold movV; rw [if_neg (by omega), if_neg (by omega)]
        refine fin 1 d.2.1 R[d.2.1.toNat] ?_ ?_
        · rw [hm]
          exact place1 (by rw [List.length_take]; omega) (hv.el _ (List.getElem_mem hlt))
        · rw [hm]
          have e : movV (R.take d.2.1.toNat) (1, d.2.1, R[d.2.1.toNat]) = R.take d.2.1.toNat ++ [R[d.2.1.toNat]] := rfl
          rw [e, List.take_append_getElem hlt, List.take_of_length_le (by omega)]
    · rw [doV_bad hp] at hv' ⊢
      simp only at hv' ⊢
      rw [if_pos (by simpa using hp), rows_is hv (by omega) (by omega), Option.bind_some]
      simp only
      rw [same28_self hv (by omega) (by omega) (by omega), Option.bind_some, if_pos rfl, hlv, Option.bind_some]
theorem deltaUndone_wf (w : Ty.T (.int .i64)) (l : Ty.T (.list DlTy)) (d : Ty.T DlTy) (h : Wfd (.int .i64) w) (h1 : Wfd (.list DlTy) l) (h2 : Wfd DlTy d) : ∃ k, law32_DeltaUndone.f k w l d = some true := deltaUndone_law w l d
theorem fold_is (k : Nat) (w : Int) (R : Rw) (d : Dl) (hk : 2 < k) (hR : R.length ≤ 1000) : ∃ r b, ref16_Fold.f k R [d] = some (r, b) ∧
    (b = true → (d.1 = 1 ∧ d.2.1 = (R.length : Int) ∨ d.1 = 2 ∧ 0 ≤ d.2.1 ∧ d.2.1 < (R.length : Int) ∨ d.1 = 3 ∧ 0 < R.length ∧ d.2.1 = (R.length : Int) - 1 ∧ d.2.2.length = 0) ∧ r = movV R d) ∧
    (b = false → ¬ (d.1 = 1 ∧ d.2.1 = (R.length : Int) ∨ d.1 = 2 ∧ 0 ≤ d.2.1 ∧ d.2.1 < (R.length : Int) ∨ d.1 = 3 ∧ 0 < R.length ∧ d.2.1 = (R.length : Int) - 1 ∧ d.2.2.length = 0)) := by
  obtain ⟨k, rfl⟩ : ∃ q, k = q + 2 := ⟨k - 2, by omega⟩
  have hw : wrap64 ((R.length : Int) - 1) = (R.length : Int) - 1 := w64' (by omega) (by omega)
  have r0 : rdT DlTy [d] (0 : Int) = d := rfl
  have w1 : wrap64 ((0 : Int) + 1) = 1 := w64' (by decide) (by decide)
  unfold ref16_Fold.f
  rw [if_pos (by simp; omega)]
  simp only [ref16_Fold.l0, r0, w1, List.nil_append, hw]
  rw [if_pos (by simp), if_pos (by simp)]
  have e : decide ((1 : Int) < (([d] : List Dl).length : Int)) = false := rfl
  simp only [e, Bool.false_eq_true, if_false]
  by_cases h1 : d.1 = 1
  · rw [if_pos (c := (d.1 == 1) = true) (by simpa using h1)]
    by_cases hb : d.2.1 = (R.length : Int)
    · rw [if_neg (by simpa using hb), if_pos (by simp; omega)]
      exact ⟨_, _, rfl, fun _ => ⟨.inl ⟨h1, hb⟩, by unfold movV; rw [if_pos h1]⟩, by simp⟩
    · rw [if_pos (by simpa using hb)]
      exact ⟨_, _, rfl, by simp, fun _ => by omega⟩
  rw [if_neg (c := (d.1 == 1) = true) (by simpa using h1)]
  by_cases h2 : d.1 = 2
  · rw [if_pos (c := (d.1 == 2) = true) (by simpa using h2)]
    by_cases hb : d.2.1 < 0
    · rw [if_pos (by simpa using hb)]
      exact ⟨_, _, rfl, by simp, fun _ => by omega⟩
    rw [if_neg (by simpa using hb)]
    by_cases hc : (R.length : Int) ≤ d.2.1
    · rw [if_pos (by simpa using hc)]
      exact ⟨_, _, rfl, by simp, fun _ => by omega⟩
    rw [if_neg (by simpa using hc)]
    rw [if_pos (show 0 ≤ d.2.1 ∧ d.2.1 < (R.length : Int) by omega)]
    exact ⟨_, _, rfl, fun _ => ⟨.inr (.inl ⟨h2, by omega, by omega⟩), by unfold movV; rw [if_neg h1, if_pos h2]⟩, by simp⟩
  rw [if_neg (c := (d.1 == 2) = true) (by simpa using h2)]
  by_cases h3 : d.1 = 3
  · rw [if_pos (c := (d.1 == 3) = true) (by simpa using h3)]
    by_cases hb : d.2.1 < 0
    · rw [if_pos (by simpa using hb)]
      exact ⟨_, _, rfl, by simp, fun _ => by omega⟩
    rw [if_neg (by simpa using hb)]
    by_cases hc : d.2.1 = (R.length : Int) - 1
    · rw [if_neg (by simpa using hc)]
      by_cases hl : 0 < d.2.2.length
      · rw [if_pos (by rw [decide_eq_true_eq]; omega)]
        exact ⟨_, _, rfl, by simp, fun _ => by omega⟩
      · rw [if_neg (by rw [decide_eq_true_eq]; omega), if_pos (show 0 ≤ d.2.1 ∧ d.2.1 ≤ (R.length : Int) by omega), if_pos (by simp; omega)]
        exact ⟨_, _, rfl, fun _ => ⟨.inr (.inr ⟨h3, by omega, hc, by omega⟩), by unfold movV; rw [if_neg h1, if_neg h2]⟩, by simp⟩
    · rw [if_pos (by simpa using hc)]
      exact ⟨_, _, rfl, by simp, fun _ => by omega⟩
  rw [if_neg (c := (d.1 == 3) = true) (by simpa using h3)]
  exact ⟨_, _, rfl, by simp, fun _ => by omega⟩
theorem refDo_is (k : Nat) {w : Int} {R : Rw} (d : Dl) (hk : 2 < k) (hR : R.length ≤ 1000) : ref32_Do.f k R w (d.1, d.2.1, d.2.2) = some ((doV w R d).2, (doV w R d).1) := by
  unfold ref32_Do.f
  simp only [Prod.eta]
  have plo : d.1 < 1 ∨ 3 < d.1 → doV w R d = (22, R) := fun h => by
    have e : placeV w R d = 22 := by unfold placeV; rw [if_neg (by omega), if_neg (by omega), if_neg (by omega)]
    rw [doV_bad (by rw [e]; decide), e]
  by_cases hlo : d.1 < 1
  · rw [if_pos (by simpa using hlo), plo (.inl hlo)]
  rw [if_neg (by simpa using hlo)]
  by_cases hhi : 3 < d.1
  · rw [if_pos (by simpa using hhi), plo (.inr hhi)]
  rw [if_neg (by simpa using hhi)]
  obtain ⟨r, b, h1, h2, h3⟩ := fold_is k w R d hk hR
  rw [h1, Option.bind_some]
  simp only
  cases b with
  | false =>
    have h3 := h3 rfl
    have e : placeV w R d = 1 := by
      unfold placeV
      split
      · rw [if_pos (by omega)]
      · split
        · by_cases q : d.2.1 < 0
          · rw [if_pos q]
          · rw [if_neg q, if_pos (by omega)]
        · rw [if_pos (by omega)]
          by_cases q : (R.length : Int) = 0
          · rw [if_pos q]
          · rw [if_neg q]
            by_cases q' : d.2.1 = (R.length : Int) - 1
            · rw [if_neg (by omega), if_pos (by omega)]
            · rw [if_pos q']
    rw [if_pos (by rfl), doV_bad (by rw [e]; decide), e]
  | true =>
    obtain ⟨h2, rfl⟩ := h2 rfl
    rw [if_neg (by decide)]
    by_cases h33 : d.1 < 3
    · rw [if_pos (by simpa using h33)]
      by_cases hl : (d.2.2.length : Int) = w
      · have e : placeV w R d = 0 := by
          unfold placeV
          split
          · rw [if_neg (by omega), if_neg (by omega)]
          · rw [if_pos (by omega), if_neg (by omega), if_neg (by omega), if_neg (by omega)]
        rw [if_neg (by simpa using hl), doV_ok e]
      · have e : placeV w R d = 3 := by
          unfold placeV
          split
          · rw [if_neg (by omega)]
          · rw [if_pos (by omega), if_neg (by omega), if_neg (by omega)]
        rw [if_pos (by simpa using hl), doV_bad (by rw [e]; decide), e]
    · have e : placeV w R d = 0 := by
        unfold placeV
        rw [if_neg (by omega), if_neg (by omega), if_pos (by omega), if_neg (by omega), if_neg (by omega), if_neg (by omega)]
      rw [if_neg (by simpa using h33), doV_ok e]
theorem doV_same {w : Int} {R : Rw} {d : Dl} (h : ¬ (doV w R d).1 = 0) : (doV w R d).2 = R := by
  by_cases hp : placeV w R d = 0
  · rw [doV_ok hp] at h; exact absurd rfl h
  · rw [doV_bad hp]
/-- what the law keeps while it goes through the deltas -/
def keepV (w : Int) (l : List Dl) (i : Nat) (R first : Rw) (bad why : Int) : Prop :=
  (bad = -1 ∧ why = 0 ∧ allV w [] l = (i + (allV w R (l.drop i)).1, (allV w R (l.drop i)).2)) ∨ (0 ≤ bad ∧ ∃ c : Nat, bad = (c : Int) ∧ allV w [] l = (c, why, first))
theorem views_loop (k : Nat) (hk : 1000 < k) (w : Int) (l : List Dl) (hl : l.length ≤ 60) : ∀ (d i n : Nat) (R first : Rw) (bad why : Int), i + d = l.length → InV w i R → keepV w l i R first bad why → d < n →
    ∃ R' first' bad' why', law32_DeltaViews.l0 k n w l R first bad why l (l.length : Int) (i : Int) w w R [] = some (.inr (l, R', first', bad', why', w, [])) ∧ keepV w l l.length R' first' bad' why' ∧ InV w l.length R' := by
  intro d
  induction d with
  | zero =>
    intro i n R first bad why hi hv hp hn
    obtain ⟨n, rfl⟩ : ∃ q, n = q + 1 := ⟨n - 1, by omega⟩
    simp only [law32_DeltaViews.l0]
    rw [if_neg (by rw [decide_eq_true_eq]; omega)]
    rw [show i = l.length by omega] at hp hv
    exact ⟨R, first, bad, why, rfl, hp, hv⟩
  | succ d ih =>
    intro i n R first bad why hi hv hp hn
    obtain ⟨n, rfl⟩ : ∃ q, n = q + 1 := ⟨n - 1, by omega⟩
    have hRl := hv.len
    have hv' := hv.doV (l.getD i (Ty.dflt DlTy))
    have hRl' := hv'.len
    simp only [law32_DeltaViews.l0]
    rw [if_pos (by rw [decide_eq_true_eq]; omega), if_pos (by omega), rdT_nat, refDo_is k (l.getD i (Ty.dflt DlTy)) (by omega) (by omega), Option.bind_some, do_is k (l.getD i (Ty.dflt DlTy)) hv (by omega), Option.bind_some]
    simp only
    rw [if_neg (by simp), rows_is hv' (by omega) (by omega), Option.bind_some]
    simp only
    rw [same28_self hv' (by omega) (by omega) (by omega), Option.bind_some, if_neg (by decide)]
    unfold __delta_View__Len.f
    rw [Option.bind_some]
    simp only
    rw [if_neg (by simp), w64n (by omega)]
    unfold keepV at hp
    rw [getD_drop l i (Ty.dflt DlTy) (by omega)] at hp
    generalize l.getD i (Ty.dflt DlTy) = x at hp hv'
    by_cases he : (doV w R x).1 = 0
    · rw [if_neg (by simpa using he)]
      refine ih (i + 1) n _ first bad why (by omega) hv' ?_ (by omega)
      rcases hp with ⟨a, b, c⟩ | hp
      · rw [allV_ok he] at c
        exact .inl ⟨a, b, by rw [c]; simp only [show i + ((allV w (doV w R x).2 (l.drop (i + 1))).1 + 1) = i + 1 + (allV w (doV w R x).2 (l.drop (i + 1))).1 by omega]⟩
      · exact .inr hp
    · rw [if_pos (by simpa using he)]
      rcases hp with ⟨a, b, c⟩ | hp
      · rw [if_pos (by rw [decide_eq_true_eq]; omega)]
        refine ih (i + 1) n _ R (i : Int) _ (by omega) hv' (.inr ⟨by omega, i, rfl, ?_⟩) (by omega)
        rw [c, allV_bad he, doV_same he]; rfl
      · rw [if_neg (by rw [decide_eq_true_eq]; have := hp.1; omega)]
        exact ih (i + 1) n _ first bad why (by omega) hv' (.inr hp) (by omega)
theorem nilRows {k : Nat} (hk : 0 < k) : __delta_View__Rows_1.g k = some [] := by
  rw [__delta_View__Rows_1.g_eq]
  obtain ⟨k, rfl⟩ : ∃ q, k = q + 1 := ⟨k - 1, by omega⟩
  unfold __delta_View__Rows_1.f
  rw [__delta_View__Len_1.g_eq]
  rfl
theorem deltaViews_law (w : Int) (l : List Dl) : ∃ k, law32_DeltaViews.f k w l = some true := by
  refine ⟨20000, ?_⟩
  obtain ⟨k, hk⟩ : ∃ k, k = 20000 := ⟨_, rfl⟩
  rw [← hk]
  have hlv := lives32 (k := k) (by omega)
  unfold law32_DeltaViews.f
  rw [__delta_View__All_1.g_eq, __delta_View__Do_1.g_eq, nilRows (by omega), __delta_View__Len_1.g_eq]
  unfold __delta_View__All_1.f __delta_View__Do_1.f __delta_View__Len_1.f
  simp only [Option.bind_some]
  rw [if_neg (by decide), if_neg (by decide), if_neg (by decide), if_neg (by rw [w64' (by decide) (by decide)]; decide), new_is, Option.bind_some]
  by_cases hw : ¬ (0 ≤ w ∧ w ≤ 64)
  · rw [if_neg hw]
    simp only [Option.bind_some]
    by_cases h0 : w < 0
    · rw [if_pos (by simpa using h0), if_pos (by decide), hlv, Option.bind_some]
    · rw [if_neg (by simpa using h0), if_pos (by rw [decide_eq_true_eq]; omega), if_pos (by decide), hlv, Option.bind_some]
  rw [Decidable.not_not] at hw
  rw [if_pos hw]
  simp only [Option.bind_some]
  rw [if_neg (by rw [decide_eq_true_eq]; omega), if_neg (by rw [decide_eq_true_eq]; omega), if_neg (by decide)]
  obtain ⟨b, hg1, hg2⟩ := great_is l (k := k) (by omega)
  rw [hg1, Option.bind_some]
  cases b with
  | true => rw [if_pos rfl, hlv, Option.bind_some]
  | false =>
    have hl := hg2 rfl
    rw [if_neg (by decide)]
    obtain ⟨R, first, bad, why, h1, h2, h3⟩ := views_loop k (by omega) w l hl l.length 0 k [] [] (-1) 0 (by omega) ⟨hw.1, hw.2, by simp, by simp⟩ (.inl ⟨rfl, rfl, by simp⟩) (by omega)
    rw [show ((0 : Nat) : Int) = (0 : Int) from rfl] at h1
    rw [h1, Option.bind_some]
    simp only
    have hin := allV_in l 0 [] (w := w) ⟨hw.1, hw.2, by simp, by simp⟩
    have fin : ∀ (rows : Rw) (c : Int), ((allV w [] l).1 : Int) = c → (allV w [] l).2.1 = why → (allV w [] l).2.2 = rows →
        ((__delta_View__All.f k l w []).bind fun y47 =>
        if (y47.1 == c) = true then
          if (y47.2.1 == why) = true then
            (__delta_View__Rows.f k y47.2.2.1 y47.2.2.2).bind fun y48 =>
            (ref28_Same.f k y48.1 rows).bind fun y49 =>
            if y49 = true then
              (law32_lives.f k).bind fun y50 =>
              some y50
            else
            some false
          else
          some false
        else
        some false) = some true := by
      rintro rows c rfl rfl rfl
      have hRl := hin.len
      rw [all_is hw.1 hw.2 (by omega) (by omega), Option.bind_some]
      simp only
      rw [if_pos (by simp), if_pos (by simp), rows_is hin (by omega) (by omega), Option.bind_some]
      simp only
      rw [same28_self hin (by omega) (by omega) (by omega), Option.bind_some, if_pos rfl, hlv, Option.bind_some]
    unfold law32_DeltaViews.j1
    rcases h2 with ⟨a, b, c⟩ | ⟨a, c, b, e⟩
    · rw [if_pos (by rw [decide_eq_true_eq]; omega), Option.bind_some]
      rw [List.drop_eq_nil_of_le (by omega)] at c
      exact fin R _ (by rw [c]; rfl) (by rw [c, b]; rfl) (by rw [c]; rfl)
    · rw [if_neg (by rw [decide_eq_true_eq]; omega), Option.bind_some]
      exact fin first _ (by rw [e, b]) (by rw [e]) (by rw [e])
theorem deltaViews_wf (w : Ty.T (.int .i64)) (l : Ty.T (.list DlTy)) (h : Wfd (.int .i64) w) (h1 : Wfd (.list DlTy) l) : ∃ k, law32_DeltaViews.f k w l = some true := deltaViews_law w l
end Go.Proofs.YtpmnhbjbkoackaaDoor.En
