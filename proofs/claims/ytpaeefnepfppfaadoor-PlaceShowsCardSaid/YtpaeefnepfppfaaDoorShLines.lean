/- Lines and places of a text, for PlaceShows: no Go and no memory. -/
import Derived.Test.YtpaeefnepfppfaaDoorXs1
import Derived.Test.YtpaeefnepfppfaaDoorXs2
import Derived.Test.YtpaeefnepfppfaaDoorXs3
import Derived.Test.YtpaeefnepfppfaaDoorXs4
namespace Go.Proofs.YtpaeefnepfppfaaDoor.Xs
open Go Go.RowKit Go.Proofs.YtpaeefnepfppfaaDoorW.PrintWords Go.Proofs.YtpaeefnepfppfaaDoorW.PrintLast Go.Proofs.YtpaeefnepfppfaaDoorW.PrintMore
set_option linter.unusedVariables false
set_option linter.unusedSimpArgs false
theorem w64 {x : Int} (h0 : -9223372036854775808 ≤ x) (h1 : x < 9223372036854775808) : wrap64 x = x := by unfold wrap64; omega
/-- line and sign of the byte n -/
def posA (s : ByteArray) : Nat → Int × Int
  | 0 => (1, 1)
  | n + 1 => if bt s n = 10 then ((posA s n).1 + 1, 1) else if bt s n < 128 ∨ bt s n > 191 then ((posA s n).1, (posA s n).2 + 1) else posA s n
theorem posA_succ (s : ByteArray) (n : Nat) : posA s (n + 1) = if bt s n = 10 then ((posA s n).1 + 1, 1) else if bt s n < 128 ∨ bt s n > 191 then ((posA s n).1, (posA s n).2 + 1) else posA s n := rfl
theorem posA_bd (s : ByteArray) : ∀ n : Nat, 1 ≤ (posA s n).1 ∧ (posA s n).1 ≤ n + 1 ∧ 1 ≤ (posA s n).2 ∧ (posA s n).2 ≤ n + 1
  | 0 => by simp [posA]
  | n + 1 => by
    have := posA_bd s n
    rw [posA_succ]
    split
    · simp only [Int.natCast_add]; omega
    · split
      · simp only [Int.natCast_add]; omega
      · simp only [Int.natCast_add]; omega
/-- a later byte stands later, or at the same sign -/
theorem posA_le (s : ByteArray) (n : Nat) : ∀ d, (posA s n).1 < (posA s (n + d)).1 ∨ (posA s n).1 = (posA s (n + d)).1 ∧ (posA s n).2 ≤ (posA s (n + d)).2
  | 0 => by right; simp
  | d + 1 => by
    have := posA_le s n d
    rw [← Nat.add_assoc, posA_succ]
    split
    · simp only; omega
    · split
      · simp only; omega
      · exact this
theorem posA_mono (s : ByteArray) {n m : Nat} (h : n ≤ m) : (posA s n).1 < (posA s m).1 ∨ (posA s n).1 = (posA s m).1 ∧ (posA s n).2 ≤ (posA s m).2 := by
  obtain ⟨d, rfl⟩ := Nat.exists_eq_add_of_le h
  exact posA_le s n d
/-- bytes between two places of one sign begin none -/
theorem posA_same (s : ByteArray) {n m : Nat} (h : posA s n = posA s m) (j : Nat) (h1 : n ≤ j) (h2 : j < m) : ¬ bt s j < 128 ∧ ¬ bt s j > 191 := by
  have a := posA_mono s h1
  have b := posA_mono s (show j + 1 ≤ m from h2)
  have c := posA_succ s j
  rw [h] at a
  by_cases h10 : bt s j = 10
  · rw [if_pos h10] at c; rw [c] at b; simp only at b; omega
  · rw [if_neg h10] at c
    by_cases h11 : bt s j < 128 ∨ bt s j > 191
    · rw [if_pos h11] at c; rw [c] at b; simp only at b; omega
    · omega

/-! the document's count -/
theorem ref_of_loop (s : ByteArray) (hs : s.size ≤ 140737488351232) (at_ : Int) (n : Nat) (hn : n ≤ s.size) (hat : (n : Int) ≤ at_ ∨ n = 0) (hend : n = s.size ∨ at_ ≤ n) : ∀ (d i : Nat), i + d = n →
    Ev (fun k => riffleref39_Of.l0 k s at_ (posA s i).1 (posA s i).2 (i : Int)) (posA s n) := by
  intro d
  induction d with
  | zero =>
    intro i hi
    obtain rfl : i = n := by omega
    have e : ∀ k, riffleref39_Of.l0 (k + 1) s at_ (posA s i).1 (posA s i).2 (i : Int) = riffleref39_Of.j1 k s at_ (posA s i).1 (posA s i).2 (i : Int) false := fun k => by
      simp only [riffleref39_Of.l0]
      by_cases h : (i : Int) < at_
      · rw [if_pos h, decide_eq_false (by omega)]
      · rw [if_neg h]
    refine Ev.step e (Ev.step (f := fun _ => some (posA s i)) (fun k => ?_) (Ev.now _))
    simp only [riffleref39_Of.j1]
    rw [if_neg (by simp)]
  | succ d ih =>
    intro i hi
    have hlt : i < s.size := by omega
    have hat' : (i : Int) < at_ := by omega
    have e : ∀ k, riffleref39_Of.l0 (k + 1) s at_ (posA s i).1 (posA s i).2 (i : Int) = riffleref39_Of.j1 k s at_ (posA s i).1 (posA s i).2 (i : Int) true := fun k => by
      simp only [riffleref39_Of.l0]
      rw [if_pos hat', decide_eq_true (by omega)]
    have bd := posA_bd s i
    have w1 : wrap64 ((i : Int) + 1) = ((i + 1 : Nat) : Int) := by rw [w64 (by omega) (by omega)]; rfl
    have ihi := ih (i + 1) (by omega)
    refine Ev.step e (Ev.step (f := fun k => riffleref39_Of.l0 k s at_ (posA s (i + 1)).1 (posA s (i + 1)).2 ((i + 1 : Nat) : Int)) (fun k => ?_) ihi)
    simp only [riffleref39_Of.j1]
    rw [if_pos trivial, if_pos (by omega), if_pos (by omega), w1, posA_succ]
    by_cases h10 : bt s i = 10
    · rw [if_pos h10, if_pos h10, w64 (by omega) (by omega)]
    · rw [if_neg h10, if_neg h10]
      by_cases h1 : bt s i < 128
      · rw [if_pos h1, if_pos (.inl h1), w64 (by omega) (by omega)]
      · rw [if_neg h1]
        by_cases h2 : bt s i > 191
        · rw [if_pos h2, if_pos (.inr h2), w64 (by omega) (by omega)]
        · rw [if_neg h2, if_neg (by omega)]
/-- how far an argument reaches into the text -/
def upto (s : ByteArray) (a : Int) : Nat := (max 0 (min a s.size)).toNat
theorem upto_le (s : ByteArray) (a : Int) : upto s a ≤ s.size := by unfold upto; omega
theorem upto_nat (s : ByteArray) (n : Nat) (h : n ≤ s.size) : upto s n = n := by unfold upto; omega
theorem ref_of (s : ByteArray) (hs : s.size ≤ 140737488351232) (a : Int) : Ev (fun k => riffleref39_Of.f k s a) (posA s (upto s a)) := by
  have := ref_of_loop s hs a (upto s a) (upto_le s a) (by unfold upto; omega) (by unfold upto; omega) (upto s a) 0 (by omega)
  exact this

/-! the program's -/
def nE (s : ByteArray) : Nat → Int
  | 0 => 0
  | n + 1 => nE s n + if bt s n = 10 then 1 else 0
def nB (s : ByteArray) : Nat → Int
  | 0 => 0
  | n + 1 => nB s n + if bt s n < 128 ∨ bt s n > 191 then 1 else 0
theorem nE_succ (s : ByteArray) (n : Nat) : nE s (n + 1) = nE s n + if bt s n = 10 then 1 else 0 := rfl
theorem nB_succ (s : ByteArray) (n : Nat) : nB s (n + 1) = nB s n + if bt s n < 128 ∨ bt s n > 191 then 1 else 0 := rfl
theorem nE_bd (s : ByteArray) : ∀ n, 0 ≤ nE s n ∧ nE s n ≤ n
  | 0 => by simp [nE]
  | n + 1 => by have := nE_bd s n; unfold nE; split <;> simp only [Int.natCast_add] <;> omega
theorem nB_bd (s : ByteArray) : ∀ n, 0 ≤ nB s n ∧ nB s n ≤ n
  | 0 => by simp [nB]
  | n + 1 => by have := nB_bd s n; unfold nB; split <;> simp only [Int.natCast_add] <;> omega
def lst (s : ByteArray) : Nat → Nat
  | 0 => 0
  | n + 1 => if bt s n = 10 then n + 1 else lst s n
theorem lst_le (s : ByteArray) : ∀ n, lst s n ≤ n
  | 0 => Nat.le_refl _
  | n + 1 => by have := lst_le s n; unfold lst; split <;> omega
theorem lst_succ (s : ByteArray) (n : Nat) : lst s (n + 1) = if bt s n = 10 then n + 1 else lst s n := rfl
theorem posA_count (s : ByteArray) : ∀ n, posA s n = (1 + nE s n, 1 + (nB s n - nB s (lst s n)))
  | 0 => by simp [posA, nE, nB, lst]
  | n + 1 => by
    have ih := posA_count s n
    rw [posA_succ, ih, nE_succ, lst_succ]
    by_cases h10 : bt s n = 10
    · rw [if_pos h10, if_pos h10, if_pos h10]; simp only [Prod.mk.injEq]; omega
    · rw [if_neg h10, if_neg h10, if_neg h10, nB_succ]
      by_cases h : bt s n < 128 ∨ bt s n > 191
      · rw [if_pos h, if_pos h]; simp only [Prod.mk.injEq]; omega
      · rw [if_neg h, if_neg h]; simp only [Prod.mk.injEq]; omega
theorem ends_loop (s : ByteArray) (hs : s.size ≤ 140737488351232) : ∀ (d i : Nat), i + d = s.size →
    Ev (fun k => place_counted_place_ends.l0 k s (nE s i) (s.size : Int) (i : Int)) (nE s s.size) := by
  intro d
  induction d with
  | zero =>
    intro i hi
    obtain rfl : i = s.size := by omega
    refine Ev.step (f := fun _ => some (nE s s.size)) (fun k => ?_) (Ev.now _)
    simp only [place_counted_place_ends.l0]
    rw [if_neg (by omega)]
  | succ d ih =>
    intro i hi
    have bd := nE_bd s i
    refine Ev.step (f := fun k => place_counted_place_ends.l0 k s (nE s (i + 1)) (s.size : Int) ((i + 1 : Nat) : Int)) (fun k => ?_) (ih (i + 1) (by omega))
    have w1 : wrap64 ((i : Int) + 1) = ((i + 1 : Nat) : Int) := by rw [w64 (by omega) (by omega)]; rfl
    simp only [place_counted_place_ends.l0]
    rw [if_pos (by omega), if_pos (by omega), if_pos (by omega), w1]
    simp only [place_ends.f, Option.bind_some, nE]
    by_cases h : bt s i = 10
    · rw [if_pos (by simpa using h), if_pos h, w64 (by omega) (by omega)]
    · rw [if_neg (by simpa using h), if_neg h, Int.add_zero]
theorem begins_loop (s : ByteArray) (hs : s.size ≤ 140737488351232) : ∀ (d i : Nat), i + d = s.size →
    Ev (fun k => place_counted_place_begins.l0 k s (nB s i) (s.size : Int) (i : Int)) (nB s s.size) := by
  intro d
  induction d with
  | zero =>
    intro i hi
    obtain rfl : i = s.size := by omega
    refine Ev.step (f := fun _ => some (nB s s.size)) (fun k => ?_) (Ev.now _)
    simp only [place_counted_place_begins.l0]
    rw [if_neg (by omega)]
  | succ d ih =>
    intro i hi
    have bd := nB_bd s i
    refine Ev.step (f := fun k => place_counted_place_begins.l0 k s (nB s (i + 1)) (s.size : Int) ((i + 1 : Nat) : Int)) (fun k => ?_) (ih (i + 1) (by omega))
    have w1 : wrap64 ((i : Int) + 1) = ((i + 1 : Nat) : Int) := by rw [w64 (by omega) (by omega)]; rfl
    simp only [place_counted_place_begins.l0]
    rw [if_pos (by omega), if_pos (by omega), if_pos (by omega), w1]
    simp only [place_begins.f, nB]
    by_cases h : bt s i < 128
    · rw [if_pos h, if_pos (.inl h), w64 (by omega) (by omega)]; simp
    · rw [if_neg h]
      by_cases h2 : bt s i > 191
      · rw [if_pos (.inr h2), w64 (by omega) (by omega)]; simp [h2]
      · rw [if_neg (by omega)]; simp [h2]
theorem bt_extract (s : ByteArray) (a b : Nat) (j : Nat) (h : a + j < b) (hb : b ≤ s.size) : bt (s.extract a b) j = bt s ((a + j : Nat) : Int) := by
  have e1 : ((j : Int)).toNat = j := rfl
  have e2 : (((a + j : Nat) : Int)).toNat = a + j := rfl
  unfold bt
  rw [dif_pos (by rw [e1, ByteArray.size_extract]; omega), dif_pos (by rw [e2]; omega)]
  simp only [e1, e2, ByteArray.getElem_extract]
theorem nE_extract (s : ByteArray) (n : Nat) (hn : n ≤ s.size) : ∀ j, j ≤ n → nE (s.extract 0 n) j = nE s j
  | 0, _ => rfl
  | j + 1, h => by
    have := bt_extract s 0 n j (by omega) hn
    rw [Nat.zero_add] at this
    unfold nE
    rw [nE_extract s n hn j (by omega), this]
theorem nB_extract (s : ByteArray) (m n : Nat) (hm : m ≤ n) (hn : n ≤ s.size) : ∀ j, m + j ≤ n → nB ((s.extract 0 n).extract m n) j = nB s (m + j) - nB s m
  | 0, _ => by simp [nB]
  | j + 1, h => by
    have sz : (s.extract 0 n).size = n := by rw [ByteArray.size_extract]; omega
    have h1 := bt_extract (s.extract 0 n) m n j (by omega) (by omega)
    have h2 := bt_extract s 0 n (m + j) (by omega) hn
    rw [Nat.zero_add] at h2
    rw [h2] at h1
    have ih := nB_extract s m n hm hn j (by omega)
    rw [show m + (j + 1) = (m + j) + 1 from rfl]
    rw [nB_succ, nB_succ, ih, h1]; omega
theorem last_lst (s : ByteArray) (n : Nat) (hn : n ≤ s.size) : ∀ j, j ≤ n → Lib.lastIdx (s.extract 0 n) 10 j + 1 = (lst s j : Int)
  | 0, _ => rfl
  | j + 1, h => by
    have ih := last_lst s n hn j (by omega)
    have hb := bt_extract s 0 n j (by omega) hn
    rw [Nat.zero_add] at hb
    have sz : (s.extract 0 n).size = n := by rw [ByteArray.size_extract]; omega
    have e : (((s.extract 0 n).data[j]!).toNat : Int) = bt s j := by
      rw [← hb]
      unfold bt
      have e1 : ((j : Int)).toNat = j := rfl
      rw [dif_pos (by rw [e1, sz]; omega)]
      simp only [e1]
      have hj : j < (s.extract 0 n).data.size := by have : (s.extract 0 n).data.size = n := sz; omega
      rw [getElem!_pos (s.extract 0 n).data j hj]
      rfl
    unfold Lib.lastIdx lst
    rw [e]
    by_cases h10 : bt s j = 10
    · simp [h10]
    · simp [h10, ih]
theorem place_of (s : ByteArray) (hs : s.size ≤ 140737488351232) (a : Int) : Ev (fun k => place_Of.f k s a) (posA s (upto s a)) := by
  have hm : mx 0 (mn a (s.size : Int)) = (upto s a : Int) := by unfold upto mx mn; split <;> split <;> omega
  have hu := upto_le s a
  generalize upto s a = n at *
  have sz : (s.extract 0 n).size = n := by rw [ByteArray.size_extract]; omega
  have hl := last_lst s n hu n (Nat.le_refl _)
  have hll := lst_le s n
  have sz2 : ((s.extract 0 n).extract (lst s n) n).size = n - lst s n := by rw [ByteArray.size_extract]; omega
  have e1 := ends_loop (s.extract 0 n) (by omega) n 0 (by omega)
  have e2 := begins_loop ((s.extract 0 n).extract (lst s n) n) (by omega) (n - lst s n) 0 (by omega)
  rw [sz2] at e2
  rw [sz] at e1
  rw [nE_extract s n hu n (Nat.le_refl _)] at e1
  rw [nB_extract s (lst s n) n hll hu (n - lst s n) (by omega), show lst s n + (n - lst s n) = n by omega] at e2
  have bE := nE_bd s n
  have bB := nB_bd s n
  have bB2 := nB_bd s (lst s n)
  have hll2 : Lib.lastIndexByte (s.extract 0 n) 10 + 1 = (lst s n : Int) := by unfold Lib.lastIndexByte; rw [sz]; exact hl
  have hlast : wrap64 (Lib.lastIndexByte (s.extract 0 n) 10 + 1) = (lst s n : Int) := by
    rw [hll2, w64 (by omega) (by omega)]
  refine Ev.congr (f := fun k => (place_counted_place_ends.f k (s.extract 0 n)).bind fun t107 => (place_counted_place_begins.f k ((s.extract 0 n).extract (lst s n) n)).bind fun t108 => some (wrap64 (1 + t107), wrap64 (1 + t108))) (fun k => ?_) ?_
  · unfold place_Of.f
    rw [hm, if_pos (by omega), if_pos (by omega)]
    simp only [Int.toNat_natCast, strings_LastIndexByte.f]
    rw [if_pos (by omega)]
    simp only [Option.bind_some, hlast, sz, Int.toNat_natCast]
    congr 1
    funext t
    rw [if_pos (by omega), if_pos (by omega)]
  · refine Ev.bind (a := nE s n) (Ev.congr (fun k => ?_) e1) ?_
    · unfold place_counted_place_ends.f; rw [sz]; rfl
    refine Ev.bind (a := nB s n - nB s (lst s n)) (Ev.congr (fun k => ?_) e2) ?_
    · unfold place_counted_place_begins.f; rw [sz2]; rfl
    rw [posA_count, w64 (by omega) (by omega), w64 (by omega) (by omega)]
    exact Ev.now _
theorem indexByte_spec (l : List UInt8) (c : UInt8) : (Lib.indexByte l c = -1 ∧ ∀ j : Nat, j < l.length → l.getD j 0 ≠ c) ∨
    ∃ i : Nat, i < l.length ∧ Lib.indexByte l c = (i : Int) ∧ l.getD i 0 = c ∧ ∀ j, j < i → l.getD j 0 ≠ c := by
  induction l with
  | nil => left; exact ⟨rfl, fun j h => by simp at h⟩
  | cons b l ih =>
    by_cases hb : b = c
    · right
      refine ⟨0, by simp, by simp [Lib.indexByte, hb], by simp [hb], fun j h => by omega⟩
    · have hb' : (b == c) = false := by simpa using hb
      rcases ih with ⟨h1, h2⟩ | ⟨i, h1, h2, h3, h4⟩
      · left
        refine ⟨by simp [Lib.indexByte, hb', h1], fun j hj => ?_⟩
        cases j with
        | zero => simpa using hb
        | succ j => simpa using h2 j (by simpa using hj)
      · right
        refine ⟨i + 1, by simpa using h1, ?_, by simpa using h3, fun j hj => ?_⟩
        · have hne : ((i : Int) == -1) = false := by
            rw [beq_eq_false_iff_ne]; omega
          simp [Lib.indexByte, hb', h2, hne]
        · cases j with
          | zero => simpa using hb
          | succ j => simpa using h4 j (by omega)
theorem getD_bt (t : ByteArray) (j : Nat) (h : j < t.size) : ((t.data.toList.getD j 0).toNat : Int) = bt t j := by
  have e1 : ((j : Int)).toNat = j := rfl
  unfold bt
  rw [dif_pos (by rw [e1]; exact h)]
  simp only [e1]
  have hj : j < t.data.toList.length := by simpa using h
  rw [List.getD_eq_getElem?_getD, List.getElem?_eq_getElem hj]
  rfl
/-- the next byte 10 behind p -/
theorem next_line (s : ByteArray) (p : Nat) (hp : p ≤ s.size) : (Lib.indexByte (s.extract p s.size).data.toList 10 = -1 ∧ ∀ j : Nat, p ≤ j → j < s.size → bt s j ≠ 10) ∨
    ∃ q : Nat, p ≤ q ∧ q < s.size ∧ Lib.indexByte (s.extract p s.size).data.toList 10 = ((q - p : Nat) : Int) ∧ bt s q = 10 ∧ ∀ j : Nat, p ≤ j → j < q → bt s j ≠ 10 := by
  have sz : (s.extract p s.size).size = s.size - p := by rw [ByteArray.size_extract]; omega
  have szl : (s.extract p s.size).data.toList.length = s.size - p := by rw [← sz]; rfl
  have hb : ∀ j, j < s.size - p → (((s.extract p s.size).data.toList.getD j 0).toNat : Int) = bt s ((p + j : Nat) : Int) := fun j hj => by
    rw [getD_bt _ _ (by omega), bt_extract s p s.size j (by omega) (Nat.le_refl _)]
  have ne : ∀ j, j < s.size - p → (s.extract p s.size).data.toList.getD j 0 ≠ 10 → bt s ((p + j : Nat) : Int) ≠ 10 := fun j hj h e => by
    rw [← hb j hj] at e
    apply h
    apply UInt8.toNat_inj.mp
    have e2 : ((s.extract p s.size).data.toList.getD j 0).toNat = 10 := by omega
    rw [e2]; rfl
  rcases indexByte_spec (s.extract p s.size).data.toList 10 with ⟨h1, h2⟩ | ⟨i, h1, h2, h3, h4⟩
  · left
    refine ⟨h1, fun j hj hl => ?_⟩
    have := ne (j - p) (by omega) (h2 (j - p) (by omega))
    rwa [show p + (j - p) = j by omega] at this
  · right
    refine ⟨p + i, by omega, by omega, by rw [h2]; congr 1; omega, ?_, fun j hj hl => ?_⟩
    · rw [← hb i (by omega), h3]; rfl
    · have := ne (j - p) (by omega) (h4 (j - p) (by omega))
      rwa [show p + (j - p) = j by omega] at this
/-- without a byte 10 between, the line is the same -/
theorem same_line (s : ByteArray) (p : Nat) : ∀ d, (∀ j : Nat, p ≤ j → j < p + d → bt s j ≠ 10) → (posA s (p + d)).1 = (posA s p).1
  | 0, _ => rfl
  | d + 1, h => by
    have ih := same_line s p d (fun j h1 h2 => h j h1 (by omega))
    rw [← Nat.add_assoc, posA_succ, if_neg (h (p + d) (by omega) (by omega))]
    split
    · exact ih
    · exact ih
/-- a byte that begins a line -/
def Head (s : ByteArray) (p : Nat) : Prop := p = 0 ∨ ∃ q, p = q + 1 ∧ bt s q = 10
theorem head_pos {s : ByteArray} {p : Nat} (h : Head s p) : (posA s p).2 = 1 := by
  rcases h with rfl | ⟨q, rfl, hq⟩
  · rfl
  · rw [posA_succ, if_pos hq]
theorem head_before {s : ByteArray} {p j : Nat} (h : Head s p) (hj : j < p) : (posA s j).1 < (posA s p).1 := by
  rcases h with rfl | ⟨q, rfl, hq⟩
  · omega
  · rw [posA_succ, if_pos hq]
    have := posA_mono s (show j ≤ q by omega)
    simp only; omega
/-- what begin tells -/
def BeginR (s : ByteArray) (line : Int) (r : Int × Bool) : Prop :=
  (∃ p : Nat, p ≤ s.size ∧ r = ((p : Int), decide (line ≥ 1)) ∧ Head s p ∧ (line ≥ 1 → (posA s p).1 = line)) ∨ (r = (0, false) ∧ ∀ j, j ≤ s.size → (posA s j).1 < line)
theorem begin_loop (s : ByteArray) (hs : s.size ≤ 140737488351232) (line : Int) : ∀ (d p : Nat), s.size - p ≤ d → p ≤ s.size → Head s p → (posA s p).1 ≤ line →
    ∃ r, Ev (fun k => place_begin.l0 k s line (p : Int) (posA s p).1) r ∧ BeginR s line r := by
  intro d
  induction d with
  | zero =>
    intro p hd hp hh hl
    have bd := posA_bd s p
    by_cases h : (posA s p).1 < line
    · refine ⟨(0, false), Ev.step (f := fun _ => some (0, false)) (fun k => ?_) (Ev.now _), .inr ⟨rfl, fun j hj => ?_⟩⟩
      · simp only [place_begin.l0]
        rw [if_pos h, if_pos (by omega), if_pos (by omega)]
        rcases next_line s p hp with ⟨h1, _⟩ | ⟨q, h1, h2, _⟩
        · simp only [strings_IndexByte.f, Int.toNat_natCast]
          rw [show (Int.toNat 10).toUInt8 = 10 from rfl, h1]
          simp
        · omega
      · have := posA_mono s (show j ≤ p by omega); omega
    · refine ⟨((p : Int), decide (line ≥ 1)), Ev.step (f := fun _ => some ((p : Int), decide (line ≥ 1))) (fun k => ?_) (Ev.now _), .inl ⟨p, hp, rfl, hh, fun _ => by omega⟩⟩
      simp only [place_begin.l0]
      rw [if_neg h]
  | succ d ih =>
    intro p hd hp hh hl
    have bd := posA_bd s p
    by_cases h : (posA s p).1 < line
    · rcases next_line s p hp with ⟨h1, h2⟩ | ⟨q, h1, h2, h3, h4, h5⟩
      · refine ⟨(0, false), Ev.step (f := fun _ => some (0, false)) (fun k => ?_) (Ev.now _), .inr ⟨rfl, fun j hj => ?_⟩⟩
        · simp only [place_begin.l0]
          rw [if_pos h, if_pos (by omega), if_pos (by omega)]
          simp only [strings_IndexByte.f, Int.toNat_natCast]
          rw [show (Int.toNat 10).toUInt8 = 10 from rfl, h1]
          simp
        · by_cases hjp : j ≤ p
          · have := posA_mono s hjp; omega
          · have := same_line s p (j - p) (fun i hi1 hi2 => h2 i hi1 (by omega))
            rw [show p + (j - p) = j by omega] at this
            omega
      · have hq := same_line s p (q - p) (fun i hi1 hi2 => h5 i hi1 (by omega))
        rw [show p + (q - p) = q by omega] at hq
        have hp1 : posA s (q + 1) = ((posA s p).1 + 1, 1) := by rw [posA_succ, if_pos h4, hq]
        obtain ⟨r, hr, hR⟩ := ih (q + 1) (by omega) (by omega) (.inr ⟨q, rfl, h4⟩) (by rw [hp1]; simp only; omega)
        refine ⟨r, Ev.step (f := fun k => place_begin.l0 k s line ((q + 1 : Nat) : Int) (posA s (q + 1)).1) (fun k => ?_) hr, hR⟩
        simp only [place_begin.l0]
        rw [if_pos h, if_pos (by omega), if_pos (by omega)]
        simp only [strings_IndexByte.f, Int.toNat_natCast]
        rw [show (Int.toNat 10).toUInt8 = 10 from rfl, h3]
        simp only [Option.bind_some]
        rw [if_neg (by omega), hp1, w64 (x := ((q - p : Nat) : Int) + 1) (by omega) (by omega), w64 (by omega) (by omega), w64 (by omega) (by omega)]
        congr 1
        omega
    · refine ⟨((p : Int), decide (line ≥ 1)), Ev.step (f := fun _ => some ((p : Int), decide (line ≥ 1))) (fun k => ?_) (Ev.now _), .inl ⟨p, hp, rfl, hh, fun _ => by omega⟩⟩
      simp only [place_begin.l0]
      rw [if_neg h]
theorem begin_tells (s : ByteArray) (hs : s.size ≤ 140737488351232) (line : Int) : ∃ r, Ev (fun k => place_begin.f k s line) r ∧ BeginR s line r := by
  by_cases h : 1 ≤ line
  · exact begin_loop s hs line s.size 0 (by omega) (by omega) (.inl rfl) (by simpa [posA] using h)
  · refine ⟨(0, decide (line ≥ 1)), Ev.step (f := fun _ => some (0, decide (line ≥ 1))) (fun k => ?_) (Ev.now _), .inl ⟨0, by omega, rfl, .inl rfl, fun h' => by omega⟩⟩
    unfold place_begin.f
    simp only [place_begin.l0]
    rw [if_neg (by omega)]
/-- the first byte with that line and sign, or none -/
def LineAt (s : ByteArray) (L : Int) (t : ByteArray) : Prop :=
  ∃ p q : Nat, Head s p ∧ (posA s p).1 = L ∧ p ≤ q ∧ q ≤ s.size ∧ (∀ j : Nat, p ≤ j → j < q → bt s j ≠ 10) ∧ (q = s.size ∨ q < s.size ∧ bt s q = 10) ∧ t = s.extract p q
theorem LineAt.one {s : ByteArray} {L : Int} {t t' : ByteArray} (h : LineAt s L t) (h' : LineAt s L t') : t = t' := by
  obtain ⟨p, q, h1, h2, h3, h4, h5, h6, rfl⟩ := h
  obtain ⟨p', q', h1', h2', h3', h4', h5', h6', rfl⟩ := h'
  have hp : p = p' := by
    rcases Nat.lt_or_ge p p' with h | h
    · have := head_before h1' h; omega
    · rcases Nat.lt_or_ge p' p with h' | h'
      · have := head_before h1 h'; omega
      · omega
  subst hp
  have hq : q = q' := by
    rcases Nat.lt_or_ge q q' with h | h
    · rcases h6 with h6 | ⟨_, h6⟩
      · omega
      · exact absurd h6 (h5' q (by omega) h)
    · rcases Nat.lt_or_ge q' q with h' | h'
      · rcases h6' with h6' | ⟨_, h6'⟩
        · omega
        · exact absurd h6' (h5 q' (by omega) h')
      · omega
  subst hq
  rfl
theorem lst_head (s : ByteArray) : ∀ i, Head s (lst s i) ∧ ∀ j : Nat, lst s i ≤ j → j < i → bt s j ≠ 10
  | 0 => ⟨.inl rfl, fun j _ h => by omega⟩
  | i + 1 => by
    have ih := lst_head s i
    rw [lst_succ]
    by_cases h : bt s i = 10
    · rw [if_pos h]; exact ⟨.inr ⟨i, rfl, h⟩, fun j h1 h2 => by omega⟩
    · rw [if_neg h]
      refine ⟨ih.1, fun j h1 h2 => ?_⟩
      rcases Nat.lt_or_ge j i with hj | hj
      · exact ih.2 j h1 hj
      · rw [show j = i by omega]; exact h
theorem lst_line (s : ByteArray) (i : Nat) : (posA s (lst s i)).1 = (posA s i).1 := by
  have hl := lst_le s i
  have := same_line s (lst s i) (i - lst s i) (fun j h1 h2 => (lst_head s i).2 j h1 (by omega))
  rw [show lst s i + (i - lst s i) = i by omega] at this
  exact this.symm
theorem extract_snoc (s : ByteArray) (p i : Nat) (hp : p ≤ i) (hi : i < s.size) : s.extract p i ++ s.extract i (i + 1) = s.extract p (i + 1) := by
  apply ByteArray.ext
  simp only [ByteArray.data_append, ByteArray.data_extract]
  rw [Array.extract_append_extract]
  congr 1
  · omega
  · omega
theorem rdOf_nat {α : Type} (d : α) (l : List α) (i : Nat) : rdOf d l (i : Int) = l.getD i d := by unfold rdOf; rw [Int.toNat_natCast]
/-- the list of lines when i bytes were read -/
def LinesI (s : ByteArray) (i : Nat) (l : List ByteArray) : Prop :=
  (l.length : Int) = (posA s i).1 ∧ (∀ j : Nat, j + 1 < l.length → LineAt s ((j : Int) + 1) (l.getD j ByteArray.empty)) ∧ l.getD (l.length - 1) ByteArray.empty = s.extract (lst s i) i
theorem lines_loop (s : ByteArray) (hs : s.size ≤ 300) : ∀ (d i : Nat), i + d = s.size → ∀ l, LinesI s i l → ∃ r, Ev (fun k => riffleref39_Lines.l0 k s l (i : Int)) r ∧ LinesI s s.size r := by
  intro d
  induction d with
  | zero =>
    intro i hi l hl
    obtain rfl : i = s.size := by omega
    refine ⟨l, Ev.step (f := fun _ => some l) (fun k => ?_) (Ev.now _), hl⟩
    simp only [riffleref39_Lines.l0]
    rw [if_neg (by omega)]
  | succ d ih =>
    intro i hi l hl
    obtain ⟨h1, h2, h3⟩ := hl
    have bd := posA_bd s i
    have w1 : wrap64 ((i : Int) + 1) = ((i + 1 : Nat) : Int) := by rw [w64 (by omega) (by omega)]; rfl
    by_cases h10 : bt s i = 10
    · have hl' : LinesI s (i + 1) (l ++ [(⟨#[]⟩ : ByteArray)]) := by
        refine ⟨by rw [posA_succ, if_pos h10]; simp only [List.length_append, List.length_cons, List.length_nil]; omega, fun j hj => ?_, ?_⟩
        · simp only [List.length_append, List.length_cons, List.length_nil] at hj
          rw [List.getD_eq_getElem?_getD, List.getElem?_append_left (by omega), ← List.getD_eq_getElem?_getD]
          rcases Nat.lt_or_ge (j + 1) l.length with hjl | hjl
          · exact h2 j hjl
          · have hj1 : j = l.length - 1 := by omega
            rw [hj1, h3]
            have hh := lst_head s i
            exact ⟨lst s i, i, hh.1, by rw [lst_line]; omega, lst_le s i, by omega, hh.2, .inr ⟨by omega, h10⟩, rfl⟩
        · simp only [List.length_append, List.length_cons, List.length_nil]
          rw [show l.length + (0 + 1) - 1 = l.length by omega, List.getD_eq_getElem?_getD, List.getElem?_append_right (by omega), lst_succ, if_pos h10]
          simp only [Nat.sub_self, List.getElem?_cons_zero, Option.getD_some]
          apply ByteArray.ext
          rw [ByteArray.data_extract]
          simp
          omega
      obtain ⟨r, hr, hR⟩ := ih (i + 1) (by omega) _ hl'
      refine ⟨r, Ev.step (f := fun k => riffleref39_Lines.l0 k s (l ++ [(⟨#[]⟩ : ByteArray)]) ((i + 1 : Nat) : Int)) (fun k => ?_) hr, hR⟩
      simp only [riffleref39_Lines.l0]
      rw [if_pos (by omega), if_pos (by omega), if_pos h10, if_pos (by omega), w1]
    · have hlen : 0 < l.length := by omega
      have hsz : (s.extract (lst s i) i).size ≤ 300 := by rw [ByteArray.size_extract]; omega
      have hsn := extract_snoc s (lst s i) i (lst_le s i) (by omega)
      have hl' : LinesI s (i + 1) (l.set (l.length - 1) (s.extract (lst s i) (i + 1))) := by
        refine ⟨?_, fun j hj => ?_, ?_⟩
        · rw [List.length_set, posA_succ, if_neg h10]
          split
          · exact h1
          · exact h1
        · rw [List.length_set] at hj
          rw [List.getD_eq_getElem?_getD, List.getElem?_set_ne (by omega), ← List.getD_eq_getElem?_getD]
          exact h2 j hj
        · rw [List.length_set, List.getD_eq_getElem?_getD, List.getElem?_set_self (by omega), lst_succ, if_neg h10]; rfl
      obtain ⟨r, hr, hR⟩ := ih (i + 1) (by omega) _ hl'
      refine ⟨r, Ev.step (f := fun k => riffleref39_Lines.l0 k s (l.set (l.length - 1) (s.extract (lst s i) (i + 1))) ((i + 1 : Nat) : Int)) (fun k => ?_) hr, hR⟩
      have wl : wrap64 ((l.length : Int) - 1) = ((l.length - 1 : Nat) : Int) := by rw [w64 (by omega) (by omega)]; omega
      simp only [riffleref39_Lines.l0]
      rw [if_pos (by omega), if_pos (by omega), if_neg h10, wl, if_pos (by omega), if_pos (by omega), w1, if_pos (by omega), if_pos (by omega), rdOf_nat, h3]
      simp only [Int.toNat_natCast]
      rw [if_pos (by rw [ByteArray.size_extract, ByteArray.size_extract]; omega), hsn]
theorem lines_all (s : ByteArray) (hs : s.size ≤ 300) : ∃ r, Ev (fun k => riffleref39_Lines.f k s) r ∧ LinesI s s.size r :=
  lines_loop s hs s.size 0 (by omega) [(⟨#[]⟩ : ByteArray)] ⟨by simp [posA], fun j hj => by simp at hj, by
    apply ByteArray.ext
    simp [lst]⟩
theorem LinesI.at {s : ByteArray} {l : List ByteArray} (h : LinesI s s.size l) (L : Int) (h1 : 1 ≤ L) (h2 : L ≤ (l.length : Int)) : LineAt s L (l.getD (L - 1).toNat ByteArray.empty) := by
  obtain ⟨g1, g2, g3⟩ := h
  rcases Nat.lt_or_ge ((L - 1).toNat + 1) l.length with hl | hl
  · have := g2 (L - 1).toNat hl
    rwa [show (((L - 1).toNat : Nat) : Int) + 1 = L by omega] at this
  · rw [show (L - 1).toNat = l.length - 1 by omega, g3]
    have hh := lst_head s s.size
    exact ⟨lst s s.size, s.size, hh.1, by rw [lst_line]; omega, lst_le s _, Nat.le_refl _, hh.2, .inl rfl, rfl⟩
theorem index_one (l : List UInt8) (c : UInt8) : Lib.index l [c] = Lib.indexByte l c := by
  induction l with
  | nil => rfl
  | cons b l ih =>
    unfold Lib.index Lib.indexByte
    rw [ih]
    simp only [List.isPrefixOf, Bool.and_true]
    by_cases h : b = c
    · simp [h]
    · have h1 : (b == c) = false := by simpa using h
      have h2 : (c == b) = false := by simpa using fun e => h e.symm
      simp only [h1, h2]
theorem place_line (s : ByteArray) (hs : s.size ≤ 300) (L : Int) : ∃ t ok, Ev (fun k => place_Line.f k s L) (t, ok) ∧ ((ok = true ∧ 1 ≤ L ∧ L ≤ (posA s s.size).1 ∧ LineAt s L t) ∨ (ok = false ∧ t = ⟨#[]⟩ ∧ (L < 1 ∨ (posA s s.size).1 < L))) := by
  obtain ⟨rb, hb, hB⟩ := begin_tells s (by omega) L
  rcases hB with ⟨p, hp, rfl, hh, hln⟩ | ⟨rfl, hno⟩
  · by_cases h1 : L ≥ 1
    · rw [decide_eq_true h1] at hb
      have hcut : ∃ q : Nat, p ≤ q ∧ q ≤ s.size ∧ (∀ j : Nat, p ≤ j → j < q → bt s j ≠ 10) ∧ (q = s.size ∨ q < s.size ∧ bt s q = 10) ∧ (⟨(Lib.cut (s.extract p s.size).data.toList [10]).1.toArray⟩ : ByteArray) = s.extract p q := by
        rcases next_line s p hp with ⟨i1, i2⟩ | ⟨q, i1, i2, i3, i4, i5⟩
        · refine ⟨s.size, hp, Nat.le_refl _, i2, .inl rfl, ?_⟩
          unfold Lib.cut
          rw [index_one, i1, if_neg (by omega)]
        · refine ⟨q, i1, by omega, i5, .inr ⟨i2, i4⟩, ?_⟩
          unfold Lib.cut
          rw [index_one, i3, if_pos (by omega)]
          apply ByteArray.ext
          simp only [Int.toNat_natCast, ByteArray.data_extract, Array.toList_extract]
          rw [List.extract_eq_take_drop]
          apply Array.ext'
          simp only [Array.toList_extract, List.extract_eq_take_drop]
          rw [List.take_take]
          congr 1
          omega
      obtain ⟨q, q1, q2, q3, q4, q5⟩ := hcut
      refine ⟨s.extract p q, true, Ev.bind hb ?_, .inl ⟨rfl, h1, ?_, p, q, hh, hln h1, q1, q2, q3, q4, rfl⟩⟩
      · refine Ev.congr (f := fun _ => some (s.extract p q, true)) (fun k => ?_) (Ev.now _)
        simp only [if_true]
        rw [if_pos (by omega), if_pos (by omega)]
        unfold strings_Cut.f
        simp only [Int.toNat_natCast]
        rw [if_pos (by rw [ByteArray.size_extract]; omega)]
        simp only [Option.bind_some, q5]
      · have := posA_mono s hp
        rw [hln h1] at this; omega
    · rw [decide_eq_false h1] at hb
      refine ⟨⟨#[]⟩, false, Ev.bind hb ?_, .inr ⟨rfl, rfl, .inl (by omega)⟩⟩
      exact Ev.congr (f := fun _ => some ((⟨#[]⟩ : ByteArray), false)) (fun k => by simp) (Ev.now _)
  · refine ⟨⟨#[]⟩, false, Ev.bind hb ?_, .inr ⟨rfl, rfl, .inr (hno s.size (Nat.le_refl _))⟩⟩
    exact Ev.congr (f := fun _ => some ((⟨#[]⟩ : ByteArray), false)) (fun k => by simp) (Ev.now _)
theorem lives_ev2 : Ev (fun k => rifflelaw39_lives.f k) true := by
  have h := place_of (⟨#[120, 58, 10, 195, 151, 121]⟩ : ByteArray) (by decide) 5
  rw [show posA (⟨#[120, 58, 10, 195, 151, 121]⟩ : ByteArray) (upto (⟨#[120, 58, 10, 195, 151, 121]⟩ : ByteArray) 5) = (2, 2) by decide +kernel] at h
  exact Ev.bind h (Ev.now true)
theorem lives_bind2 : Ev (fun k => (rifflelaw39_lives.f k).bind fun t => some t) true := Ev.bind lives_ev2 (Ev.now true)
end Go.Proofs.YtpaeefnepfppfaaDoor.Xs
