/- Where a byte of a text stands: what place.Of and the document's own count come to, told by one plain function of the text (posA); no Go and no memory. -/
import Derived.Test.YtpaeefnepfppfaaXb2
import Derived.Test.YtpaeefnepfppfaaXb4
namespace Go.Proofs.Ytpaeefnepfppfaa.Xb
open Go.RowKit Go.Proofs.YtpaeefnepfppfaaW.PrintWords Go.Proofs.YtpaeefnepfppfaaW.PrintLast Go.Proofs.YtpaeefnepfppfaaW.PrintMore
set_option linter.unusedVariables false
set_option linter.unusedSimpArgs false
theorem w64 {x : Int} (h0 : -9223372036854775808 ≤ x) (h1 : x < 9223372036854775808) : wrap64 x = x := by unfold wrap64; omega
/-- line and sign of the byte n -/
def posA (s : ByteArray) : Nat → Int × Int
  | 0 => (1, 1)
  | n + 1 => if bt s n = 10 then ((posA s n).1 + 1, 1) else if bt s n < 128 ∨ bt s n > 191 then ((posA s n).1, (posA s n).2 + 1) else posA s n
theorem posA_succ (s : ByteArray) (n : Nat) : posA s (n + 1) = if bt s n = 10 then ((posA s n).1 + 1, 1) else if bt s n < 128 ∨ bt s n > 191 then ((posA s n).1, (posA s n).2 + 1) else posA s n := rfl
theorem posA_bd (s : ByteArray) : ∀ n : Nat, 1 ≤ (posA s n).1 ∧ (posA s n).1 ≤ n + 1 ∧ 1 ≤ (posA s n).2 ∧ (posA s n).2 ≤ n + 1
  | 0 => by simp [posA]
  | n + 1 => by
    have := posA_bd s n
    rw [posA_succ]
    split
    · simp only [Int.natCast_add]; omega
    · split
      · simp only [Int.natCast_add]; omega
      · simp only [Int.natCast_add]; omega
/-- a later byte stands later, or at the same sign -/
theorem posA_le (s : ByteArray) (n : Nat) : ∀ d, (posA s n).1 < (posA s (n + d)).1 ∨ (posA s n).1 = (posA s (n + d)).1 ∧ (posA s n).2 ≤ (posA s (n + d)).2
  | 0 => by right; simp
  | d + 1 => by
    have := posA_le s n d
    rw [← Nat.add_assoc, posA_succ]
    split
    · simp only; omega
    · split
      · simp only; omega
      · exact this
theorem posA_mono (s : ByteArray) {n m : Nat} (h : n ≤ m) : (posA s n).1 < (posA s m).1 ∨ (posA s n).1 = (posA s m).1 ∧ (posA s n).2 ≤ (posA s m).2 := by
  obtain ⟨d, rfl⟩ := Nat.exists_eq_add_of_le h
  exact posA_le s n d
/-- bytes between two places of one sign begin none -/
theorem posA_same (s : ByteArray) {n m : Nat} (h : posA s n = posA s m) (j : Nat) (h1 : n ≤ j) (h2 : j < m) : ¬ bt s j < 128 ∧ ¬ bt s j > 191 := by
  have a := posA_mono s h1
  have b := posA_mono s (show j + 1 ≤ m from h2)
  have c := posA_succ s j
  rw [h] at a
  by_cases h10 : bt s j = 10
  · rw [if_pos h10] at c; rw [c] at b; simp only at b; omega
  · rw [if_neg h10] at c
    by_cases h11 : bt s j < 128 ∨ bt s j > 191
    · rw [if_pos h11] at c; rw [c] at b; simp only at b; omega
    · omega

/-! the document's count -/
theorem ref_of_loop (s : ByteArray) (hs : s.size ≤ 140737488351232) (at_ : Int) (n : Nat) (hn : n ≤ s.size) (hat : (n : Int) ≤ at_ ∨ n = 0) (hend : n = s.size ∨ at_ ≤ n) : ∀ (d i : Nat), i + d = n →
    Ev (fun k => riffleref39_Of.l0 k s at_ (posA s i).1 (posA s i).2 (i : Int)) (posA s n) := by
  intro d
  induction d with
  | zero =>
    intro i hi
    obtain rfl : i = n := by omega
    have e : ∀ k, riffleref39_Of.l0 (k + 1) s at_ (posA s i).1 (posA s i).2 (i : Int) = riffleref39_Of.j1 k s at_ (posA s i).1 (posA s i).2 (i : Int) false := fun k => by
      simp only [riffleref39_Of.l0]
      by_cases h : (i : Int) < at_
      · rw [if_pos h, decide_eq_false (by omega)]
      · rw [if_neg h]
    refine Ev.step e (Ev.step (f := fun _ => some (posA s i)) (fun k => ?_) (Ev.now _))
    simp only [riffleref39_Of.j1]
    rw [if_neg (by simp)]
  | succ d ih =>
    intro i hi
    have hlt : i < s.size := by omega
    have hat' : (i : Int) < at_ := by omega
    have e : ∀ k, riffleref39_Of.l0 (k + 1) s at_ (posA s i).1 (posA s i).2 (i : Int) = riffleref39_Of.j1 k s at_ (posA s i).1 (posA s i).2 (i : Int) true := fun k => by
      simp only [riffleref39_Of.l0]
      rw [if_pos hat', decide_eq_true (by omega)]
    have bd := posA_bd s i
    have w1 : wrap64 ((i : Int) + 1) = ((i + 1 : Nat) : Int) := by rw [w64 (by omega) (by omega)]; rfl
    have ihi := ih (i + 1) (by omega)
    refine Ev.step e (Ev.step (f := fun k => riffleref39_Of.l0 k s at_ (posA s (i + 1)).1 (posA s (i + 1)).2 ((i + 1 : Nat) : Int)) (fun k => ?_) ihi)
    simp only [riffleref39_Of.j1]
    rw [if_pos trivial, if_pos (by omega), if_pos (by omega), w1, posA_succ]
    by_cases h10 : bt s i = 10
    · rw [if_pos h10, if_pos h10, w64 (by omega) (by omega)]
    · rw [if_neg h10, if_neg h10]
      by_cases h1 : bt s i < 128
      · rw [if_pos h1, if_pos (.inl h1), w64 (by omega) (by omega)]
      · rw [if_neg h1]
        by_cases h2 : bt s i > 191
        · rw [if_pos h2, if_pos (.inr h2), w64 (by omega) (by omega)]
        · rw [if_neg h2, if_neg (by omega)]
/-- how far an argument reaches into the text -/
def upto (s : ByteArray) (a : Int) : Nat := (max 0 (min a s.size)).toNat
theorem upto_le (s : ByteArray) (a : Int) : upto s a ≤ s.size := by unfold upto; omega
theorem upto_nat (s : ByteArray) (n : Nat) (h : n ≤ s.size) : upto s n = n := by unfold upto; omega
theorem ref_of (s : ByteArray) (hs : s.size ≤ 140737488351232) (a : Int) : Ev (fun k => riffleref39_Of.f k s a) (posA s (upto s a)) := by
  have := ref_of_loop s hs a (upto s a) (upto_le s a) (by unfold upto; omega) (by unfold upto; omega) (upto s a) 0 (by omega)
  exact this

/-! the program's -/
def nE (s : ByteArray) : Nat → Int
  | 0 => 0
  | n + 1 => nE s n + if bt s n = 10 then 1 else 0
def nB (s : ByteArray) : Nat → Int
  | 0 => 0
  | n + 1 => nB s n + if bt s n < 128 ∨ bt s n > 191 then 1 else 0
theorem nE_succ (s : ByteArray) (n : Nat) : nE s (n + 1) = nE s n + if bt s n = 10 then 1 else 0 := rfl
theorem nB_succ (s : ByteArray) (n : Nat) : nB s (n + 1) = nB s n + if bt s n < 128 ∨ bt s n > 191 then 1 else 0 := rfl
theorem nE_bd (s : ByteArray) : ∀ n, 0 ≤ nE s n ∧ nE s n ≤ n
  | 0 => by simp [nE]
  | n + 1 => by have := nE_bd s n; unfold nE; split <;> simp only [Int.natCast_add] <;> omega
theorem nB_bd (s : ByteArray) : ∀ n, 0 ≤ nB s n ∧ nB s n ≤ n
  | 0 => by simp [nB]
  | n + 1 => by have := nB_bd s n; unfold nB; split <;> simp only [Int.natCast_add] <;> omega
def lst (s : ByteArray) : Nat → Nat
  | 0 => 0
  | n + 1 => if bt s n = 10 then n + 1 else lst s n
theorem lst_le (s : ByteArray) : ∀ n, lst s n ≤ n
  | 0 => Nat.le_refl _
  | n + 1 => by have := lst_le s n; unfold lst; split <;> omega
theorem lst_succ (s : ByteArray) (n : Nat) : lst s (n + 1) = if bt s n = 10 then n + 1 else lst s n := rfl
theorem posA_count (s : ByteArray) : ∀ n, posA s n = (1 + nE s n, 1 + (nB s n - nB s (lst s n)))
  | 0 => by simp [posA, nE, nB, lst]
  | n + 1 => by
    have ih := posA_count s n
    rw [posA_succ, ih, nE_succ, lst_succ]
    by_cases h10 : bt s n = 10
    · rw [if_pos h10, if_pos h10, if_pos h10]; simp only [Prod.mk.injEq]; omega
    · rw [if_neg h10, if_neg h10, if_neg h10, nB_succ]
      by_cases h : bt s n < 128 ∨ bt s n > 191
      · rw [if_pos h, if_pos h]; simp only [Prod.mk.injEq]; omega
      · rw [if_neg h, if_neg h]; simp only [Prod.mk.injEq]; omega
theorem ends_loop (s : ByteArray) (hs : s.size ≤ 140737488351232) : ∀ (d i : Nat), i + d = s.size →
    Ev (fun k => place_counted_place_ends.l0 k s (nE s i) (s.size : Int) (i : Int)) (nE s s.size) := by
  intro d
  induction d with
  | zero =>
    intro i hi
    obtain rfl : i = s.size := by omega
    refine Ev.step (f := fun _ => some (nE s s.size)) (fun k => ?_) (Ev.now _)
    simp only [place_counted_place_ends.l0]
    rw [if_neg (by omega)]
  | succ d ih =>
    intro i hi
    have bd := nE_bd s i
    refine Ev.step (f := fun k => place_counted_place_ends.l0 k s (nE s (i + 1)) (s.size : Int) ((i + 1 : Nat) : Int)) (fun k => ?_) (ih (i + 1) (by omega))
    have w1 : wrap64 ((i : Int) + 1) = ((i + 1 : Nat) : Int) := by rw [w64 (by omega) (by omega)]; rfl
    simp only [place_counted_place_ends.l0]
    rw [if_pos (by omega), if_pos (by omega), if_pos (by omega), w1]
    simp only [place_ends.f, Option.bind_some, nE]
    by_cases h : bt s i = 10
    · rw [if_pos (by simpa using h), if_pos h, w64 (by omega) (by omega)]
    · rw [if_neg (by simpa using h), if_neg h, Int.add_zero]
theorem begins_loop (s : ByteArray) (hs : s.size ≤ 140737488351232) : ∀ (d i : Nat), i + d = s.size →
    Ev (fun k => place_counted_place_begins.l0 k s (nB s i) (s.size : Int) (i : Int)) (nB s s.size) := by
  intro d
  induction d with
  | zero =>
    intro i hi
    obtain rfl : i = s.size := by omega
    refine Ev.step (f := fun _ => some (nB s s.size)) (fun k => ?_) (Ev.now _)
    simp only [place_counted_place_begins.l0]
    rw [if_neg (by omega)]
  | succ d ih =>
    intro i hi
    have bd := nB_bd s i
    refine Ev.step (f := fun k => place_counted_place_begins.l0 k s (nB s (i + 1)) (s.size : Int) ((i + 1 : Nat) : Int)) (fun k => ?_) (ih (i + 1) (by omega))
    have w1 : wrap64 ((i : Int) + 1) = ((i + 1 : Nat) : Int) := by rw [w64 (by omega) (by omega)]; rfl
    simp only [place_counted_place_begins.l0]
    rw [if_pos (by omega), if_pos (by omega), if_pos (by omega), w1]
    simp only [place_begins.f, nB]
    by_cases h : bt s i < 128
    · rw [if_pos h, if_pos (.inl h), w64 (by omega) (by omega)]; simp
    · rw [if_neg h]
      by_cases h2 : bt s i > 191
      · rw [if_pos (.inr h2), w64 (by omega) (by omega)]; simp [h2]
      · rw [if_neg (by omega)]; simp [h2]
theorem bt_extract (s : ByteArray) (a b : Nat) (j : Nat) (h : a + j < b) (hb : b ≤ s.size) : bt (s.extract a b) j = bt s ((a + j : Nat) : Int) := by
  have e1 : ((j : Int)).toNat = j := rfl
  have e2 : (((a + j : Nat) : Int)).toNat = a + j := rfl
  unfold bt
  rw [dif_pos (by rw [e1, ByteArray.size_extract]; omega), dif_pos (by rw [e2]; omega)]
  simp only [e1, e2, ByteArray.getElem_extract]
theorem nE_extract (s : ByteArray) (n : Nat) (hn : n ≤ s.size) : ∀ j, j ≤ n → nE (s.extract 0 n) j = nE s j
  | 0, _ => rfl
  | j + 1, h => by
    have := bt_extract s 0 n j (by omega) hn
    rw [Nat.zero_add] at this
    unfold nE
    rw [nE_extract s n hn j (by omega), this]
theorem nB_extract (s : ByteArray) (m n : Nat) (hm : m ≤ n) (hn : n ≤ s.size) : ∀ j, m + j ≤ n → nB ((s.extract 0 n).extract m n) j = nB s (m + j) - nB s m
  | 0, _ => by simp [nB]
  | j + 1, h => by
    have sz : (s.extract 0 n).size = n := by rw [ByteArray.size_extract]; omega
    have h1 := bt_extract (s.extract 0 n) m n j (by omega) (by omega)
    have h2 := bt_extract s 0 n (m + j) (by omega) hn
    rw [Nat.zero_add] at h2
    rw [h2] at h1
    have ih := nB_extract s m n hm hn j (by omega)
    rw [show m + (j + 1) = (m + j) + 1 from rfl]
    rw [nB_succ, nB_succ, ih, h1]; omega
theorem last_lst (s : ByteArray) (n : Nat) (hn : n ≤ s.size) : ∀ j, j ≤ n → Lib.lastIdx (s.extract 0 n) 10 j + 1 = (lst s j : Int)
  | 0, _ => rfl
  | j + 1, h => by
    have ih := last_lst s n hn j (by omega)
    have hb := bt_extract s 0 n j (by omega) hn
    rw [Nat.zero_add] at hb
    have sz : (s.extract 0 n).size = n := by rw [ByteArray.size_extract]; omega
    have e : (((s.extract 0 n).data[j]!).toNat : Int) = bt s j := by
      rw [← hb]
      unfold bt
      have e1 : ((j : Int)).toNat = j := rfl
      rw [dif_pos (by rw [e1, sz]; omega)]
      simp only [e1]
      have hj : j < (s.extract 0 n).data.size := by have : (s.extract 0 n).data.size = n := sz; omega
      rw [getElem!_pos (s.extract 0 n).data j hj]
      rfl
    unfold Lib.lastIdx lst
    rw [e]
    by_cases h10 : bt s j = 10
    · simp [h10]
    · simp [h10, ih]
theorem place_of (s : ByteArray) (hs : s.size ≤ 140737488351232) (a : Int) : Ev (fun k => place_Of.f k s a) (posA s (upto s a)) := by
  have hm : mx 0 (mn a (s.size : Int)) = (upto s a : Int) := by unfold upto mx mn; split <;> split <;> omega
  have hu := upto_le s a
  generalize upto s a = n at *
  have sz : (s.extract 0 n).size = n := by rw [ByteArray.size_extract]; omega
  have hl := last_lst s n hu n (Nat.le_refl _)
  have hll := lst_le s n
  have sz2 : ((s.extract 0 n).extract (lst s n) n).size = n - lst s n := by rw [ByteArray.size_extract]; omega
  have e1 := ends_loop (s.extract 0 n) (by omega) n 0 (by omega)
  have e2 := begins_loop ((s.extract 0 n).extract (lst s n) n) (by omega) (n - lst s n) 0 (by omega)
  rw [sz2] at e2
  rw [sz] at e1
  rw [nE_extract s n hu n (Nat.le_refl _)] at e1
  rw [nB_extract s (lst s n) n hll hu (n - lst s n) (by omega), show lst s n + (n - lst s n) = n by omega] at e2
  have bE := nE_bd s n
  have bB := nB_bd s n
  have bB2 := nB_bd s (lst s n)
  have hll2 : Lib.lastIndexByte (s.extract 0 n) 10 + 1 = (lst s n : Int) := by unfold Lib.lastIndexByte; rw [sz]; exact hl
  have hlast : wrap64 (Lib.lastIndexByte (s.extract 0 n) 10 + 1) = (lst s n : Int) := by
    rw [hll2, w64 (by omega) (by omega)]
  refine Ev.congr (f := fun k => (place_counted_place_ends.f k (s.extract 0 n)).bind fun t107 => (place_counted_place_begins.f k ((s.extract 0 n).extract (lst s n) n)).bind fun t108 => some (wrap64 (1 + t107), wrap64 (1 + t108))) (fun k => ?_) ?_
  · unfold place_Of.f
    rw [hm, if_pos (by omega), if_pos (by omega)]
    simp only [Int.toNat_natCast, strings_LastIndexByte.f]
    rw [if_pos (by omega)]
    simp only [Option.bind_some, hlast, sz, Int.toNat_natCast]
    congr 1
    funext t
    rw [if_pos (by omega), if_pos (by omega)]
  · refine Ev.bind (a := nE s n) (Ev.congr (fun k => ?_) e1) ?_
    · unfold place_counted_place_ends.f; rw [sz]; rfl
    refine Ev.bind (a := nB s n - nB s (lst s n)) (Ev.congr (fun k => ?_) e2) ?_
    · unfold place_counted_place_begins.f; rw [sz2]; rfl
    rw [posA_count, w64 (by omega) (by omega), w64 (by omega) (by omega)]
    exact Ev.now _
end Go.Proofs.Ytpaeefnepfppfaa.Xb
