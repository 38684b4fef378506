/- Which byte stands at a line and sign: place.At and the document's search come to the first byte with that line and sign; no Go and no memory. -/
import Derived.Test.YtpaeefnepfppfaaPlaceMath
namespace Go.Proofs.Ytpaeefnepfppfaa.Xb
open Go.RowKit Go.Proofs.YtpaeefnepfppfaaW.PrintWords Go.Proofs.YtpaeefnepfppfaaW.PrintLast Go.Proofs.YtpaeefnepfppfaaW.PrintMore
set_option linter.unusedVariables false
set_option linter.unusedSimpArgs false
theorem indexByte_spec (l : List UInt8) (c : UInt8) : (Lib.indexByte l c = -1 ∧ ∀ j : Nat, j < l.length → l.getD j 0 ≠ c) ∨
    ∃ i : Nat, i < l.length ∧ Lib.indexByte l c = (i : Int) ∧ l.getD i 0 = c ∧ ∀ j, j < i → l.getD j 0 ≠ c := by
  induction l with
  | nil => left; exact ⟨rfl, fun j h => by simp at h⟩
  | cons b l ih =>
    by_cases hb : b = c
    · right
      refine ⟨0, by simp, by simp [Lib.indexByte, hb], by simp [hb], fun j h => by omega⟩
    · have hb' : (b == c) = false := by simpa using hb
      rcases ih with ⟨h1, h2⟩ | ⟨i, h1, h2, h3, h4⟩
      · left
        refine ⟨by simp [Lib.indexByte, hb', h1], fun j hj => ?_⟩
        cases j with
        | zero => simpa using hb
        | succ j => simpa using h2 j (by simpa using hj)
      · right
        refine ⟨i + 1, by simpa using h1, ?_, by simpa using h3, fun j hj => ?_⟩
        · have hne : ((i : Int) == -1) = false := by
            rw [beq_eq_false_iff_ne]; omega
          simp [Lib.indexByte, hb', h2, hne]
        · cases j with
          | zero => simpa using hb
          | succ j => simpa using h4 j (by omega)
theorem getD_bt (t : ByteArray) (j : Nat) (h : j < t.size) : ((t.data.toList.getD j 0).toNat : Int) = bt t j := by
  have e1 : ((j : Int)).toNat = j := rfl
  unfold bt
  rw [dif_pos (by rw [e1]; exact h)]
  simp only [e1]
  have hj : j < t.data.toList.length := by simpa using h
  rw [List.getD_eq_getElem?_getD, List.getElem?_eq_getElem hj]
  rfl
/-- the next byte 10 behind p -/
theorem next_line (s : ByteArray) (p : Nat) (hp : p ≤ s.size) : (Lib.indexByte (s.extract p s.size).data.toList 10 = -1 ∧ ∀ j : Nat, p ≤ j → j < s.size → bt s j ≠ 10) ∨
    ∃ q : Nat, p ≤ q ∧ q < s.size ∧ Lib.indexByte (s.extract p s.size).data.toList 10 = ((q - p : Nat) : Int) ∧ bt s q = 10 ∧ ∀ j : Nat, p ≤ j → j < q → bt s j ≠ 10 := by
  have sz : (s.extract p s.size).size = s.size - p := by rw [ByteArray.size_extract]; omega
  have szl : (s.extract p s.size).data.toList.length = s.size - p := by rw [← sz]; rfl
  have hb : ∀ j, j < s.size - p → (((s.extract p s.size).data.toList.getD j 0).toNat : Int) = bt s ((p + j : Nat) : Int) := fun j hj => by
    rw [getD_bt _ _ (by omega), bt_extract s p s.size j (by omega) (Nat.le_refl _)]
  have ne : ∀ j, j < s.size - p → (s.extract p s.size).data.toList.getD j 0 ≠ 10 → bt s ((p + j : Nat) : Int) ≠ 10 := fun j hj h e => by
    rw [← hb j hj] at e
    apply h
    apply UInt8.toNat_inj.mp
    have e2 : ((s.extract p s.size).data.toList.getD j 0).toNat = 10 := by omega
    rw [e2]; rfl
  rcases indexByte_spec (s.extract p s.size).data.toList 10 with ⟨h1, h2⟩ | ⟨i, h1, h2, h3, h4⟩
  · left
    refine ⟨h1, fun j hj hl => ?_⟩
    have := ne (j - p) (by omega) (h2 (j - p) (by omega))
    rwa [show p + (j - p) = j by omega] at this
  · right
    refine ⟨p + i, by omega, by omega, by rw [h2]; congr 1; omega, ?_, fun j hj hl => ?_⟩
    · rw [← hb i (by omega), h3]; rfl
    · have := ne (j - p) (by omega) (h4 (j - p) (by omega))
      rwa [show p + (j - p) = j by omega] at this
/-- without a byte 10 between, the line is the same -/
theorem same_line (s : ByteArray) (p : Nat) : ∀ d, (∀ j : Nat, p ≤ j → j < p + d → bt s j ≠ 10) → (posA s (p + d)).1 = (posA s p).1
  | 0, _ => rfl
  | d + 1, h => by
    have ih := same_line s p d (fun j h1 h2 => h j h1 (by omega))
    rw [← Nat.add_assoc, posA_succ, if_neg (h (p + d) (by omega) (by omega))]
    split
    · exact ih
    · exact ih
/-- a byte that begins a line -/
def Head (s : ByteArray) (p : Nat) : Prop := p = 0 ∨ ∃ q, p = q + 1 ∧ bt s q = 10
theorem head_pos {s : ByteArray} {p : Nat} (h : Head s p) : (posA s p).2 = 1 := by
  rcases h with rfl | ⟨q, rfl, hq⟩
  · rfl
  · rw [posA_succ, if_pos hq]
theorem head_before {s : ByteArray} {p j : Nat} (h : Head s p) (hj : j < p) : (posA s j).1 < (posA s p).1 := by
  rcases h with rfl | ⟨q, rfl, hq⟩
  · omega
  · rw [posA_succ, if_pos hq]
    have := posA_mono s (show j ≤ q by omega)
    simp only; omega
/-- what begin tells -/
def BeginR (s : ByteArray) (line : Int) (r : Int × Bool) : Prop :=
  (∃ p : Nat, p ≤ s.size ∧ r = ((p : Int), decide (line ≥ 1)) ∧ Head s p ∧ (line ≥ 1 → (posA s p).1 = line)) ∨ (r = (0, false) ∧ ∀ j, j ≤ s.size → (posA s j).1 < line)
theorem begin_loop (s : ByteArray) (hs : s.size ≤ 140737488351232) (line : Int) : ∀ (d p : Nat), s.size - p ≤ d → p ≤ s.size → Head s p → (posA s p).1 ≤ line →
    ∃ r, Ev (fun k => place_begin.l0 k s line (p : Int) (posA s p).1) r ∧ BeginR s line r := by
  intro d
  induction d with
  | zero =>
    intro p hd hp hh hl
    have bd := posA_bd s p
    by_cases h : (posA s p).1 < line
    · refine ⟨(0, false), Ev.step (f := fun _ => some (0, false)) (fun k => ?_) (Ev.now _), .inr ⟨rfl, fun j hj => ?_⟩⟩
      · simp only [place_begin.l0]
        rw [if_pos h, if_pos (by omega), if_pos (by omega)]
        rcases next_line s p hp with ⟨h1, _⟩ | ⟨q, h1, h2, _⟩
        · simp only [strings_IndexByte.f, Int.toNat_natCast]
          rw [show (Int.toNat 10).toUInt8 = 10 from rfl, h1]
          simp
        · omega
      · have := posA_mono s (show j ≤ p by omega); omega
    · refine ⟨((p : Int), decide (line ≥ 1)), Ev.step (f := fun _ => some ((p : Int), decide (line ≥ 1))) (fun k => ?_) (Ev.now _), .inl ⟨p, hp, rfl, hh, fun _ => by omega⟩⟩
      simp only [place_begin.l0]
      rw [if_neg h]
  | succ d ih =>
    intro p hd hp hh hl
    have bd := posA_bd s p
    by_cases h : (posA s p).1 < line
    · rcases next_line s p hp with ⟨h1, h2⟩ | ⟨q, h1, h2, h3, h4, h5⟩
      · refine ⟨(0, false), Ev.step (f := fun _ => some (0, false)) (fun k => ?_) (Ev.now _), .inr ⟨rfl, fun j hj => ?_⟩⟩
        · simp only [place_begin.l0]
          rw [if_pos h, if_pos (by omega), if_pos (by omega)]
          simp only [strings_IndexByte.f, Int.toNat_natCast]
          rw [show (Int.toNat 10).toUInt8 = 10 from rfl, h1]
          simp
        · by_cases hjp : j ≤ p
          · have := posA_mono s hjp; omega
          · have := same_line s p (j - p) (fun i hi1 hi2 => h2 i hi1 (by omega))
            rw [show p + (j - p) = j by omega] at this
            omega
      · have hq := same_line s p (q - p) (fun i hi1 hi2 => h5 i hi1 (by omega))
        rw [show p + (q - p) = q by omega] at hq
        have hp1 : posA s (q + 1) = ((posA s p).1 + 1, 1) := by rw [posA_succ, if_pos h4, hq]
        obtain ⟨r, hr, hR⟩ := ih (q + 1) (by omega) (by omega) (.inr ⟨q, rfl, h4⟩) (by rw [hp1]; simp only; omega)
        refine ⟨r, Ev.step (f := fun k => place_begin.l0 k s line ((q + 1 : Nat) : Int) (posA s (q + 1)).1) (fun k => ?_) hr, hR⟩
        simp only [place_begin.l0]
        rw [if_pos h, if_pos (by omega), if_pos (by omega)]
        simp only [strings_IndexByte.f, Int.toNat_natCast]
        rw [show (Int.toNat 10).toUInt8 = 10 from rfl, h3]
        simp only [Option.bind_some]
        rw [if_neg (by omega), hp1, w64 (x := ((q - p : Nat) : Int) + 1) (by omega) (by omega), w64 (by omega) (by omega), w64 (by omega) (by omega)]
        congr 1
        omega
    · refine ⟨((p : Int), decide (line ≥ 1)), Ev.step (f := fun _ => some ((p : Int), decide (line ≥ 1))) (fun k => ?_) (Ev.now _), .inl ⟨p, hp, rfl, hh, fun _ => by omega⟩⟩
      simp only [place_begin.l0]
      rw [if_neg h]
theorem begin_tells (s : ByteArray) (hs : s.size ≤ 140737488351232) (line : Int) : ∃ r, Ev (fun k => place_begin.f k s line) r ∧ BeginR s line r := by
  by_cases h : 1 ≤ line
  · exact begin_loop s hs line s.size 0 (by omega) (by omega) (.inl rfl) (by simpa [posA] using h)
  · refine ⟨(0, decide (line ≥ 1)), Ev.step (f := fun _ => some (0, decide (line ≥ 1))) (fun k => ?_) (Ev.now _), .inl ⟨0, by omega, rfl, .inl rfl, fun h' => by omega⟩⟩
    unfold place_begin.f
    simp only [place_begin.l0]
    rw [if_neg (by omega)]
/-- the first byte with that line and sign, or none -/
def AtR (s : ByteArray) (line sign : Int) (r : Int × Bool) : Prop :=
  (∃ n : Nat, n ≤ s.size ∧ r = ((n : Int), true) ∧ posA s n = (line, sign) ∧ ∀ j, j < n → posA s j ≠ (line, sign)) ∨ (r = (0, false) ∧ ∀ j, j ≤ s.size → posA s j ≠ (line, sign))
theorem no_before {s : ByteArray} {p : Nat} {line sign : Int} (hh : Head s p) (hln : (posA s p).1 = line) (j : Nat) (hj : j < p) : posA s j ≠ (line, sign) := fun e => by
  have := head_before hh hj
  rw [e, hln] at this; simp only at this; omega
theorem none_all {s : ByteArray} {p i : Nat} {line sign : Int} (hh : Head s p) (hln : (posA s p).1 = line) (hns : ∀ j, p ≤ j → j < i → (posA s j).2 ≠ sign) (j : Nat) (hj : j < i) : posA s j ≠ (line, sign) := by
  by_cases hjp : j < p
  · exact no_before hh hln j hjp
  · intro e
    exact hns j (by omega) hj (by rw [e])
/-- behind the count: the byte is found, or the line ends, or the next one is looked at -/
theorem at_after (s : ByteArray) (hs : s.size ≤ 140737488351232) (line sign : Int) (p i : Nat) (hpi : p ≤ i) (hi : i ≤ s.size) (hh : Head s p) (hln : (posA s p).1 = line) (hline : (posA s i).1 = line)
    (hns : ∀ j, p ≤ j → j < i → (posA s j).2 ≠ sign) (m : Int) (hm : m = sign - ((posA s i).2 - 1))
    (next : i < s.size → bt s i ≠ 10 → (posA s i).2 ≠ sign → ∃ r, Ev (fun k => place_At.l0 k s (p : Int) m ((i + 1 : Nat) : Int)) r ∧ AtR s line sign r) :
    ∃ r, Ev (fun k => place_At.j3 k s (p : Int) m (i : Int)) r ∧ AtR s line sign r := by
  have w1 : wrap64 ((i : Int) + 1) = ((i + 1 : Nat) : Int) := by rw [w64 (by omega) (by omega)]; rfl
  by_cases h1 : m = 1
  · refine ⟨((i : Int), true), Ev.step (f := fun _ => some ((i : Int), true)) (fun k => ?_) (Ev.now _), .inl ⟨i, hi, rfl, Prod.ext hline (by simp only; omega), none_all hh hln hns⟩⟩
    simp only [place_At.j3]
    rw [if_pos h1]
  · have hne : (posA s i).2 ≠ sign := by omega
    have hns' : ∀ j, p ≤ j → j < i + 1 → (posA s j).2 ≠ sign := fun j hj1 hj2 => by
      rcases Nat.lt_or_ge j i with hji | hji
      · exact hns j hj1 hji
      · rw [show j = i by omega]; exact hne
    by_cases hlt : i < s.size
    · by_cases h10 : bt s i = 10
      · refine ⟨(0, false), Ev.step (f := fun _ => some (0, false)) (fun k => ?_) (Ev.now _), .inr ⟨rfl, fun j hj => ?_⟩⟩
        · simp only [place_At.j3]
          rw [if_neg h1, if_pos (by omega), if_pos (by omega)]
          simp [place_ends.f, h10]
        · rcases Nat.lt_or_ge j (i + 1) with hji | hji
          · exact none_all hh hln hns' j hji
          · intro e
            have := posA_mono s hji
            rw [posA_succ, if_pos h10, e] at this
            simp only at this; omega
      · obtain ⟨r, hr, hR⟩ := next hlt h10 hne
        refine ⟨r, Ev.step (f := fun k => place_At.l0 k s (p : Int) m ((i + 1 : Nat) : Int)) (fun k => ?_) hr, hR⟩
        simp only [place_At.j3]
        rw [if_neg h1, if_pos (by omega), if_pos (by omega), w1]
        have : (bt s i == 10) = false := by simpa using h10
        simp [place_ends.f, this]
    · have e : ∀ k, place_At.j3 (k + 1) s (p : Int) m (i : Int) = place_At.l0 k s (p : Int) m ((i + 1 : Nat) : Int) := fun k => by
        simp only [place_At.j3]
        rw [if_neg h1, if_neg (by omega), w1]
      refine ⟨(0, false), Ev.step e (Ev.step (f := fun _ => some (0, false)) (fun k => ?_) (Ev.now _)), .inr ⟨rfl, fun j hj => ?_⟩⟩
      · simp only [place_At.l0]
        rw [if_neg (by omega)]
      · exact none_all hh hln hns' j (by omega)
theorem at_two (s : ByteArray) (line sign : Int) (p : Nat) (x i : Int) (m : Int) (t : Bool) (m' : Int) (hm : m' = if t then m - 1 else m) (h0 : -9223372036854775808 ≤ m') (h1 : m' < 9223372036854775808)
    (h : ∃ r, Ev (fun k => place_At.j3 k s x m' i) r ∧ AtR s line sign r) : ∃ r, Ev (fun k => place_At.j2 k s x m i t) r ∧ AtR s line sign r := by
  obtain ⟨r, hr, hR⟩ := h
  refine ⟨r, Ev.step (f := fun k => place_At.j3 k s x m' i) (fun k => ?_) hr, hR⟩
  simp only [place_At.j2]
  cases t with
  | true => rw [if_pos rfl] at hm; subst hm; rw [if_pos rfl, w64 h0 h1]
  | false => rw [if_neg (by simp)] at hm; subst hm; rw [if_neg (by simp)]
/-- what is left of the count when byte i is come to -/
def left (s : ByteArray) (sign : Int) (p i : Nat) : Int := if i = p then sign else sign - ((posA s (i - 1)).2 - 1)
theorem at_loop (s : ByteArray) (hs : s.size ≤ 140737488351232) (line sign : Int) (hsg : 1 ≤ sign) (hsg2 : sign ≤ 9223372036854775807) (p : Nat) (hp : p ≤ s.size) (hh : Head s p) (hln : (posA s p).1 = line) :
    ∀ (d i : Nat), i + d = s.size + 1 → p ≤ i → (∀ j : Nat, p ≤ j → j < i → bt s j ≠ 10) → (∀ j, p ≤ j → j < i → (posA s j).2 ≠ sign) →
    ∃ r, Ev (fun k => place_At.l0 k s (p : Int) (left s sign p i) (i : Int)) r ∧ AtR s line sign r := by
  intro d
  induction d with
  | zero =>
    intro i hi hpi hnl hns
    refine ⟨(0, false), Ev.step (f := fun _ => some (0, false)) (fun k => ?_) (Ev.now _), .inr ⟨rfl, fun j hj => none_all hh hln hns j (by omega)⟩⟩
    simp only [place_At.l0]
    rw [if_neg (by omega)]
  | succ d ih =>
    intro i hi hpi hnl hns
    have hline : (posA s i).1 = line := by
      have := same_line s p (i - p) (fun j h1 h2 => hnl j h1 (by omega))
      rw [show p + (i - p) = i by omega] at this
      omega
    have bd := posA_bd s i
    have after := at_after s hs line sign p i hpi (by omega) hh hln hline hns (sign - ((posA s i).2 - 1)) rfl (fun hlt h10 hne => by
      have := ih (i + 1) (by omega) (by omega) (fun j h1 h2 => by
        rcases Nat.lt_or_ge j i with hji | hji
        · exact hnl j h1 hji
        · rw [show j = i by omega]; exact h10) (fun j h1 h2 => by
        rcases Nat.lt_or_ge j i with hji | hji
        · exact hns j h1 hji
        · rw [show j = i by omega]; exact hne)
      have hl : left s sign p (i + 1) = sign - ((posA s i).2 - 1) := by
        unfold left; rw [if_neg (by omega), Nat.add_sub_cancel]
      rw [hl] at this
      exact this)
    clear ih
    by_cases hip : i = p
    · have hl : left s sign p i = sign := by unfold left; rw [if_pos hip]
      have hone : (posA s i).2 = 1 := by rw [hip]; exact head_pos hh
      obtain ⟨r, hr, hR⟩ := at_two s line sign p (p : Int) (i : Int) sign false _ (by rw [if_neg (by simp), hone]; omega) (by omega) (by omega) after
      refine ⟨r, Ev.step (f := fun k => place_At.j2 k s (p : Int) sign (i : Int) false) (fun k => ?_) hr, hR⟩
      simp only [place_At.l0, hl]
      rw [if_pos (by omega), if_neg (by omega)]
    · obtain ⟨q, rfl⟩ : ∃ q, i = q + 1 := ⟨i - 1, by omega⟩
      have hl : left s sign p (q + 1) = sign - ((posA s q).2 - 1) := by unfold left; rw [if_neg hip, Nat.add_sub_cancel]
      have hq10 := hnl q (by omega) (by omega)
      have hps := posA_succ s q
      rw [if_neg hq10] at hps
      have wq : wrap64 (((q + 1 : Nat) : Int) - 1) = (q : Int) := by rw [w64 (by omega) (by omega)]; omega
      by_cases hb : bt s q < 128 ∨ bt s q > 191
      · rw [if_pos hb] at hps
        have h2 : (posA s (q + 1)).2 = (posA s q).2 + 1 := by rw [hps]
        obtain ⟨r, hr, hR⟩ := at_two s line sign p (p : Int) ((q + 1 : Nat) : Int) (sign - ((posA s q).2 - 1)) true _ (by rw [if_pos rfl, h2]; omega) (by omega) (by omega) after
        refine ⟨r, Ev.step (f := fun k => place_At.j2 k s (p : Int) (sign - ((posA s q).2 - 1)) ((q + 1 : Nat) : Int) true) (fun k => ?_) hr, hR⟩
        simp only [place_At.l0, hl]
        rw [if_pos (by omega), if_pos (by omega), wq, if_pos (by omega), if_pos (by omega)]
        unfold place_begins.f
        by_cases h1 : bt s q < 128
        · rw [if_pos h1]; rfl
        · rw [if_neg h1, decide_eq_true (show bt s q > 191 by omega)]; rfl
      · rw [if_neg hb] at hps
        have h2 : (posA s (q + 1)).2 = (posA s q).2 := by rw [hps]
        obtain ⟨r, hr, hR⟩ := at_two s line sign p (p : Int) ((q + 1 : Nat) : Int) (sign - ((posA s q).2 - 1)) false _ (by rw [if_neg (by simp), h2]) (by omega) (by omega) after
        refine ⟨r, Ev.step (f := fun k => place_At.j2 k s (p : Int) (sign - ((posA s q).2 - 1)) ((q + 1 : Nat) : Int) false) (fun k => ?_) hr, hR⟩
        simp only [place_At.l0, hl]
        rw [if_pos (by omega), if_pos (by omega), wq, if_pos (by omega), if_pos (by omega)]
        unfold place_begins.f
        rw [if_neg (by omega), decide_eq_false (show ¬ bt s q > 191 by omega)]; rfl
theorem at_tells (s : ByteArray) (hs : s.size ≤ 140737488351232) (line sign : Int) (h2 : sign ≤ 9223372036854775807) : ∃ r, Ev (fun k => place_At.f k s line sign) r ∧ AtR s line sign r := by
  have none_ : line < 1 ∨ sign < 1 → AtR s line sign (0, false) := fun h => .inr ⟨rfl, fun j _ e => by
    have := posA_bd s j
    rw [e] at this; simp only at this; omega⟩
  by_cases hl : line < 1
  · refine ⟨(0, false), Ev.congr (f := fun k => place_At.j0 k s line sign true) (fun k => ?_) (Ev.step (f := fun _ => some (0, false)) (fun k => ?_) (Ev.now _)), none_ (.inl hl)⟩
    · unfold place_At.f; rw [if_pos hl]
    · simp only [place_At.j0]; rw [if_pos trivial]
  · by_cases hg : sign < 1
    · refine ⟨(0, false), Ev.congr (f := fun k => place_At.j0 k s line sign true) (fun k => ?_) (Ev.step (f := fun _ => some (0, false)) (fun k => ?_) (Ev.now _)), none_ (.inr hg)⟩
      · unfold place_At.f; rw [if_neg hl, decide_eq_true hg]
      · simp only [place_At.j0]; rw [if_pos trivial]
    · obtain ⟨rb, hb, hB⟩ := begin_tells s hs line
      have e : ∀ k, place_At.f k s line sign = place_At.j0 k s line sign false := fun k => by unfold place_At.f; rw [if_neg hl, decide_eq_false hg]
      rcases hB with ⟨p, hp, rfl, hh, hln⟩ | ⟨rfl, hno⟩
      · have hd : decide (line ≥ 1) = true := decide_eq_true (by omega)
        rw [hd] at hb
        obtain ⟨r, hr, hR⟩ := at_loop s hs line sign (by omega) h2 p hp hh (hln (by omega)) (s.size + 1 - p) p (by omega) (Nat.le_refl _) (fun j h1 h2 => by omega) (fun j h1 h2 => by omega)
        rw [show left s sign p p = sign by unfold left; rw [if_pos rfl]] at hr
        refine ⟨r, Ev.congr e (Ev.step (f := fun k => (place_begin.f k s line).bind fun bt112 => (if bt112.2 = true then (place_At.l0 k s bt112.1 sign bt112.1) else (some (0, false)))) (fun k => ?_) (Ev.bind hb ?_)), hR⟩
        · simp only [place_At.j0]; rw [if_neg (by simp)]
        · simpa using hr
      · refine ⟨(0, false), Ev.congr e (Ev.step (f := fun k => (place_begin.f k s line).bind fun bt112 => (if bt112.2 = true then (place_At.l0 k s bt112.1 sign bt112.1) else (some (0, false)))) (fun k => ?_) (Ev.bind hb ?_)), .inr ⟨rfl, fun j hj e => ?_⟩⟩
        · simp only [place_At.j0]; rw [if_neg (by simp)]
        · simpa using Ev.now (0, false)
        · have := hno j hj
          rw [e] at this; simp only at this; omega
end Go.Proofs.Ytpaeefnepfppfaa.Xb
