/- The lines of a text: place.Line and the document's list of lines come to the same pieces; and the document's search for a byte; no Go and no memory. -/
import Derived.Test.YtpaeefnepfppfaaPlaceAt
namespace Go.Proofs.Ytpaeefnepfppfaa.Xb
open Go.RowKit Go.Proofs.YtpaeefnepfppfaaW.PrintWords Go.Proofs.YtpaeefnepfppfaaW.PrintLast Go.Proofs.YtpaeefnepfppfaaW.PrintMore
set_option linter.unusedVariables false
set_option linter.unusedSimpArgs false
theorem ref_at_loop (s : ByteArray) (hs : s.size ≤ 140737488351232) (line sign : Int) : ∀ (d i : Nat), i + d = s.size + 1 → (∀ j, j < i → posA s j ≠ (line, sign)) →
    ∃ r, Ev (fun k => riffleref39_At.l0 k s line sign (i : Int)) r ∧ ((∃ n : Nat, n ≤ s.size ∧ r = (n : Int) ∧ posA s n = (line, sign) ∧ ∀ j, j < n → posA s j ≠ (line, sign)) ∨ (r = -1 ∧ ∀ j, j ≤ s.size → posA s j ≠ (line, sign))) := by
  intro d
  induction d with
  | zero =>
    intro i hi hno
    refine ⟨-1, Ev.step (f := fun _ => some (-1)) (fun k => ?_) (Ev.now _), .inr ⟨rfl, fun j hj => hno j (by omega)⟩⟩
    simp only [riffleref39_At.l0]
    rw [if_neg (by omega)]
  | succ d ih =>
    intro i hi hno
    have hof := ref_of s hs (i : Int)
    rw [upto_nat s i (by omega)] at hof
    have w1 : wrap64 ((i : Int) + 1) = ((i + 1 : Nat) : Int) := by rw [w64 (by omega) (by omega)]; rfl
    have e : ∀ k, riffleref39_At.l0 (k + 1) s line sign (i : Int) = (riffleref39_Of.f k s (i : Int)).bind fun b => if b.1 = line then (if b.2 = sign then some (i : Int) else riffleref39_At.l0 k s line sign ((i + 1 : Nat) : Int)) else riffleref39_At.l0 k s line sign ((i + 1 : Nat) : Int) := fun k => by
      simp only [riffleref39_At.l0]
      rw [if_pos (by omega), w1]
    by_cases h : posA s i = (line, sign)
    · refine ⟨(i : Int), Ev.step e (Ev.bind hof ?_), .inl ⟨i, by omega, rfl, h, hno⟩⟩
      rw [h]
      simpa using Ev.now (i : Int)
    · obtain ⟨r, hr, hR⟩ := ih (i + 1) (by omega) (fun j hj => by
        rcases Nat.lt_or_ge j i with hji | hji
        · exact hno j hji
        · rw [show j = i by omega]; exact h)
      refine ⟨r, Ev.step e (Ev.bind hof ?_), hR⟩
      by_cases h1 : (posA s i).1 = line
      · have h2 : (posA s i).2 ≠ sign := fun h2 => h (Prod.ext h1 h2)
        exact Ev.congr (fun k => by rw [if_pos h1, if_neg h2]) hr
      · exact Ev.congr (fun k => by rw [if_neg h1]) hr
theorem ref_at (s : ByteArray) (hs : s.size ≤ 140737488351232) (line sign : Int) :
    ∃ r, Ev (fun k => riffleref39_At.f k s line sign) r ∧ ((∃ n : Nat, n ≤ s.size ∧ r = (n : Int) ∧ posA s n = (line, sign) ∧ ∀ j, j < n → posA s j ≠ (line, sign)) ∨ (r = -1 ∧ ∀ j, j ≤ s.size → posA s j ≠ (line, sign))) :=
  ref_at_loop s hs line sign (s.size + 1) 0 (by omega) (fun j hj => by omega)
/-- two searches for one place -/
theorem at_both (s : ByteArray) (hs : s.size ≤ 140737488351232) (line sign : Int) (h2 : sign ≤ 9223372036854775807) :
    ∃ n ok want, Ev (fun k => place_At.f k s line sign) (n, ok) ∧ Ev (fun k => riffleref39_At.f k s line sign) want ∧ n = mx want 0 ∧ ok = decide (want ≥ 0) := by
  obtain ⟨⟨n, ok⟩, hr, hR⟩ := at_tells s hs line sign h2
  obtain ⟨want, hw, hW⟩ := ref_at s hs line sign
  refine ⟨n, ok, want, hr, hw, ?_⟩
  rcases hR with ⟨i, hi, he, hp, hf⟩ | ⟨he, hno⟩
  · obtain ⟨rfl, rfl⟩ := Prod.mk.inj he
    rcases hW with ⟨j, hj, rfl, hq, hg⟩ | ⟨_, hno⟩
    · have hij : i = j := by
        rcases Nat.lt_or_ge i j with h | h
        · exact absurd hp (hg i h)
        · rcases Nat.lt_or_ge j i with h' | h'
          · exact absurd hq (hf j h')
          · omega
      subst hij
      constructor
      · unfold mx; split <;> omega
      · rw [decide_eq_true (by omega)]
    · exact absurd hp (hno i hi)
  · obtain ⟨rfl, rfl⟩ := Prod.mk.inj he
    rcases hW with ⟨j, hj, _, hq, _⟩ | ⟨rfl, _⟩
    · exact absurd hq (hno j hj)
    · constructor
      · unfold mx; split <;> omega
      · rw [decide_eq_false (by omega)]

/-! lines -/
def LineAt (s : ByteArray) (L : Int) (t : ByteArray) : Prop :=
  ∃ p q : Nat, Head s p ∧ (posA s p).1 = L ∧ p ≤ q ∧ q ≤ s.size ∧ (∀ j : Nat, p ≤ j → j < q → bt s j ≠ 10) ∧ (q = s.size ∨ q < s.size ∧ bt s q = 10) ∧ t = s.extract p q
theorem LineAt.one {s : ByteArray} {L : Int} {t t' : ByteArray} (h : LineAt s L t) (h' : LineAt s L t') : t = t' := by
  obtain ⟨p, q, h1, h2, h3, h4, h5, h6, rfl⟩ := h
  obtain ⟨p', q', h1', h2', h3', h4', h5', h6', rfl⟩ := h'
  have hp : p = p' := by
    rcases Nat.lt_or_ge p p' with h | h
    · have := head_before h1' h; omega
    · rcases Nat.lt_or_ge p' p with h' | h'
      · have := head_before h1 h'; omega
      · omega
  subst hp
  have hq : q = q' := by
    rcases Nat.lt_or_ge q q' with h | h
    · rcases h6 with h6 | ⟨_, h6⟩
      · omega
      · exact absurd h6 (h5' q (by omega) h)
    · rcases Nat.lt_or_ge q' q with h' | h'
      · rcases h6' with h6' | ⟨_, h6'⟩
        · omega
        · exact absurd h6' (h5 q' (by omega) h')
      · omega
  subst hq
  rfl
theorem lst_head (s : ByteArray) : ∀ i, Head s (lst s i) ∧ ∀ j : Nat, lst s i ≤ j → j < i → bt s j ≠ 10
  | 0 => ⟨.inl rfl, fun j _ h => by omega⟩
  | i + 1 => by
    have ih := lst_head s i
    rw [lst_succ]
    by_cases h : bt s i = 10
    · rw [if_pos h]; exact ⟨.inr ⟨i, rfl, h⟩, fun j h1 h2 => by omega⟩
    · rw [if_neg h]
      refine ⟨ih.1, fun j h1 h2 => ?_⟩
      rcases Nat.lt_or_ge j i with hj | hj
      · exact ih.2 j h1 hj
      · rw [show j = i by omega]; exact h
theorem lst_line (s : ByteArray) (i : Nat) : (posA s (lst s i)).1 = (posA s i).1 := by
  have hl := lst_le s i
  have := same_line s (lst s i) (i - lst s i) (fun j h1 h2 => (lst_head s i).2 j h1 (by omega))
  rw [show lst s i + (i - lst s i) = i by omega] at this
  exact this.symm
theorem extract_snoc (s : ByteArray) (p i : Nat) (hp : p ≤ i) (hi : i < s.size) : s.extract p i ++ s.extract i (i + 1) = s.extract p (i + 1) := by
  apply ByteArray.ext
  simp only [ByteArray.data_append, ByteArray.data_extract]
  rw [Array.extract_append_extract]
  congr 1
  · omega
  · omega
theorem rdOf_nat {α : Type} (d : α) (l : List α) (i : Nat) : rdOf d l (i : Int) = l.getD i d := by unfold rdOf; rw [Int.toNat_natCast]
/-- the list of lines when i bytes were read -/
def LinesI (s : ByteArray) (i : Nat) (l : List ByteArray) : Prop :=
  (l.length : Int) = (posA s i).1 ∧ (∀ j : Nat, j + 1 < l.length → LineAt s ((j : Int) + 1) (l.getD j ByteArray.empty)) ∧ l.getD (l.length - 1) ByteArray.empty = s.extract (lst s i) i
theorem lines_loop (s : ByteArray) (hs : s.size ≤ 300) : ∀ (d i : Nat), i + d = s.size → ∀ l, LinesI s i l → ∃ r, Ev (fun k => riffleref39_Lines.l0 k s l (i : Int)) r ∧ LinesI s s.size r := by
  intro d
  induction d with
  | zero =>
    intro i hi l hl
    obtain rfl : i = s.size := by omega
    refine ⟨l, Ev.step (f := fun _ => some l) (fun k => ?_) (Ev.now _), hl⟩
    simp only [riffleref39_Lines.l0]
    rw [if_neg (by omega)]
  | succ d ih =>
    intro i hi l hl
    obtain ⟨h1, h2, h3⟩ := hl
    have bd := posA_bd s i
    have w1 : wrap64 ((i : Int) + 1) = ((i + 1 : Nat) : Int) := by rw [w64 (by omega) (by omega)]; rfl
    by_cases h10 : bt s i = 10
    · have hl' : LinesI s (i + 1) (l ++ [(⟨#[]⟩ : ByteArray)]) := by
        refine ⟨by rw [posA_succ, if_pos h10]; simp only [List.length_append, List.length_cons, List.length_nil]; omega, fun j hj => ?_, ?_⟩
        · simp only [List.length_append, List.length_cons, List.length_nil] at hj
          rw [List.getD_eq_getElem?_getD, List.getElem?_append_left (by omega), ← List.getD_eq_getElem?_getD]
          rcases Nat.lt_or_ge (j + 1) l.length with hjl | hjl
          · exact h2 j hjl
          · have hj1 : j = l.length - 1 := by omega
            rw [hj1, h3]
            have hh := lst_head s i
            exact ⟨lst s i, i, hh.1, by rw [lst_line]; omega, lst_le s i, by omega, hh.2, .inr ⟨by omega, h10⟩, rfl⟩
        · simp only [List.length_append, List.length_cons, List.length_nil]
          rw [show l.length + (0 + 1) - 1 = l.length by omega, List.getD_eq_getElem?_getD, List.getElem?_append_right (by omega), lst_succ, if_pos h10]
          simp only [Nat.sub_self, List.getElem?_cons_zero, Option.getD_some]
          apply ByteArray.ext
          rw [ByteArray.data_extract]
          simp
          omega
      obtain ⟨r, hr, hR⟩ := ih (i + 1) (by omega) _ hl'
      refine ⟨r, Ev.step (f := fun k => riffleref39_Lines.l0 k s (l ++ [(⟨#[]⟩ : ByteArray)]) ((i + 1 : Nat) : Int)) (fun k => ?_) hr, hR⟩
      simp only [riffleref39_Lines.l0]
      rw [if_pos (by omega), if_pos (by omega), if_pos h10, if_pos (by omega), w1]
    · have hlen : 0 < l.length := by omega
      have hsz : (s.extract (lst s i) i).size ≤ 300 := by rw [ByteArray.size_extract]; omega
      have hsn := extract_snoc s (lst s i) i (lst_le s i) (by omega)
      have hl' : LinesI s (i + 1) (l.set (l.length - 1) (s.extract (lst s i) (i + 1))) := by
        refine ⟨?_, fun j hj => ?_, ?_⟩
        · rw [List.length_set, posA_succ, if_neg h10]
          split
          · exact h1
          · exact h1
        · rw [List.length_set] at hj
          rw [List.getD_eq_getElem?_getD, List.getElem?_set_ne (by omega), ← List.getD_eq_getElem?_getD]
          exact h2 j hj
        · rw [List.length_set, List.getD_eq_getElem?_getD, List.getElem?_set_self (by omega), lst_succ, if_neg h10]; rfl
      obtain ⟨r, hr, hR⟩ := ih (i + 1) (by omega) _ hl'
      refine ⟨r, Ev.step (f := fun k => riffleref39_Lines.l0 k s (l.set (l.length - 1) (s.extract (lst s i) (i + 1))) ((i + 1 : Nat) : Int)) (fun k => ?_) hr, hR⟩
      have wl : wrap64 ((l.length : Int) - 1) = ((l.length - 1 : Nat) : Int) := by rw [w64 (by omega) (by omega)]; omega
      simp only [riffleref39_Lines.l0]
      rw [if_pos (by omega), if_pos (by omega), if_neg h10, wl, if_pos (by omega), if_pos (by omega), w1, if_pos (by omega), if_pos (by omega), rdOf_nat, h3]
      simp only [Int.toNat_natCast]
      rw [if_pos (by rw [ByteArray.size_extract, ByteArray.size_extract]; omega), hsn]
theorem lines_all (s : ByteArray) (hs : s.size ≤ 300) : ∃ r, Ev (fun k => riffleref39_Lines.f k s) r ∧ LinesI s s.size r :=
  lines_loop s hs s.size 0 (by omega) [(⟨#[]⟩ : ByteArray)] ⟨by simp [posA], fun j hj => by simp at hj, by
    apply ByteArray.ext
    simp [lst]⟩
theorem LinesI.at {s : ByteArray} {l : List ByteArray} (h : LinesI s s.size l) (L : Int) (h1 : 1 ≤ L) (h2 : L ≤ (l.length : Int)) : LineAt s L (l.getD (L - 1).toNat ByteArray.empty) := by
  obtain ⟨g1, g2, g3⟩ := h
  rcases Nat.lt_or_ge ((L - 1).toNat + 1) l.length with hl | hl
  · have := g2 (L - 1).toNat hl
    rwa [show (((L - 1).toNat : Nat) : Int) + 1 = L by omega] at this
  · rw [show (L - 1).toNat = l.length - 1 by omega, g3]
    have hh := lst_head s s.size
    exact ⟨lst s s.size, s.size, hh.1, by rw [lst_line]; omega, lst_le s _, Nat.le_refl _, hh.2, .inl rfl, rfl⟩
theorem index_one (l : List UInt8) (c : UInt8) : Lib.index l [c] = Lib.indexByte l c := by
  induction l with
  | nil => rfl
  | cons b l ih =>
    unfold Lib.index Lib.indexByte
    rw [ih]
    simp only [List.isPrefixOf, Bool.and_true]
    by_cases h : b = c
    · simp [h]
    · have h1 : (b == c) = false := by simpa using h
      have h2 : (c == b) = false := by simpa using fun e => h e.symm
      simp only [h1, h2]
theorem place_line (s : ByteArray) (hs : s.size ≤ 300) (L : Int) : ∃ t ok, Ev (fun k => place_Line.f k s L) (t, ok) ∧ ((ok = true ∧ 1 ≤ L ∧ L ≤ (posA s s.size).1 ∧ LineAt s L t) ∨ (ok = false ∧ t = ⟨#[]⟩ ∧ (L < 1 ∨ (posA s s.size).1 < L))) := by
  obtain ⟨rb, hb, hB⟩ := begin_tells s (by omega) L
  rcases hB with ⟨p, hp, rfl, hh, hln⟩ | ⟨rfl, hno⟩
  · by_cases h1 : L ≥ 1
    · rw [decide_eq_true h1] at hb
      have hcut : ∃ q : Nat, p ≤ q ∧ q ≤ s.size ∧ (∀ j : Nat, p ≤ j → j < q → bt s j ≠ 10) ∧ (q = s.size ∨ q < s.size ∧ bt s q = 10) ∧ (⟨(Lib.cut (s.extract p s.size).data.toList [10]).1.toArray⟩ : ByteArray) = s.extract p q := by
        rcases next_line s p hp with ⟨i1, i2⟩ | ⟨q, i1, i2, i3, i4, i5⟩
        · refine ⟨s.size, hp, Nat.le_refl _, i2, .inl rfl, ?_⟩
          unfold Lib.cut
          rw [index_one, i1, if_neg (by omega)]
        · refine ⟨q, i1, by omega, i5, .inr ⟨i2, i4⟩, ?_⟩
          unfold Lib.cut
          rw [index_one, i3, if_pos (by omega)]
          apply ByteArray.ext
          simp only [Int.toNat_natCast, ByteArray.data_extract, Array.toList_extract]
          rw [List.extract_eq_take_drop]
          apply Array.ext'
          simp only [Array.toList_extract, List.extract_eq_take_drop]
          rw [List.take_take]
          congr 1
          omega
      obtain ⟨q, q1, q2, q3, q4, q5⟩ := hcut
      refine ⟨s.extract p q, true, Ev.bind hb ?_, .inl ⟨rfl, h1, ?_, p, q, hh, hln h1, q1, q2, q3, q4, rfl⟩⟩
      · refine Ev.congr (f := fun _ => some (s.extract p q, true)) (fun k => ?_) (Ev.now _)
        simp only [if_true]
        rw [if_pos (by omega), if_pos (by omega)]
        unfold strings_Cut.f
        simp only [Int.toNat_natCast]
        rw [if_pos (by rw [ByteArray.size_extract]; omega)]
        simp only [Option.bind_some, q5]
      · have := posA_mono s hp
        rw [hln h1] at this; omega
    · rw [decide_eq_false h1] at hb
      refine ⟨⟨#[]⟩, false, Ev.bind hb ?_, .inr ⟨rfl, rfl, .inl (by omega)⟩⟩
      exact Ev.congr (f := fun _ => some ((⟨#[]⟩ : ByteArray), false)) (fun k => by simp) (Ev.now _)
  · refine ⟨⟨#[]⟩, false, Ev.bind hb ?_, .inr ⟨rfl, rfl, .inr (hno s.size (Nat.le_refl _))⟩⟩
    exact Ev.congr (f := fun _ => some ((⟨#[]⟩ : ByteArray), false)) (fun k => by simp) (Ev.now _)
end Go.Proofs.Ytpaeefnepfppfaa.Xb
