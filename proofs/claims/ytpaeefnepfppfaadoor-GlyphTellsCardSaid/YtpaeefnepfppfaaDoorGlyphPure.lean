/- The laws of the signs: what their printed functions come to is true. -/
import Derived.Test.YtpaeefnepfppfaaDoorGlyphMath
import Derived.Test.YtpaeefnepfppfaaDoorXg4
namespace Go.Proofs.YtpaeefnepfppfaaDoor.Xg
open Go.RowKit Go.Proofs.YtpaeefnepfppfaaDoorW.PrintWords Go.Proofs.YtpaeefnepfppfaaDoorW.PrintLast Go.Proofs.YtpaeefnepfppfaaDoorW.PrintMore
set_option linter.unusedVariables false
set_option linter.unusedSimpArgs false
theorem bt_list (s : ByteArray) (j : Nat) (h : j < s.data.toList.length) : bt s j = ((s.data.toList.getD j 0).toNat : Int) := by
  have e1 : ((j : Int)).toNat = j := rfl
  have hj : j < s.size := by simpa using h
  unfold bt
  rw [dif_pos (by rw [e1]; exact hj)]
  simp only [e1]
  rw [List.getD_eq_getElem?_getD, List.getElem?_eq_getElem h]
  rfl
/-- how many letters stand ahead -/
def LetR (b : Nat → Int) (m N : Nat) : Prop := N ≤ m ∧ (∀ j, j < N → 97 ≤ b j ∧ b j ≤ 122) ∧ (N = m ∨ ¬ (97 ≤ b N ∧ b N ≤ 122))
theorem LetR.one {b : Nat → Int} {m N N' : Nat} (h : LetR b m N) (h' : LetR b m N') : N = N' := by
  obtain ⟨a, c, d⟩ := h
  obtain ⟨a', c', d'⟩ := h'
  rcases Nat.lt_or_ge N N' with hl | hl
  · rcases d with d | d
    · omega
    · exact absurd (c' N hl) d
  · rcases Nat.lt_or_ge N' N with hl' | hl'
    · rcases d' with d' | d'
      · omega
      · exact absurd (c N' hl') d'
    · omega
theorem ba_ext {a b : ByteArray} (h : a.data.toList = b.data.toList) : a = b := ByteArray.ext (Array.ext' h)
/-- the program's word behind a grave accent -/
theorem word_loop (R : ByteArray) (hR : R.size ≤ 140737488355000) : ∀ (d i : Nat), i + d = R.size → (∀ j, j < i → 97 ≤ bt R (j : Nat) ∧ bt R (j : Nat) ≤ 122) →
    ∃ N q, LetR (fun j => bt R (j : Nat)) R.size N ∧ Ev (fun k => glyph_Named.f k (R.extract 0 N)) (q, decide (q > 0)) ∧ PlaceR wordsT (R.data.toList.take N) q ∧
      Ev (fun k => glyph_First.l0 k R (i : Int)) (if q > 0 then (q, (N : Int) + 1) else (0, 0)) := by
  have done_ : ∀ i : Nat, i ≤ R.size → ∃ q, Ev (fun k => glyph_Named.f k (R.extract 0 i)) (q, decide (q > 0)) ∧ PlaceR wordsT (R.data.toList.take i) q ∧
      Ev (fun k => (glyph_Named.f k (R.extract 0 i)).bind fun b => (if b.2 = true then (some (b.1, wrap64 ((i : Int) + 1))) else (some ((0 : Int), (0 : Int))))) (if q > 0 then (q, (i : Int) + 1) else (0, 0)) := fun i hi => by
    obtain ⟨q, h1, _, h3⟩ := named_both (R.extract 0 i)
    have e : (R.extract 0 i).data.toList = R.data.toList.take i := by rw [Lib.extract_data]; simp
    rw [e] at h3
    refine ⟨q, h1, h3, Ev.bind h1 ?_⟩
    rw [w64 (by omega) (by omega)]
    by_cases hq : q > 0
    · simpa [hq] using Ev.now (q, (i : Int) + 1)
    · simpa [hq] using Ev.now ((0 : Int), (0 : Int))
  intro d
  induction d with
  | zero =>
    intro i hi hl
    obtain ⟨q, h1, h2, h3⟩ := done_ i (by omega)
    refine ⟨i, q, ⟨by omega, hl, .inl (by omega)⟩, h1, h2, Ev.step (fun k => ?_) h3⟩
    simp only [glyph_First.l0]
    rw [if_neg (by omega), if_pos (by omega), if_pos (by omega)]
    simp only [Int.toNat_natCast]
  | succ d ih =>
    intro i hi hl
    by_cases h : 97 ≤ bt R i ∧ bt R i ≤ 122
    · obtain ⟨N, q, h1, h2, h3, h4⟩ := ih (i + 1) (by omega) (fun j hj => by
        rcases Nat.lt_or_ge j i with hji | hji
        · exact hl j hji
        · rw [show j = i by omega]; exact h)
      refine ⟨N, q, h1, h2, h3, Ev.step (f := fun k => glyph_First.l0 k R ((i + 1 : Nat) : Int)) (fun k => ?_) h4⟩
      simp only [glyph_First.l0]
      rw [if_pos (by omega), if_pos (by omega), if_pos h.1, if_pos h.2, w64 (by omega) (by omega)]; rfl
    · obtain ⟨q, h1, h2, h3⟩ := done_ i (by omega)
      refine ⟨i, q, ⟨by omega, hl, .inr h⟩, h1, h2, Ev.step (fun k => ?_) h3⟩
      simp only [glyph_First.l0]
      rw [if_pos (by omega), if_pos (by omega)]
      by_cases ha : bt R i ≥ 97
      · rw [if_pos ha, if_neg (by omega), if_pos (by omega)]
        simp only [Int.toNat_natCast]
      · rw [if_neg ha, if_pos (by omega)]
        simp only [Int.toNat_natCast]
/-- the document's -/
theorem ref_word_loop (s : ByteArray) (hs : s.size ≤ 140737488355000) (h1s : 1 ≤ s.size) : ∀ (d i : Nat), i + 1 + d = s.size → (∀ j, j < i → 97 ≤ bt s ((j + 1 : Nat) : Int) ∧ bt s ((j + 1 : Nat) : Int) ≤ 122) →
    ∃ N q, LetR (fun j => bt s ((j + 1 : Nat) : Int)) (s.size - 1) N ∧ PlaceR wordsT ((s.data.toList.drop 1).take N) q ∧
      Ev (fun k => riffleref02_First.l1 k s ((i + 1 : Nat) : Int)) (if q > 0 then (q, (N : Int) + 1) else (0, 0)) := by
  have done_ : ∀ i : Nat, i + 1 ≤ s.size → ∃ q, PlaceR wordsT ((s.data.toList.drop 1).take i) q ∧
      Ev (fun k => (riffleref02_Named.f k (s.extract 1 (i + 1))).bind fun t => (if t = 0 then (some ((0 : Int), (0 : Int))) else (some (t, ((i + 1 : Nat) : Int))))) (if q > 0 then (q, (i : Int) + 1) else (0, 0)) := fun i hi => by
    obtain ⟨q, _, h2, h3⟩ := named_both (s.extract 1 (i + 1))
    have e : (s.extract 1 (i + 1)).data.toList = (s.data.toList.drop 1).take i := by rw [Lib.extract_data]; simp
    rw [e] at h3
    have hq0 : 0 ≤ q := by rcases h3 with ⟨j, _, _, rfl, _⟩ | ⟨rfl, _⟩ <;> omega
    refine ⟨q, h3, Ev.bind h2 ?_⟩
    by_cases hq : q > 0
    · rw [if_pos hq]
      exact Ev.congr (fun k => by rw [if_neg (by omega)]; rfl) (Ev.now (q, (i : Int) + 1))
    · rw [if_neg hq]
      exact Ev.congr (fun k => by rw [if_pos (by omega)]) (Ev.now ((0 : Int), (0 : Int)))
  intro d
  induction d with
  | zero =>
    intro i hi hl
    obtain ⟨q, h2, h3⟩ := done_ i (by omega)
    refine ⟨i, q, ⟨by omega, hl, .inl (by omega)⟩, h2, Ev.step (fun k => ?_) h3⟩
    simp only [riffleref02_First.l1]
    rw [if_neg (by omega), if_pos (by omega), if_pos (by omega)]
    simp only [Int.toNat_natCast]
  | succ d ih =>
    intro i hi hl
    by_cases h : 97 ≤ bt s ((i + 1 : Nat) : Int) ∧ bt s ((i + 1 : Nat) : Int) ≤ 122
    · obtain ⟨N, q, h1, h3, h4⟩ := ih (i + 1) (by omega) (fun j hj => by
        rcases Nat.lt_or_ge j i with hji | hji
        · exact hl j hji
        · rw [show j = i by omega]; exact h)
      refine ⟨N, q, h1, h3, Ev.step (f := fun k => riffleref02_First.l1 k s ((i + 1 + 1 : Nat) : Int)) (fun k => ?_) h4⟩
      simp only [riffleref02_First.l1]
      rw [if_pos (by omega), if_pos (by omega), if_pos h.1, if_pos h.2, w64 (by omega) (by omega)]; rfl
    · obtain ⟨q, h2, h3⟩ := done_ i (by omega)
      refine ⟨i, q, ⟨by omega, hl, .inr h⟩, h2, Ev.step (fun k => ?_) h3⟩
      simp only [riffleref02_First.l1]
      rw [if_pos (by omega), if_pos (by omega)]
      by_cases ha : bt s ((i + 1 : Nat) : Int) ≥ 97
      · rw [if_pos ha, if_neg (by omega), if_pos (by omega), if_pos (by omega)]
        simp only [Int.toNat_natCast]
      · rw [if_neg ha, if_pos (by omega), if_pos (by omega)]
        simp only [Int.toNat_natCast]
/-- the document's look at the signs -/
theorem ref_sign_hit (s : ByteArray) (i0 : Nat) (a : 0 < i0) (b : i0 < 44) (hp : SG i0 <+: s.data.toList) : ∀ (d i : Nat), i + d = i0 → 0 < i →
    Ev (fun k => riffleref02_First.l0 k s signsT (i : Int)) ((i0 : Int), ((SG i0).length : Int)) := by
  have hsz : s.data.toList.length = s.size := by simp
  have szs : ∀ i, (signsT.getD i ByteArray.empty).size = (SG i).length := fun i => by unfold SG; simp
  intro d
  induction d with
  | zero =>
    intro i hi h0
    obtain rfl : i = i0 := by omega
    have hl := hp.length_le
    refine Ev.step (f := fun _ => some ((i : Int), ((SG i).length : Int))) (fun k => ?_) (Ev.now _)
    simp only [riffleref02_First.l0]
    rw [if_pos (by rw [signs_len]; omega), if_pos (by omega), rdOf_nat, szs, if_pos (by omega), if_pos (by omega), if_pos (by omega), Lib.toList_data, Lib.toList_data, Int.toNat_natCast, Lib.extract_data, if_pos]
    rw [List.drop_zero, Nat.sub_zero]
    exact (List.prefix_iff_eq_take.mp hp).symm
  | succ d ih =>
    intro i hi h0
    have hno : ¬ SG i <+: s.data.toList := fun h => by have := sg_one _ i i0 h0 (by omega) a b h hp; omega
    refine Ev.step (f := fun k => riffleref02_First.l0 k s signsT ((i + 1 : Nat) : Int)) (fun k => ?_) (ih (i + 1) (by omega) (by omega))
    have w1 : wrap64 ((i : Int) + 1) = ((i + 1 : Nat) : Int) := by rw [w64 (by omega) (by omega)]; rfl
    simp only [riffleref02_First.l0]
    rw [if_pos (by rw [signs_len]; omega), if_pos (by omega), rdOf_nat, szs, w1]
    by_cases hl : (s.size : Int) ≥ ((SG i).length : Int)
    · rw [if_pos hl, if_pos (by omega), if_pos (by omega), Lib.toList_data, Lib.toList_data, Int.toNat_natCast, Lib.extract_data, if_neg]
      intro e
      rw [List.drop_zero, Nat.sub_zero] at e
      exact hno (List.prefix_iff_eq_take.mpr e.symm)
    · rw [if_neg hl]
theorem ref_sign_miss (s : ByteArray) (hno : ∀ i : Nat, 0 < i → i < 44 → ¬ SG i <+: s.data.toList) (r : Int × Int) (b : Bool) (hb : b = decide (s.data.toList.head? ≠ some 96))
    (ht : Ev (fun k => riffleref02_First.j1 k s b) r) : ∀ (d i : Nat), i + d = 44 → 0 < i →
    Ev (fun k => riffleref02_First.l0 k s signsT (i : Int)) r := by
  have hsz : s.data.toList.length = s.size := by simp
  have szs : ∀ i, (signsT.getD i ByteArray.empty).size = (SG i).length := fun i => by unfold SG; simp
  intro d
  induction d with
  | zero =>
    intro i hi h0
    refine Ev.step (fun k => ?_) ht
    simp only [riffleref02_First.l0]
    rw [if_neg (by rw [signs_len]; omega), Lib.toList_data]
    cases hl : s.data.toList with
    | nil => rw [if_pos rfl, hb, hl]; rfl
    | cons x l =>
      have h1 : 0 < s.data.toList.length := by rw [hl]; simp
      rw [if_neg (by simp), if_pos (by omega)]
      congr 1
      have := bt_list s 0 h1
      rw [hl] at this
      have e0 : ((0 : Nat) : Int) = 0 := rfl
      rw [e0] at this
      rw [this, hb, hl]
      simp only [List.getD_cons_zero, List.head?_cons, ne_eq, Option.some.injEq]
      by_cases hx : x = 96
      · subst hx; decide
      · rw [decide_eq_true (by exact hx), bne_iff_ne]
        intro e
        apply hx
        apply UInt8.toNat_inj.mp
        have : x.toNat = 96 := by omega
        rw [this]; rfl
  | succ d ih =>
    intro i hi h0
    have hn := hno i h0 (by omega)
    refine Ev.step (f := fun k => riffleref02_First.l0 k s signsT ((i + 1 : Nat) : Int)) (fun k => ?_) (ih (i + 1) (by omega) (by omega))
    have w1 : wrap64 ((i : Int) + 1) = ((i + 1 : Nat) : Int) := by rw [w64 (by omega) (by omega)]; rfl
    simp only [riffleref02_First.l0]
    rw [if_pos (by rw [signs_len]; omega), if_pos (by omega), rdOf_nat, szs, w1]
    by_cases hl : (s.size : Int) ≥ ((SG i).length : Int)
    · rw [if_pos hl, if_pos (by omega), if_pos (by omega), Lib.toList_data, Lib.toList_data, Int.toNat_natCast, Lib.extract_data, if_neg]
      intro e
      rw [List.drop_zero, Nat.sub_zero] at e
      exact hn (List.prefix_iff_eq_take.mpr e.symm)
    · rw [if_neg hl]
/-- with what a text begins -/
def FirstR (l : List UInt8) (r : Int × Int) : Prop :=
  (l.head? ≠ some 96 ∧ SignR l r) ∨ (∃ t N q, l = 96 :: t ∧ LetR (fun j => ((t.getD j 0).toNat : Int)) t.length N ∧ PlaceR wordsT (t.take N) q ∧ r = if q > 0 then (q, (N : Int) + 1) else (0, 0))
theorem letR_congr {b b' : Nat → Int} {m N : Nat} (h : LetR b m N) (e : ∀ j, j < m → b j = b' j) : LetR b' m N := by
  obtain ⟨a, c, d⟩ := h
  refine ⟨a, fun j hj => by rw [← e j (by omega)]; exact c j hj, ?_⟩
  rcases d with d | d
  · exact .inl d
  · rcases Nat.lt_or_ge N m with hn | hn
    · right; rw [← e N hn]; exact d
    · left; omega
theorem first_both (s : ByteArray) (hs : s.size ≤ 140737488355000) : ∃ r, Ev (fun k => glyph_First.f k s) r ∧ Ev (fun k => riffleref02_First.f k s) r ∧ FirstR s.data.toList r := by
  have hsz : s.data.toList.length = s.size := by simp
  have start : ∀ r, Ev (fun k => riffleref02_First.l0 k s signsT 1) r → Ev (fun k => riffleref02_First.f k s) r := fun r h => Ev.congr (fun k => by unfold riffleref02_First.f; rw [signs_is]; rfl) h
  have hlit : (⟨#[96]⟩ : ByteArray).data.toList = [96] := rfl
  by_cases hh : s.data.toList.head? = some 96
  · obtain ⟨t, ht⟩ : ∃ t, s.data.toList = 96 :: t := by
      cases hl : s.data.toList with
      | nil => rw [hl] at hh; cases hh
      | cons x l => rw [hl] at hh; simp at hh; exact ⟨l, by rw [hh]⟩
    have hno : ∀ i : Nat, 0 < i → i < 44 → ¬ SG i <+: s.data.toList := fun i a b hp => by
      have hn := sg_ne i a b
      cases hq : SG i with
      | nil => exact hn.1 hq
      | cons y q =>
        rw [hq, ht] at hp
        have := (List.cons_prefix_cons.mp hp).1
        rw [hq] at hn
        exact hn.2.1 (by simp [this])
    have hRl : (⟨t.toArray⟩ : ByteArray).data.toList = t := by simp
    have hRs : (⟨t.toArray⟩ : ByteArray).size = t.length := by show t.toArray.size = t.length; simp
    have hts : t.length + 1 = s.size := by rw [← hsz, ht]; simp
    obtain ⟨N, q, h1, h2, h3, h4⟩ := word_loop ⟨t.toArray⟩ (by omega) t.length 0 (by omega) (fun j hj => by omega)
    rw [hRs] at h1
    rw [hRl] at h3
    have hb1 : LetR (fun j => ((t.getD j 0).toNat : Int)) t.length N := letR_congr h1 (fun j hj => by
      have := bt_list ⟨t.toArray⟩ j (by rw [hRl]; exact hj)
      rw [hRl] at this; exact this)
    obtain ⟨N', q', h1', h3', h4'⟩ := ref_word_loop s hs (by omega) (s.size - 1) 0 (by omega) (fun j hj => by omega)
    have hb2 : LetR (fun j => ((t.getD j 0).toNat : Int)) t.length N' := by
      rw [show s.size - 1 = t.length by omega] at h1'
      refine letR_congr h1' (fun j hj => ?_)
      have := bt_list s (j + 1) (by omega)
      rw [ht] at this
      simpa using this
    have hNN := hb1.one hb2
    subst hNN
    rw [ht] at h3'
    simp only [List.drop_succ_cons, List.drop_zero] at h3'
    have hqq := h3.one h3'
    subst hqq
    refine ⟨_, ?_, start _ (ref_sign_miss s hno _ false (by rw [hh]; rfl) (Ev.step (fun k => ?_) h4') 43 1 (by omega) (by omega)), .inr ⟨t, N, q, ht, hb1, h3, rfl⟩⟩
    · refine Ev.congr (fun k => ?_) h4
      unfold glyph_First.f strings_CutPrefix.f
      simp only [Option.bind_some, hlit]
      have hp : Lib.hasPrefix s.data.toList [96] = true := by rw [ht]; simp [Lib.hasPrefix]
      rw [if_pos hp]
      have htp : Lib.trimPrefix s.data.toList [96] = t := by unfold Lib.trimPrefix; rw [if_pos hp, ht]; rfl
      rw [htp]; rfl
    · simp only [riffleref02_First.j1]
      rw [if_neg (by simp)]; rfl
  · obtain ⟨r, hr, hR⟩ := sized_tells s
    have hp : Lib.hasPrefix s.data.toList [96] = false := by
      unfold Lib.hasPrefix
      cases hl : s.data.toList with
      | nil => rfl
      | cons x l =>
        rw [hl] at hh
        simp only [List.head?_cons, Option.some.injEq] at hh
        have hx : (96 == x) = false := by rw [beq_eq_false_iff_ne]; exact fun e => hh e.symm
        simp [List.isPrefixOf, hx]
    refine ⟨r, ?_, ?_, .inl ⟨hh, hR⟩⟩
    · refine Ev.congr (f := fun k => (glyph_sized.f k s).bind fun b => some (b.1, b.2)) (fun k => ?_) (Ev.bind hr (Ev.now _))
      unfold glyph_First.f strings_CutPrefix.f
      simp only [Option.bind_some, hlit, hp]
      rw [if_neg (by simp)]
    · rcases hR with ⟨i, a, b, rfl, c⟩ | ⟨rfl, hno⟩
      · exact start _ (ref_sign_hit s i a b c (i - 1) 1 (by omega) (by omega))
      · refine start _ (ref_sign_miss s hno _ true (by rw [decide_eq_true hh]) (Ev.step (f := fun _ => some (0, 0)) (fun k => ?_) (Ev.now _)) 43 1 (by omega) (by omega))
        simp only [riffleref02_First.j1]
        rw [if_pos trivial]
theorem first_lit1 : glyph_First.f 100 (⟨#[226, 140, 136, 47, 120]⟩ : ByteArray) = some (7, 3) := by decide +kernel
theorem first_lit2 : glyph_First.f 100 (⟨#[96, 109, 97, 120, 32, 120]⟩ : ByteArray) = some (7, 4) := by decide +kernel
theorem lives_ev : Ev (fun k => rifflelaw02_lives.f k) true := by
  refine Ev.bind (Ev.of (fun k => glyph_First.mono _ k) first_lit1) (Ev.bind (Ev.of (fun k => glyph_First.mono _ k) first_lit2) ?_)
  exact Ev.now true
theorem lives_bind : Ev (fun k => (rifflelaw02_lives.f k).bind fun t => some t) true := Ev.bind lives_ev (Ev.now true)
theorem glyph_codes : ∃ k, rifflelaw02_GlyphCodes.f k = some true := (Ev.congr (fun k => by unfold rifflelaw02_GlyphCodes.f; rfl) lives_bind).rounds
theorem glyph_first (s : ByteArray) (hs : s.size ≤ 140737488351232) : ∃ k, rifflelaw02_GlyphFirst.f k s = some true := by
  obtain ⟨r, h1, h2, _⟩ := first_both s (by omega)
  refine Ev.rounds (g := fun k => rifflelaw02_GlyphFirst.f k s) ?_
  unfold rifflelaw02_GlyphFirst.f
  refine Ev.bind h1 ?_
  refine Ev.bind h2 ?_
  exact Ev.congr (fun k => by rw [if_pos rfl, if_pos rfl]) lives_bind
/-! ### sign, word and class of a code -/
theorem wf64 {x : Int} (h : (Lit.int .i64 x).wf = true) : -9223372036854775808 ≤ x ∧ x ≤ 9223372036854775807 := by simpa [Lit.wf, IntKind.min, IntKind.max, IntKind.signed, IntKind.bits] using h
theorem sign_in (i : Nat) (a : 0 < i) (b : i < 44) : glyph_Sign.f (i : Int) = some (signsT.getD i ByteArray.empty) := by
  unfold glyph_Sign.f glyph_is.f
  rw [if_pos (by omega), decide_eq_true (by omega), runes_is]
  simp only [Option.bind_some]
  rw [if_pos trivial, if_pos (by omega), if_pos (by rw [runes_len]; omega), rd_nat, (enc_sign i a b).1]
theorem sign_out (c : Int) (h : c < 1 ∨ 43 < c) : glyph_Sign.f c = some (⟨#[]⟩ : ByteArray) := by
  unfold glyph_Sign.f glyph_is.f
  by_cases h1 : c ≥ 1
  · rw [if_pos h1, decide_eq_false (by omega)]; rfl
  · rw [if_neg h1]; rfl
theorem word_in (i : Nat) (a : 0 < i) (b : i < 44) : glyph_Word.f (i : Int) = some (wordsT.getD i ByteArray.empty) := by
  unfold glyph_Word.f glyph_is.f
  rw [if_pos (by omega), decide_eq_true (by omega), words_is]
  simp only [Option.bind_some]
  rw [if_pos trivial, if_pos (by omega), if_pos (by rw [words_len]; omega), rdOf_nat]
theorem word_out (c : Int) (h : c < 1 ∨ 43 < c) : glyph_Word.f c = some (⟨#[]⟩ : ByteArray) := by
  unfold glyph_Word.f glyph_is.f
  by_cases h1 : c ≥ 1
  · rw [if_pos h1, decide_eq_false (by omega)]; rfl
  · rw [if_neg h1]; rfl
theorem code_cases (c : Int) : (c < 1 ∨ 43 < c) ∨ ∃ i : Nat, 0 < i ∧ i < 44 ∧ c = (i : Int) := by
  by_cases h : c < 1 ∨ 43 < c
  · exact .inl h
  · exact .inr ⟨c.toNat, by omega, by omega, by omega⟩
theorem sign_both (c : Int) : ∃ t, glyph_Sign.f c = some t ∧ riffleref02_Sign.f c = some t := by
  rcases code_cases c with h | ⟨i, a, b, rfl⟩
  · refine ⟨_, sign_out c h, ?_⟩
    unfold riffleref02_Sign.f
    by_cases h1 : c < 1
    · rw [if_pos h1]
    · rw [if_neg h1, if_pos (by omega)]
  · refine ⟨_, sign_in i a b, ?_⟩
    unfold riffleref02_Sign.f
    rw [if_neg (by omega), if_neg (by omega), signs_is]
    simp only [Option.bind_some]
    rw [if_pos (by omega), if_pos (by rw [signs_len]; omega), rdOf_nat]
theorem word_both (c : Int) : ∃ t, glyph_Word.f c = some t ∧ riffleref02_Word.f c = some t := by
  rcases code_cases c with h | ⟨i, a, b, rfl⟩
  · refine ⟨_, word_out c h, ?_⟩
    unfold riffleref02_Word.f
    by_cases h1 : c < 1
    · rw [if_pos h1]
    · rw [if_neg h1, if_pos (by omega)]
  · refine ⟨_, word_in i a b, ?_⟩
    unfold riffleref02_Word.f
    rw [if_neg (by omega), if_neg (by omega), words_is2]
    simp only [Option.bind_some]
    rw [if_pos (by omega), if_pos (by rw [words_len]; omega), rdOf_nat]
theorem class_both (c : Int) : ∃ t, glyph_Class.f c = some t ∧ Ev (fun k => riffleref02_Class.f k c) t ∧ (t = 0 ↔ (c < 1 ∨ 43 < c)) := by
  rcases code_cases c with h | ⟨i, a, b, rfl⟩
  · refine ⟨0, ?_, Ev.congr (f := fun k => riffleref02_Class.j0 k c true) (fun k => ?_) (Ev.step (f := fun _ => some 0) (fun k => ?_) (Ev.now _)), by simp [h]⟩
    · unfold glyph_Class.f glyph_is.f
      by_cases h1 : c ≥ 1
      · rw [if_pos h1, decide_eq_false (by omega)]; rfl
      · rw [if_neg h1]; rfl
    · unfold riffleref02_Class.f
      by_cases h1 : c < 1
      · rw [if_pos h1]
      · rw [if_neg h1, decide_eq_true (by omega)]
    · simp only [riffleref02_Class.j0]; rw [if_pos trivial]
  · refine ⟨if (i : Int) < 20 then 1 else if (i : Int) < 31 then 2 else if (i : Int) < 39 then 3 else 4, ?_, Ev.congr (f := fun k => riffleref02_Class.j0 k (i : Int) false) (fun k => ?_) (Ev.step (f := fun _ => some (if (i : Int) < 20 then 1 else if (i : Int) < 31 then 2 else if (i : Int) < 39 then 3 else 4)) (fun k => ?_) (Ev.now _)), ?_⟩
    · unfold glyph_Class.f glyph_is.f
      rw [if_pos (by omega), decide_eq_true (by omega)]
      simp only [Option.bind_some]
      rw [if_pos trivial]
      by_cases h1 : (i : Int) < 20
      · rw [if_pos h1, if_pos (by omega)]
      · rw [if_neg h1, if_neg (by omega)]
        by_cases h2 : (i : Int) < 31
        · rw [if_pos h2, if_pos (by omega)]
        · rw [if_neg h2, if_neg (by omega)]
          by_cases h3 : (i : Int) < 39
          · rw [if_pos h3, if_pos (by omega)]
          · rw [if_neg h3, if_neg (by omega)]
    · unfold riffleref02_Class.f
      rw [if_neg (by omega), decide_eq_false (by omega)]
    · simp only [riffleref02_Class.j0]
      rw [if_neg (by simp)]
      split
      · rfl
      · split
        · rfl
        · split <;> rfl
    · constructor
      · intro h; split at h
        · omega
        · split at h
          · omega
          · split at h <;> omega
      · intro h; omega
theorem glyph_tells (c : Int) (s : ByteArray) (hc : (Lit.int .i64 c).wf = true) (hs : s.size ≤ 140737488351232) : ∃ k, rifflelaw02_GlyphTells.f k c s = some true := by
  obtain ⟨q, h1, h2, _⟩ := of_both s
  obtain ⟨q', h3, h4, _⟩ := named_both s
  obtain ⟨t1, h5, h6⟩ := sign_both c
  obtain ⟨t2, h7, h8⟩ := word_both c
  obtain ⟨t3, h9, h10, _⟩ := class_both c
  refine Ev.rounds (g := fun k => rifflelaw02_GlyphTells.f k c s) ?_
  unfold rifflelaw02_GlyphTells.f
  refine Ev.bind h1 ?_
  refine Ev.bind h3 ?_
  refine Ev.bind h2 ?_
  refine Ev.bind h4 ?_
  rw [h5, h6, h7, h8, h9]
  simp only [Option.bind_some, if_true]
  refine Ev.bind h10 ?_
  simp only [if_true]
  by_cases hq : q > 0
  · by_cases hq' : q' > 0
    · simpa [hq, hq'] using lives_bind
    · simpa [hq, hq'] using lives_bind
  · by_cases hq' : q' > 0
    · simpa [hq, hq'] using lives_bind
    · simpa [hq, hq'] using lives_bind
/-! ### back again -/
theorem words_fin : ∀ i j : Fin 44, 0 < i.val → 0 < j.val → WD i.val ≠ [] → WD i.val = WD j.val → i = j := by decide +kernel
theorem letters_fin : ∀ i : Fin 44, ((WD i.val).all fun c => 97 ≤ c.toNat && c.toNat ≤ 122) = true := by decide +kernel
theorem words_short : ∀ i : Fin 44, (WD i.val).length ≤ 5 := by decide +kernel
theorem place_word (i : Nat) (a : 0 < i) (b : i < 44) (hne : WD i ≠ []) {q : Int} (h : PlaceR wordsT (WD i) q) : q = (i : Int) := by
  rcases h with ⟨j, a', b', rfl, c, _⟩ | ⟨_, h⟩
  · have := words_fin ⟨i, b⟩ ⟨j, b'⟩ a a' hne c.symm
    simp only [Fin.mk.injEq] at this
    omega
  · exact absurd ⟨rfl, hne⟩ (h i a b)
theorem firstR_sign {l : List UInt8} {r : Int × Int} (h : FirstR l r) (i : Nat) (a : 0 < i) (b : i < 44) (hp : SG i <+: l) : r = ((i : Int), ((SG i).length : Int)) := by
  rcases h with ⟨_, h⟩ | ⟨t, N, q, rfl, _⟩
  · exact h.one (.inl ⟨i, a, b, rfl, hp⟩)
  · exfalso
    have hn := sg_ne i a b
    cases hq : SG i with
    | nil => exact hn.1 hq
    | cons y q =>
      rw [hq] at hp
      have := (List.cons_prefix_cons.mp hp).1
      rw [hq] at hn
      exact hn.2.1 (by simp [this])
theorem firstR_word {l : List UInt8} {r : Int × Int} (i : Nat) (a : 0 < i) (b : i < 44) (hne : WD i ≠ []) (rest : List UInt8) (hl : l = 96 :: (WD i ++ (32 :: rest))) (h : FirstR l r) : r = ((i : Int), ((WD i).length : Int) + 1) := by
  rcases h with ⟨h, _⟩ | ⟨t, N, q, he, h1, h2, rfl⟩
  · rw [hl] at h; exact absurd rfl h
  · rw [hl] at he
    obtain rfl := (List.cons.inj he).2
    have hN : N = (WD i).length := by
      refine h1.one ⟨by simp, fun j hj => ?_, .inr ?_⟩
      · have := letters_fin ⟨i, b⟩
        rw [List.all_eq_true] at this
        show 97 ≤ (((WD i ++ 32 :: rest).getD j 0).toNat : Int) ∧ (((WD i ++ 32 :: rest).getD j 0).toNat : Int) ≤ 122
        rw [List.getD_eq_getElem?_getD, List.getElem?_append_left hj, List.getElem?_eq_getElem hj]
        have := this _ (List.getElem_mem hj)
        simp only [Bool.and_eq_true, decide_eq_true_eq] at this
        simp only [Option.getD_some]
        omega
      · show ¬ (97 ≤ (((WD i ++ 32 :: rest).getD (WD i).length 0).toNat : Int) ∧ (((WD i ++ 32 :: rest).getD (WD i).length 0).toNat : Int) ≤ 122)
        rw [List.getD_eq_getElem?_getD, List.getElem?_append_right (Nat.le_refl _)]
        simp
    subst hN
    rw [List.take_left' rfl] at h2
    have := place_word i a b hne h2
    subst this
    rw [if_pos (by omega)]
theorem glyph_back (c o : Int) (rest : ByteArray) (hc : (Lit.int .i64 c).wf = true) (ho : (Lit.int .i64 o).wf = true) (hs : rest.size ≤ 140737488351232) : ∃ k, rifflelaw02_GlyphBack.f k c o rest = some true := by
  refine Ev.rounds (g := fun k => rifflelaw02_GlyphBack.f k c o rest) ?_
  obtain ⟨t3, h9, _, hz⟩ := class_both c
  rcases code_cases c with h | ⟨i, a, b, rfl⟩
  · have hz' := hz.mpr h
    subst hz'
    unfold rifflelaw02_GlyphBack.f
    rw [sign_out c h, word_out c h, h9]
    simp only [Option.bind_some]
    have e : (⟨#[]⟩ : ByteArray).toList = [] := by rw [Lib.toList_data]
    exact Ev.congr (fun k => by rw [if_pos trivial, if_pos e, if_pos e]) lives_bind
  · have hz' : t3 ≠ 0 := fun e => by have := hz.mp e; omega
    have hsg := sg_ne i a b
    have hsgl : (signsT.getD i ByteArray.empty).data.toList = SG i := rfl
    have hwdl : (wordsT.getD i ByteArray.empty).data.toList = WD i := rfl
    have szs : (signsT.getD i ByteArray.empty).size = (SG i).length := by rw [← hsgl]; simp
    have szw : (wordsT.getD i ByteArray.empty).size = (WD i).length := by rw [← hwdl]; simp
    have hw5 : (WD i).length ≤ 5 := words_short ⟨i, b⟩
    have happ : ∀ x y : ByteArray, (x ++ y).data.toList = x.data.toList ++ y.data.toList := fun x y => by simp
    obtain ⟨r1, e1, _, g1⟩ := first_both (signsT.getD i ByteArray.empty ++ rest) (by rw [ByteArray.size_append]; omega)
    have hr1 := firstR_sign g1 i a b (by rw [happ, hsgl]; exact List.prefix_append _ _)
    subst hr1
    obtain ⟨q2, e2, _, g2⟩ := of_both (signsT.getD i ByteArray.empty)
    have hq2 := g2 i a b rfl
    subst hq2
    rw [decide_eq_true (show (i : Int) > 0 by omega)] at e2
    obtain ⟨ts, ho1, _⟩ := sign_both o
    obtain ⟨tw, hw1, _⟩ := word_both o
    have hj0 : ∀ bb : Bool, bb = false → Ev (fun k => rifflelaw02_GlyphBack.j0 k (i : Int) o rest (wordsT.getD i ByteArray.empty) bb) true := fun bb hb => by
      subst hb
      by_cases hwe : WD i = []
      · refine Ev.step (fun k => ?_) lives_bind
        simp only [rifflelaw02_GlyphBack.j0]
        rw [if_neg (by simp), Lib.toList_data, hwdl, if_pos hwe]
      · obtain ⟨r3, e3, _, g3⟩ := first_both ((((⟨#[96]⟩ : ByteArray) ++ wordsT.getD i ByteArray.empty) ++ (⟨#[32]⟩ : ByteArray)) ++ rest) (by
          have x1 : (⟨#[96]⟩ : ByteArray).size = 1 := rfl
          have x2 : (⟨#[32]⟩ : ByteArray).size = 1 := rfl
          simp only [ByteArray.size_append]; omega)
        have hr3 := firstR_word i a b hwe rest.data.toList (by simp only [happ, hwdl]; simp) g3
        subst hr3
        obtain ⟨q4, e4, _, g4⟩ := named_both (wordsT.getD i ByteArray.empty)
        rw [hwdl] at g4
        have hq4 := place_word i a b hwe g4
        subst hq4
        rw [decide_eq_true (show (i : Int) > 0 by omega)] at e4
        have x1 : (⟨#[96]⟩ : ByteArray).size = 1 := rfl
        have x2 : (⟨#[32]⟩ : ByteArray).size = 1 := rfl
        have key : Ev (fun k => (glyph_First.f k ((((⟨#[96]⟩ : ByteArray) ++ wordsT.getD i ByteArray.empty) ++ (⟨#[32]⟩ : ByteArray)) ++ rest)).bind fun bt207 => ((glyph_Named.f k (wordsT.getD i ByteArray.empty)).bind fun bt209 => (if bt207.1 = (i : Int) then (if bt207.2 = (wrap64 (((wordsT.getD i ByteArray.empty).size : Int) + 1)) then (if bt209.1 = (i : Int) then (if bt209.2 = true then ((glyph_Word.f o).bind fun t211 => (if t211.toList = (wordsT.getD i ByteArray.empty).toList then (if o = (i : Int) then ((rifflelaw02_lives.f k).bind fun t212 => (some t212)) else (some false)) else ((rifflelaw02_lives.f k).bind fun t213 => (some t213)))) else (some false)) else (some false)) else (some false)) else (some false)))) true := by
          refine Ev.bind e3 ?_
          refine Ev.bind e4 ?_
          refine Ev.congr (fun k => ?_) lives_bind
          rw [if_pos rfl, if_pos (by rw [w64 (by omega) (by omega), szw]), if_pos rfl, if_pos rfl, hw1]
          simp only [Option.bind_some, Lib.toList_data, hwdl]
          by_cases hto : tw.data.toList = WD i
          · have hoi : o = (i : Int) := by
              rcases code_cases o with h' | ⟨j, a', b', rfl⟩
              · rw [word_out o h'] at hw1
                obtain rfl := Option.some.inj hw1
                exact absurd hto.symm hwe
              · rw [word_in j a' b'] at hw1
                obtain rfl := Option.some.inj hw1
                have := words_fin ⟨i, b⟩ ⟨j, b'⟩ a a' hwe hto.symm
                simp only [Fin.mk.injEq] at this
                omega
            rw [if_pos hto, if_pos hoi]
          · rw [if_neg hto]
        refine Ev.step (fun k => ?_) key
        simp only [rifflelaw02_GlyphBack.j0]
        rw [if_neg (by simp), if_neg (by rw [Lib.toList_data, hwdl]; exact hwe), if_pos (by omega), if_pos (by rw [ByteArray.size_append]; omega), if_pos (by simp only [ByteArray.size_append]; omega)]
    have key2 : Ev (fun k => (glyph_First.f k (signsT.getD i ByteArray.empty ++ rest)).bind fun bt201 => ((glyph_Of.f k (signsT.getD i ByteArray.empty)).bind fun bt203 => (if (signsT.getD i ByteArray.empty).toList = ([] : List UInt8) then (rifflelaw02_GlyphBack.j0 k (i : Int) o rest (wordsT.getD i ByteArray.empty) true) else (if bt201.1 = (i : Int) then (if bt201.2 = ((signsT.getD i ByteArray.empty).size : Int) then (if bt203.1 = (i : Int) then (if bt203.2 = true then ((glyph_Sign.f o).bind fun t205 => (if t205.toList = (signsT.getD i ByteArray.empty).toList then (rifflelaw02_GlyphBack.j0 k (i : Int) o rest (wordsT.getD i ByteArray.empty) (o != (i : Int))) else (rifflelaw02_GlyphBack.j0 k (i : Int) o rest (wordsT.getD i ByteArray.empty) false))) else (rifflelaw02_GlyphBack.j0 k (i : Int) o rest (wordsT.getD i ByteArray.empty) true)) else (rifflelaw02_GlyphBack.j0 k (i : Int) o rest (wordsT.getD i ByteArray.empty) true)) else (rifflelaw02_GlyphBack.j0 k (i : Int) o rest (wordsT.getD i ByteArray.empty) true)) else (rifflelaw02_GlyphBack.j0 k (i : Int) o rest (wordsT.getD i ByteArray.empty) true))))) true := by
      refine Ev.bind e1 ?_
      refine Ev.bind e2 ?_
      by_cases hto : ts.data.toList = SG i
      · have hoi : o = (i : Int) := by
          rcases code_cases o with h' | ⟨j, a', b', rfl⟩
          · rw [sign_out o h'] at ho1
            obtain rfl := Option.some.inj ho1
            exact absurd hto.symm hsg.1
          · rw [sign_in j a' b'] at ho1
            obtain rfl := Option.some.inj ho1
            have hto' : SG j = SG i := hto
            have := sg_one (SG i) i j a b a' b' (List.prefix_refl _) (by rw [hto']; exact List.prefix_refl _)
            omega
        refine Ev.congr (fun k => ?_) (hj0 (o != (i : Int)) (by rw [bne_eq_false_iff_eq]; exact hoi))
        rw [if_neg (by rw [Lib.toList_data, hsgl]; exact hsg.1), if_pos rfl, if_pos (by rw [szs]), if_pos rfl, if_pos rfl, ho1]
        simp only [Option.bind_some, Lib.toList_data, hsgl]
        rw [if_pos hto]
      · refine Ev.congr (fun k => ?_) (hj0 false rfl)
        rw [if_neg (by rw [Lib.toList_data, hsgl]; exact hsg.1), if_pos rfl, if_pos (by rw [szs]), if_pos rfl, if_pos rfl, ho1]
        simp only [Option.bind_some, Lib.toList_data, hsgl]
        rw [if_neg hto]
    unfold rifflelaw02_GlyphBack.f
    rw [sign_in i a b, word_in i a b, h9]
    simp only [Option.bind_some]
    refine Ev.congr (fun k => ?_) key2
    rw [if_neg hz', if_pos (by omega)]
end Go.Proofs.YtpaeefnepfppfaaDoor.Xg
