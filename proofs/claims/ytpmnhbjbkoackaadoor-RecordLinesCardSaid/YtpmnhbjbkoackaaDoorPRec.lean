/- A record's line and back, the order of records: what the plain functions come to. -/
import Derived.Test.YtpmnhbjbkoackaaDoorPLine
import Derived.Test.YtpmnhbjbkoackaaDoorEn19
namespace Go.Proofs.YtpmnhbjbkoackaaDoor.En
open Go Go.RowKit Go.Proofs.YtpmnhbjbkoackaaDoor.Dig
set_option linter.unusedVariables false
set_option linter.unusedSimpArgs false
abbrev Rc := Int × Int × Int × List Int
def mayR (r : Rc) : Bool := r.1 == 1 || (r.1 == 2 && r.2.2.1 == 0 && r.2.2.2.isEmpty) || (r.1 == 3 && r.2.2.2.isEmpty)
theorem mayR_is (k : Nat) (r : Rc) : record_May.f k r = some (mayR r) := by
  obtain ⟨a, t, q, l⟩ := r
  unfold record_May.f mayR
  by_cases h1 : a = 1
  · subst h1; simp
  · by_cases h2 : a = 2
    · subst h2
      by_cases hq : q = 0
      · cases l <;> simp [hq]; omega
      · simp [hq]
    · by_cases h3 : a = 3
      · subst h3; cases l <;> simp; omega
      · simp [h1, h2, h3]
def sgnR (a : Int) : List UInt8 := if a = 1 then [101] else if a = 2 then [119] else [120]
theorem sgnR_no32 (a : Int) : ∀ c ∈ sgnR a, c ≠ 32 := by
  intro c hc
  unfold sgnR at hc
  split at hc
  · simp at hc; subst hc; decide
  · split at hc
    · simp at hc; subst hc; decide
    · simp at hc; subst hc; decide
theorem sgnR_len (a : Int) : (sgnR a).length = 1 := by unfold sgnR; split; rfl; split <;> rfl
def numsR (r : Rc) : List Int := if r.1 = 2 then [r.2.1] else r.2.1 :: r.2.2.1 :: r.2.2.2
def lineR (r : Rc) : ByteArray := if mayR r = true then toB (numL (sgnR r.1) (numsR r)) else bs []
def okRc (r : Rc) : Prop := In64 r.1 ∧ In64 r.2.1 ∧ In64 r.2.2.1 ∧ (∀ n ∈ r.2.2.2, In64 n) ∧ r.2.2.2.length ≤ 1000000
def inRc (r : Rc) : Prop := In64 r.1 ∧ In64 r.2.1 ∧ In64 r.2.2.1 ∧ (∀ n ∈ r.2.2.2, In64 n)
theorem numsR_in {r : Rc} (h : okRc r) : ∀ n ∈ numsR r, In64 n := by
  intro n hn
  unfold numsR at hn
  obtain ⟨_, h1, h2, h3, _⟩ := h
  split at hn
  · simp at hn; subst hn; exact h1
  · simp at hn
    rcases hn with rfl | rfl | hn
    · exact h1
    · exact h2
    · exact h3 n hn
theorem numsR_len {r : Rc} (h : okRc r) : (numsR r).length ≤ 1000002 := by
  unfold numsR
  have := h.2.2.2.2
  split <;> simp <;> omega
theorem rwords_loop (k : Nat) (l : List Int) (hl : l.length ≤ 1000002) : ∀ (d i n : Nat) (ws : List ByteArray), i + d = l.length → ws.length ≤ i → d < n →
    record_words.l0 k n ws l (l.length : Int) (i : Int) = some (ws ++ (l.drop i).map itoaB) := by
  intro d
  induction d with
  | zero =>
    intro i n ws hi hw hn
    obtain ⟨n, rfl⟩ : ∃ q, n = q + 1 := ⟨n - 1, by omega⟩
    simp only [record_words.l0]
    rw [if_neg (by simp <;> omega), List.drop_eq_nil_of_le (by omega)]; simp
  | succ d ih =>
    intro i n ws hi hw hn
    obtain ⟨n, rfl⟩ : ∃ q, n = q + 1 := ⟨n - 1, by omega⟩
    simp only [record_words.l0]
    rw [if_pos (by simp <;> omega), if_pos (by omega), rdT_nat, put_is, Option.bind_some, if_pos (by simp <;> omega), w64n (by omega), ih (i + 1) n _ (by omega) (by simp <;> omega) (by omega), getD_drop l i (Ty.dflt (.int .i64)) (by omega)]
    simp
theorem rwords_is {k : Nat} {l : List Int} (hl : l.length ≤ 1000002) (hk : l.length < k) : record_words.f k l = some (l.map itoaB) := by
  unfold record_words.f
  rw [show (0 : Int) = ((0 : Nat) : Int) from rfl, rwords_loop k l hl l.length 0 k [] (by omega) (by simp) hk, Option.bind_some]
  simp
theorem rline_j0 (k : Nat) {r : Rc} (h : mayR r = true) : record_Line.j0 k (bs [101]) ([r.2.1, r.2.2.1] ++ r.2.2.2) r.1 r.2.1 r.2.2.1 r.2.2.2 = some (toB (sgnR r.1), numsR r) := by
  obtain ⟨a, t, q, l⟩ := r
  unfold record_Line.j0 numsR
  by_cases h2 : a = 2
  · subst h2
    simp [sgnR, cutL]
    constructor
    · omega
    · rfl
  · by_cases h3 : a = 3
    · subst h3; simp [sgnR]; rfl
    · have h1 : a = 1 := by unfold mayR at h; simp [h2, h3] at h; exact h
      subst h1; simp [sgnR]; rfl
theorem rline_is {k : Nat} {r : Rc} (hr : okRc r) (hk : r.2.2.2.length + 2 < k) : record_Line.f k r = some (lineR r) := by
  have hn := hr.2.2.2.2
  have hnl := numsR_len hr
  have hnk : (numsR r).length < k := by unfold numsR; split <;> simp <;> omega
  unfold record_Line.f lineR
  rw [mayR_is, Option.bind_some]
  cases hm : mayR r with
  | false => rw [if_pos (by simp), if_neg (by simp)]
  | true =>
    rw [if_neg (by simp), if_pos rfl, if_pos (by simp <;> omega), rline_j0 k hm, Option.bind_some]
    rw [rwords_is (by omega) hnk, Option.bind_some, if_pos (by simp <;> omega)]
    have e : [toB (sgnR r.1)] ++ (numsR r).map itoaB = (sgnR r.1 :: (numsR r).map Lib.itoa).map toB := by
      simp [itoaB_toB]
    have hlen := numL_len (sgnR r.1) (numsR r) (numsR_in hr)
    rw [sgnR_len] at hlen
    unfold numL at hlen
    rw [e, xjoin_is _ (by omega) (by simp <;> omega), Option.bind_some]; rfl
theorem lineR_ne {r : Rc} : (lineR r = bs []) ↔ mayR r = false := by
  unfold lineR
  cases h : mayR r with
  | false => simp
  | true =>
    simp only [if_true, bs_toB, toB_eq]
    refine ⟨fun e => ?_, fun e => by cases e⟩
    exfalso
    have h1 := congrArg wordsL e
    rw [numL_words _ _ (sgnR_no32 _)] at h1
    have h2 := (List.cons.inj h1).2
    unfold numsR at h2
    split at h2 <;> cases h2
/-! ### read -/
def failR : Rc × Bool := ((0, 0, 0, []), false)
def readN (w : List UInt8) (n0 : Int) (ns : List Int) : Rc × Bool :=
  if w = [119] then (if ns = [] then ((2, n0, 0, []), true) else failR)
  else if w = [120] then (match ns with | [q] => ((3, n0, q, []), true) | _ => failR)
  else if w = [101] then (match ns with | q :: vs => ((1, n0, q, vs), true) | [] => failR)
  else failR
def readR (s : ByteArray) : Rc × Bool :=
  match wordsL s.data.toList with
  | [] => failR
  | w :: ws => match numsG (ws.map toB) [] with
    | (n0 :: ns, true) => readN w n0 ns
    | _ => failR
theorem rread_is {k : Nat} {s : ByteArray} (hs : s.size ≤ 100000000) (hk : s.size + 2 < k) : record_Read.f k s = some (readR s) := by
  have hsl := ba_len s
  have hlen := wordsL_len s.data.toList
  unfold record_Read.f readR
  rw [words_is k s (by omega), Option.bind_some, wordsB_toB]
  cases hw : wordsL s.data.toList with
  | nil => exact absurd hw (wordsL_ne _)
  | cons w ws =>
    rw [hw] at hlen
    have hc : cutL ((w :: ws).map toB) (1 : Int) (((w :: ws).map toB).length : Int) = ws.map toB := cutL_one _ 1
    rw [if_pos (by simp <;> omega), hc, nums_is (by simp at hlen ⊢; omega) (by simp at hlen ⊢; omega), Option.bind_some]
    have hnl := numsG_len (ws.map toB) []
    simp only
    rcases hq : numsG (ws.map toB) [] with ⟨r, ok⟩
    rw [hq] at hnl
    simp only [List.length_map, List.length_nil, Nat.zero_add] at hnl
    simp only [List.length_cons] at hlen
    cases ok with
    | false => rw [if_pos (by simp)]; cases r <;> rfl
    | true =>
      rw [if_neg (by simp)]
      cases r with
      | nil => rw [if_pos (by simp)]; rfl
      | cons n0 ns =>
        simp only [List.length_cons] at hnl
        rw [if_neg (by simp <;> omega), if_pos (by simp <;> omega)]
        have e0 : rdT (.int .i64) (n0 :: ns) (0 : Int) = n0 := rfl
        have e1 : rdT .str ((w :: ws).map toB) (0 : Int) = toB w := rfl
        have eq1 : ∀ v : List UInt8, ((toB w).toList == (bs v).toList) = decide (w = v) := by
          intro v
          rw [ba_eqb, bs_toB]
          exact decide_eq_decide.2 toB_eq
        have e2 : cutL (n0 :: ns) (2 : Int) ((n0 :: ns).length : Int) = (n0 :: ns).drop 2 := cutL_one _ 2
        simp only [e0]
        unfold record_Read.j0 readN
        rw [if_pos (by simp <;> omega)]
        simp only [e1, eq1]
        by_cases w1 : w = [119]
        · rw [if_pos (by simpa using w1), if_pos w1]
          cases ns with
          | nil => rw [if_neg (by simp)]; rfl
          | cons q vs => rw [if_pos (by simp <;> omega)]; rfl
        · rw [if_neg (by simpa using w1), if_neg w1]
          by_cases w2 : w = [120]
          · rw [if_pos (by simpa using w2), if_pos w2, Option.bind_some]
            simp only [e2]
            cases ns with
            | nil => rw [if_pos (by simp)]; rfl
            | cons q vs =>
              rw [if_neg (by simp <;> omega), if_pos (by simp)]
              cases vs with
              | nil => rw [if_neg (by simp)]; rfl
              | cons v vs => rw [if_pos (by simp <;> omega)]; rfl
          · rw [if_neg (by simpa using w2), if_neg w2]
            by_cases w3 : w = [101]
            · rw [if_pos (by simpa using w3), if_pos w3, Option.bind_some]
              simp only [e2]
              cases ns with
              | nil => rw [if_pos (by simp)]; rfl
              | cons q vs =>
                rw [if_neg (by simp <;> omega), if_neg (by simp), if_pos (by simp <;> omega), if_pos (by simp <;> omega)]; rfl
            · rw [if_neg (by simpa using w3), if_neg w3]; rfl
theorem rread_line {r : Rc} (hr : okRc r) (hm : mayR r = true) : readR (lineR r) = (r, true) := by
  have hin := numsR_in hr
  obtain ⟨a, t, q, l⟩ := r
  unfold readR lineR
  rw [if_pos hm, toB_data, numL_words _ _ (sgnR_no32 _)]
  simp only
  rw [numsG_toB _ hin]
  unfold mayR at hm
  simp only at hm ⊢
  by_cases h2 : a = 2
  · subst h2
    have hq : q = 0 ∧ l = [] := by simpa using hm
    obtain ⟨rfl, rfl⟩ := hq
    rfl
  · by_cases h3 : a = 3
    · subst h3
      have hq : l = [] := by simpa using hm
      subst hq
      rfl
    · have h1 : a = 1 := by simp [h2, h3] at hm; exact hm
      subst h1
      rfl
theorem rread_none : readR (bs []) = failR := rfl
theorem readN_ok {w : List UInt8} {n0 : Int} {ns : List Int} {r : Rc} (h : readN w n0 ns = (r, true)) : sgnR r.1 = w ∧ numsR r = n0 :: ns ∧ mayR r = true ∧ (r.1 = 1 ∨ r.1 = 2 ∨ r.1 = 3) ∧ (r.2.2.2.length ≤ ns.length) ∧ (∀ n ∈ r.2.2.2, n ∈ n0 :: ns) ∧ r.2.1 = n0 ∧ (r.2.2.1 = 0 ∨ r.2.2.1 ∈ n0 :: ns) := by
  unfold readN at h
  split at h
  · rename_i hw
    split at h
    · rename_i hn
      subst hn hw
      cases h
      exact ⟨rfl, rfl, rfl, .inr (.inl rfl), by simp, by simp, rfl, .inl rfl⟩
    · cases h
  · split at h
    · rename_i hw
      split at h
      · rename_i q
        cases h
        subst hw
        exact ⟨rfl, rfl, rfl, .inr (.inr rfl), by simp, by simp, rfl, .inr (by simp)⟩
      · cases h
    · split at h
      · rename_i hw
        split at h
        · rename_i q vs
          cases h
          subst hw
          exact ⟨rfl, rfl, rfl, .inl rfl, by simp, fun n hn => by simp [hn], rfl, .inr (by simp)⟩
        · cases h
      · cases h
theorem rread_back {s : ByteArray} {r : Rc} (h : readR s = (r, true)) : lineR r = s ∧ mayR r = true ∧ In64 r.1 ∧ In64 r.2.1 ∧ In64 r.2.2.1 ∧ (∀ n ∈ r.2.2.2, In64 n) ∧ r.2.2.2.length ≤ s.size + 1 := by
  have hj := joinL_words s.data.toList
  have hln := wordsL_len s.data.toList
  rw [ba_len] at hln
  unfold readR at h
  split at h
  · cases h
  · rename_i w ws hw
    rw [hw] at hj hln
    split at h
    · rename_i n0 ns hq
      obtain ⟨a1, a2, a3, a4, a5, a6, a7, a8⟩ := readN_ok h
      obtain ⟨l', h4, h5, h6⟩ := numsG_back _ [] _ hq
      simp only [List.nil_append] at h4
      subst h4
      refine ⟨?_, a3, ?_, ?_, ?_, fun n hn => h6 n (a6 n hn), ?_⟩
      · unfold lineR
        rw [if_pos a3, a1, a2]
        unfold numL
        rw [← h5, hj, toB_of]
      · constructor <;> omega
      · rw [a7]; exact h6 n0 (by simp)
      · rcases a8 with a8 | a8
        · rw [a8]; exact ⟨by decide, by decide⟩
        · exact h6 _ a8
      · have := congrArg List.length h5
        simp at this hln
        omega
    · cases h
theorem itoa_sm {u : Nat} (h : u < 10) : Lib.itoa (u : Int) = [digB u] := by
  rw [itoa_data, if_neg (by omega), Int.natAbs_natCast, dec_small h]
theorem itoa_ng {u : Nat} (h : u < 10) (h0 : 0 < u) : Lib.itoa (-(u : Int)) = [45, digB u] := by
  rw [itoa_data, if_pos (by omega), Int.natAbs_neg, Int.natAbs_natCast, dec_small h]
theorem lives33 {k : Nat} (hk : 20 < k) : law33_lives.f k = some true := by
  have h5 : Lib.itoa 5 = [53] := itoa_sm (u := 5) (by decide)
  have h0 : Lib.itoa 0 = [48] := itoa_sm (u := 0) (by decide)
  have h7 : Lib.itoa 7 = [55] := itoa_sm (u := 7) (by decide)
  have h1 : Lib.itoa (-1) = [45, 49] := itoa_ng (u := 1) (by decide) (by decide)
  have e : bs [101, 32, 53, 32, 48, 32, 55, 32, 45, 49] = lineR (1, 5, 0, [7, -1]) := by
    apply ba_ext
    unfold lineR
    rw [if_pos (by rfl), toB_data, bs_data]
    simp only [numL, numsR, if_neg (show ¬ (1 : Int) = 2 by decide), List.map_cons, List.map_nil, h5, h0, h1, h7]
    rfl
  unfold law33_lives.f
  rw [rread_is (by rw [bs_size]; simp) (by rw [bs_size]; simp <;> omega), Option.bind_some, e, rread_line ⟨⟨by decide, by decide⟩, ⟨by decide, by decide⟩, ⟨by decide, by decide⟩, by intro n hn; simp at hn; rcases hn with rfl | rfl <;> exact ⟨by decide, by decide⟩, by decide⟩ (by rfl)]
  rfl
/-! ### order -/
def cmpI (x y : Int) : Int := if x < y then -1 else if y < x then 1 else 0
def cmpR (a b : Rc) : Int := if cmpI a.2.1 b.2.1 ≠ 0 then cmpI a.2.1 b.2.1 else cmpI a.2.2.1 b.2.2.1
theorem cmpI_is (k : Nat) (x y : Int) : cmp_Compare_int64_.f k x y = some (cmpI x y) := by
  unfold cmp_Compare_int64_.f cmp_isNaN_int64_.f cmpI
  simp only [bne_self_eq_false, Option.bind_some]
  rw [if_neg (by decide), if_neg (by decide)]
  by_cases h : x < y
  · rw [if_pos (by simpa using h), if_pos h]
  · rw [if_neg (by simpa using h), if_neg h]
    by_cases h2 : y < x
    · rw [if_pos (by simpa using h2), if_pos h2]
    · rw [if_neg (by simpa using h2), if_neg h2]
theorem cmpR_is {k : Nat} (hk : 5 < k) (a b : Rc) : record_Cmp.f k a b = some (cmpR a b) := by
  obtain ⟨k, rfl⟩ : ∃ q, k = q + 3 := ⟨k - 3, by omega⟩
  unfold record_Cmp.f cmp_Or_int_.f cmpR
  rw [cmpI_is, cmpI_is, Option.bind_some, Option.bind_some]
  generalize cmpI a.2.1 b.2.1 = x
  generalize cmpI a.2.2.1 b.2.2.1 = y
  have r0 : ∀ a b : Int, rdT (.int .i64) [a, b] (0 : Int) = a := fun _ _ => rfl
  have r1 : ∀ a b : Int, rdT (.int .i64) [a, b] (1 : Int) = b := fun _ _ => rfl
  have w1 : wrap64 1 = 1 := w64' (by decide) (by decide)
  have w2 : wrap64 2 = 2 := w64' (by decide) (by decide)
  by_cases hx : x = 0
  · by_cases hy : y = 0
    · simp [cmp_Or_int_.l0, r0, r1, w1, w2, hx, hy]
    · simp [cmp_Or_int_.l0, r0, r1, w1, w2, hx, hy]
  · simp [cmp_Or_int_.l0, r0, r1, w1, w2, hx]
theorem cmpR_lt (a b : Rc) : (cmpR a b = -1 ∧ (a.2.1 < b.2.1 ∨ a.2.1 = b.2.1 ∧ a.2.2.1 < b.2.2.1)) ∨ (cmpR a b = 0 ∧ a.2.1 = b.2.1 ∧ a.2.2.1 = b.2.2.1) ∨ (cmpR a b = 1 ∧ (b.2.1 < a.2.1 ∨ a.2.1 = b.2.1 ∧ b.2.2.1 < a.2.2.1)) := by
  unfold cmpR cmpI
  split <;> split <;> first | omega | (split <;> omega) | skip
  all_goals (repeat' split) <;> omega
/-! ### the law -/
theorem sameR_is {k : Nat} {a b : Rc} (h : a.2.2.2.length < k) (h1 : a.2.2.2.length ≤ 1000000) (h2 : b.2.2.2.length ≤ 1000000) : ref33_Same.f k a b = some (decide (a = b)) := by
  obtain ⟨x, t, q, l⟩ := a
  obtain ⟨x', t', q', l'⟩ := b
  simp only at h h1 h2
  unfold ref33_Same.f
  by_cases e1 : x = x'
  · by_cases e2 : t = t'
    · by_cases e3 : q = q'
      · subst e1 e2 e3
        simp only
        rw [if_pos (by simp), if_pos (by simp), if_pos (by simp), nums3_is (by omega) (by omega) h, Option.bind_some]
        congr 1
        simp
      · simp [e1, e2, e3]
    · simp [e1, e2]
  · simp [e1]
theorem back_step {k : Nat} (hk : 1000 < k) (n : Nat) (line : ByteArray) (A B C : Rc) (hA : inRc A) (hB : inRc B) (hC : inRc C) (hk2 : 10000 < k) (i : Nat) (hi : i < 3) (l1 l2 l3 : Int) (l4 : List Int) (l5 l6 l7 : Int) (l8 : List Int) (l9 l10 l11 : Int) (l12 : List Int) :
    law33_RecordBack.l0 k (n + 1) line A.1 A.2.1 A.2.2.1 A.2.2.2 B.1 B.2.1 B.2.2.1 B.2.2.2 C.1 C.2.1 C.2.2.1 C.2.2.2 (i : Int) l1 l2 l3 l4 l5 l6 l7 l8 l9 l10 l11 l12 = some (.inl true) ∨
    law33_RecordBack.l0 k (n + 1) line A.1 A.2.1 A.2.2.1 A.2.2.2 B.1 B.2.1 B.2.2.1 B.2.2.2 C.1 C.2.1 C.2.2.1 C.2.2.2 (i : Int) l1 l2 l3 l4 l5 l6 l7 l8 l9 l10 l11 l12 =
    law33_RecordBack.l0 k n line A.1 A.2.1 A.2.2.1 A.2.2.2 B.1 B.2.1 B.2.2.1 B.2.2.2 C.1 C.2.1 C.2.2.1 C.2.2.2 ((i + 1 : Nat) : Int) l1 l2 l3 l4 l5 l6 l7 l8 l9 l10 l11 l12 := by
  simp only [law33_RecordBack.l0, Prod.eta]
  rw [if_pos (by simp <;> omega), if_pos (by omega)]
  have hr : inRc (rdT (.pair (.int .i64) (.pair (.int .i64) (.pair (.int .i64) (.list (.int .i64))))) [A, B, C] (i : Int)) := by
    have : i = 0 ∨ i = 1 ∨ i = 2 := by omega
    rcases this with rfl | rfl | rfl
    · exact hA
    · exact hB
    · exact hC
  generalize rdT (.pair (.int .i64) (.pair (.int .i64) (.pair (.int .i64) (.list (.int .i64))))) [A, B, C] (i : Int) = r at hr ⊢
  obtain ⟨a, t, q, l⟩ := r
  simp only
  by_cases h2 : 200 < l.length
  · left
    rw [if_pos (by simp <;> omega), lives33 (by omega), Option.bind_some]
  · right
    have hn : l.length ≤ 1000000 := by omega
    have hr : okRc (a, t, q, l) := ⟨hr.1, hr.2.1, hr.2.2.1, hr.2.2.2, hn⟩
    have hlen : (lineR (a, t, q, l)).size ≤ 6000 := by
      unfold lineR
      split
      · rw [toB_size]
        have h1 := numL_len (sgnR a) (numsR (a, t, q, l)) (numsR_in hr)
        rw [sgnR_len] at h1
        have h3 : (numsR (a, t, q, l)).length ≤ 202 := by unfold numsR; split <;> simp <;> omega
        simp only
        omega
      · decide
    rw [if_neg (by simp <;> omega), rline_is hr (by simp only; omega), Option.bind_some, rread_is (by omega) (by omega), Option.bind_some, mayR_is, Option.bind_some, w64n (by omega)]
    rw [ba_eqb]
    cases hm : mayR (a, t, q, l) with
    | true =>
      have hne : ¬ lineR (a, t, q, l) = bs [] := by rw [lineR_ne, hm]; decide
      rw [rread_line hr hm, decide_eq_false hne]
      have hs := sameR_is (k := k) (a := (a, t, q, l)) (b := (a, t, q, l)) (by simp only; omega) hn hn
      simp [hs]
    | false =>
      have hne : lineR (a, t, q, l) = bs [] := lineR_ne.2 hm
      rw [hne, rread_none]
      simp [failR]
theorem back_end (k n : Nat) (line : ByteArray) (a1 a2 a3 : Int) (a4 : List Int) (b1 b2 b3 : Int) (b4 : List Int) (c1 c2 c3 : Int) (c4 : List Int) (l1 l2 l3 : Int) (l4 : List Int) (l5 l6 l7 : Int) (l8 : List Int) (l9 l10 l11 : Int) (l12 : List Int) :
    law33_RecordBack.l0 k (n + 1) line a1 a2 a3 a4 b1 b2 b3 b4 c1 c2 c3 c4 ((3 : Nat) : Int) l1 l2 l3 l4 l5 l6 l7 l8 l9 l10 l11 l12 = some (.inr (line, l1, l2, l3, l4, l5, l6, l7, l8, l9, l10, l11, l12)) := by
  simp only [law33_RecordBack.l0]
  rw [if_neg (by simp)]
theorem tree {lv : Option Bool} (hlv : lv = some true) (a b c d : Int) (h0 : d = wrap64 (0 - a)) (h1 : a < 0 ∨ b < 0 ∨ 0 ≤ c) (h2 : 0 < a ∨ 0 < b ∨ c ≤ 0) :
    (if (d == (wrap64 (0 - a))) = true then
        if (decide (a < (0 : Int))) = true then
          if (decide ((0 : Int) < a)) = true then lv.bind fun y => some y
          else if (decide ((0 : Int) < b)) = true then lv.bind fun y => some y
          else if (decide (c ≤ (0 : Int))) = true then lv.bind fun y => some y
          else some false
        else if (decide (b < (0 : Int))) = true then
          if (decide ((0 : Int) < a)) = true then lv.bind fun y => some y
          else if (decide ((0 : Int) < b)) = true then lv.bind fun y => some y
          else if (decide (c ≤ (0 : Int))) = true then lv.bind fun y => some y
          else some false
        else if (decide ((0 : Int) ≤ c)) = true then
          if (decide ((0 : Int) < a)) = true then lv.bind fun y => some y
          else if (decide ((0 : Int) < b)) = true then lv.bind fun y => some y
          else if (decide (c ≤ (0 : Int))) = true then lv.bind fun y => some y
          else some false
        else some false
      else some false) = some true := by
  subst h0 hlv
  simp only [beq_self_eq_true, if_true, decide_eq_true_eq, Option.bind_some]
  repeat' split
  all_goals first | rfl | (exfalso; omega)
theorem recordBack_law (A B C : Rc) (line : ByteArray) (hA : inRc A) (hB : inRc B) (hC : inRc C) : ∃ k, law33_RecordBack.f k (A, B, C) line = some true := by
  refine ⟨20000, ?_⟩
  unfold law33_RecordBack.f
  by_cases hs : 3000 < line.size
  · rw [if_pos (by simp <;> omega), lives33 (by decide), Option.bind_some]
  rw [if_neg (by simp <;> omega)]
  have step := fun n i hi => back_step (k := 20000) (by decide) n line A B C hA hB hC (by decide) i hi A.1 A.2.1 A.2.2.1 A.2.2.2 B.1 B.2.1 B.2.2.1 B.2.2.2 C.1 C.2.1 C.2.2.1 C.2.2.2
  have h3 : law33_RecordBack.l0 20000 19997 line A.1 A.2.1 A.2.2.1 A.2.2.2 B.1 B.2.1 B.2.2.1 B.2.2.2 C.1 C.2.1 C.2.2.1 C.2.2.2 ((3 : Nat) : Int) A.1 A.2.1 A.2.2.1 A.2.2.2 B.1 B.2.1 B.2.2.1 B.2.2.2 C.1 C.2.1 C.2.2.1 C.2.2.2 = some (.inr (line, A.1, A.2.1, A.2.2.1, A.2.2.2, B.1, B.2.1, B.2.2.1, B.2.2.2, C.1, C.2.1, C.2.2.1, C.2.2.2)) := back_end 20000 19996 line _ _ _ _ _ _ _ _ _ _ _ _ _ _ _ _ _ _ _ _ _ _ _ _
  have hl0 : law33_RecordBack.l0 20000 20000 line A.1 A.2.1 A.2.2.1 A.2.2.2 B.1 B.2.1 B.2.2.1 B.2.2.2 C.1 C.2.1 C.2.2.1 C.2.2.2 (0 : Int) A.1 A.2.1 A.2.2.1 A.2.2.2 B.1 B.2.1 B.2.2.1 B.2.2.2 C.1 C.2.1 C.2.2.1 C.2.2.2 = some (.inl true) ∨
      law33_RecordBack.l0 20000 20000 line A.1 A.2.1 A.2.2.1 A.2.2.2 B.1 B.2.1 B.2.2.1 B.2.2.2 C.1 C.2.1 C.2.2.1 C.2.2.2 (0 : Int) A.1 A.2.1 A.2.2.1 A.2.2.2 B.1 B.2.1 B.2.2.1 B.2.2.2 C.1 C.2.1 C.2.2.1 C.2.2.2 = some (.inr (line, A.1, A.2.1, A.2.2.1, A.2.2.2, B.1, B.2.1, B.2.2.1, B.2.2.2, C.1, C.2.1, C.2.2.1, C.2.2.2)) := by
    rcases step 19999 0 (by decide) with h | h
    · exact .inl h
    · have h' := h
      rcases step 19998 1 (by decide) with g | g
      · exact .inl (h'.trans g)
      · rcases step 19997 2 (by decide) with f | f
        · exact .inl (h'.trans (g.trans f))
        · exact .inr (h'.trans (g.trans (f.trans h3)))
  simp only
  rcases hl0 with h | h
  · rw [h, Option.bind_some]
  · rw [h, Option.bind_some]
    simp only [Prod.eta]
    rw [rread_is (by omega) (by omega), Option.bind_some]
    have ab := cmpR_lt A B
    have bc := cmpR_lt B C
    have ac := cmpR_lt A C
    have ba := cmpR_lt B A
    have hd : cmpR B A = wrap64 (0 - cmpR A B) := by
      rw [w64' (by omega) (by omega)]; omega
    have t := tree (lives33 (k := 20000) (by decide)) (cmpR A B) (cmpR B C) (cmpR A C) (cmpR B A) hd (by omega) (by omega)
    simp only [cmpR_is (show 5 < 20000 by decide), Option.bind_some]
    rcases hr : readR line with ⟨r, ok⟩
    cases ok with
    | true =>
      obtain ⟨e1, e2, e3, e4, e5, e6, e7⟩ := rread_back hr
      simp only
      rw [if_pos trivial, rline_is ⟨e3, e4, e5, e6, by omega⟩ (by omega), Option.bind_some, e1, if_neg (by simp)]
      rw [if_pos (by decide), if_pos (by decide), if_pos (by decide), if_pos (by decide), if_pos (by decide), if_pos (by decide), if_pos (by decide), if_pos (by decide)]
      exact t
    | false =>
      simp only
      rw [if_neg (by decide)]
      rw [if_pos (by decide), if_pos (by decide), if_pos (by decide), if_pos (by decide), if_pos (by decide), if_pos (by decide), if_pos (by decide), if_pos (by decide)]
      exact t
theorem inRc_of {r : Ty.T (.pair (.int .i64) (.pair (.int .i64) (.pair (.int .i64) (.list (.int .i64)))))} (h : Wfd (.pair (.int .i64) (.pair (.int .i64) (.pair (.int .i64) (.list (.int .i64))))) r) : inRc r :=
  ⟨wrap_i64_bounds h.1, wrap_i64_bounds h.2.1, wrap_i64_bounds h.2.2.1, fun n hn => wrap_i64_bounds (h.2.2.2.2 n hn)⟩
abbrev RcTy : Ty := .pair (.int .i64) (.pair (.int .i64) (.pair (.int .i64) (.list (.int .i64))))
theorem recordBack_wf (l : Ty.T (.pair RcTy (.pair RcTy RcTy))) (line : Ty.T .str) (h : Wfd (.pair RcTy (.pair RcTy RcTy)) l) (hl : Wfd .str line) : ∃ k, law33_RecordBack.f k l line = some true :=
  recordBack_law l.1 l.2.1 l.2.2 line (inRc_of h.1) (inRc_of h.2.1) (inRc_of h.2.2)
end Go.Proofs.YtpmnhbjbkoackaaDoor.En
