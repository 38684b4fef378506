/- A delta's line and back: what the plain functions come to. -/
import Derived.Test.YtpmnhbjbkoackaaDoorPLine
import Derived.Test.YtpmnhbjbkoackaaDoorEn19
namespace Go.Proofs.YtpmnhbjbkoackaaDoor.En
open Go Go.RowKit Go.Proofs.YtpmnhbjbkoackaaDoor.Dig
set_option linter.unusedVariables false
set_option linter.unusedSimpArgs false
abbrev Dl := Int × Int × List Int
def mayB (d : Dl) : Bool := ((d.1 == 1 || d.1 == 2) && decide (0 ≤ d.2.1)) || (d.1 == 3 && decide (0 ≤ d.2.1) && d.2.2.isEmpty)
theorem may_is (k : Nat) (d : Dl) : delta_may.f k d = some (mayB d) := by
  obtain ⟨a, b, l⟩ := d
  unfold delta_may.f delta_may.j0 mayB
  by_cases h1 : a = 1
  · subst h1; simp
  · by_cases h2 : a = 2
    · subst h2; simp
    · by_cases h3 : a = 3
      · subst h3
        by_cases hb : 0 ≤ b
        · cases l <;> simp [hb]; omega
        · simp [hb]
      · simp [h1, h2, h3]
def sgn (a : Int) : List UInt8 := if a = 1 then [43] else if a = 2 then [61] else [45]
theorem sgn_no32 (a : Int) : ∀ c ∈ sgn a, c ≠ 32 := by
  intro c hc
  unfold sgn at hc
  split at hc
  · simp at hc; subst hc; decide
  · split at hc
    · simp at hc; subst hc; decide
    · simp at hc; subst hc; decide
theorem sgn_len (a : Int) : (sgn a).length = 1 := by unfold sgn; split; rfl; split <;> rfl
/-- a delta's line -/
def lineD (d : Dl) : ByteArray := if mayB d = true then toB (numL (sgn d.1) (d.2.1 :: d.2.2)) else bs []
def okD (d : Dl) : Prop := In64 d.1 ∧ In64 d.2.1 ∧ (∀ n ∈ d.2.2, In64 n) ∧ d.2.2.length ≤ 1000000
theorem line_loop (k : Nat) (l : List Int) (hl : l.length ≤ 1000000) : ∀ (d i n : Nat) (ws : List ByteArray), i + d = l.length → ws.length ≤ i + 2 → d < n →
    delta_Line.l0 k n ws l (l.length : Int) (i : Int) = some (ws ++ (l.drop i).map itoaB) := by
  intro d
  induction d with
  | zero =>
    intro i n ws hi hw hn
    obtain ⟨n, rfl⟩ : ∃ q, n = q + 1 := ⟨n - 1, by omega⟩
    simp only [delta_Line.l0]
    rw [if_neg (by simp <;> omega), List.drop_eq_nil_of_le (by omega)]; simp
  | succ d ih =>
    intro i n ws hi hw hn
    obtain ⟨n, rfl⟩ : ∃ q, n = q + 1 := ⟨n - 1, by omega⟩
    simp only [delta_Line.l0]
    rw [if_pos (by simp <;> omega), if_pos (by omega), rdT_nat, put_is, Option.bind_some, if_pos (by simp <;> omega), w64n (by omega), ih (i + 1) n _ (by omega) (by simp <;> omega) (by omega), getD_drop l i (Ty.dflt (.int .i64)) (by omega)]
    simp
theorem sgn_cut {a : Int} (h : a = 1 ∨ a = 2 ∨ a = 3) : (bs [32, 43, 61, 45]).extract a.toNat (wrap64 (a + 1)).toNat = toB (sgn a) := by
  apply ba_ext
  rw [ext_data, toB_data]
  rcases h with rfl | rfl | rfl <;> (rw [w64' (by decide) (by decide)]; rfl)
theorem may_kind {d : Dl} (h : mayB d = true) : (d.1 = 1 ∨ d.1 = 2 ∨ d.1 = 3) ∧ 0 ≤ d.2.1 := by
  unfold mayB at h
  simp at h
  omega
theorem line_is {k : Nat} {d : Dl} (hd : okD d) (hk : d.2.2.length < k) : delta_Line.f k d = some (lineD d) := by
  obtain ⟨a, b, l⟩ := d
  obtain ⟨ha, hb, hl, hn⟩ := hd
  simp only at ha hb hl hn hk
  unfold delta_Line.f lineD
  rw [may_is, Option.bind_some]
  cases hm : mayB (a, b, l) with
  | false => rw [if_pos (by simp), if_neg (by simp)]
  | true =>
    have hkd := (may_kind hm).1
    simp only at hkd
    rw [if_neg (by simp), if_pos rfl, if_pos (by simp only [bs_size]; rcases hkd with rfl | rfl | rfl <;> (rw [w64' (by decide) (by decide)]; simp)), put_is, Option.bind_some]
    rw [show (0 : Int) = ((0 : Nat) : Int) from rfl, line_loop k l (by omega) l.length 0 k _ (by omega) (by simp) hk, Option.bind_some, sgn_cut hkd, List.drop_zero]
    have e : [toB (sgn a), itoaB b] ++ l.map itoaB = (sgn a :: (b :: l).map Lib.itoa).map toB := by
      simp [itoaB_toB]
    have hlen := numL_len (sgn a) (b :: l) (fun n hn => by rcases List.mem_cons.1 hn with rfl | hn; exact hb; exact hl n hn)
    rw [sgn_len] at hlen
    unfold numL at hlen
    rw [e, xjoin_is _ (by simp at hlen ⊢; omega) (by simp <;> omega), Option.bind_some]; rfl
theorem refline_loop (k : Nat) (hk : 20 < k) (a b : Int) (l : List Int) (hl : l.length ≤ 1000000) (hin : ∀ n ∈ l, In64 n) (hd : List UInt8) (hhd : hd.length ≤ 100) : ∀ (d i n : Nat) (s : ByteArray), i + d = l.length → s = toB (numL hd (l.take i)) → d < n →
    ref32_Line.l0 k n s (i : Int) a b l = some (toB (numL hd l)) := by
  intro d
  induction d with
  | zero =>
    intro i n s hi hs hn
    obtain ⟨n, rfl⟩ : ∃ q, n = q + 1 := ⟨n - 1, by omega⟩
    simp only [ref32_Line.l0]
    rw [if_neg (by simp <;> omega), hs, List.take_of_length_le (by omega)]
  | succ d ih =>
    intro i n s hi hs hn
    obtain ⟨n, rfl⟩ : ∃ q, n = q + 1 := ⟨n - 1, by omega⟩
    have hlt : i < l.length := by omega
    have hmem : l.getD i (Ty.dflt (.int .i64)) ∈ l := by rw [List.getD_eq_getElem?_getD, List.getElem?_eq_getElem hlt]; exact List.getElem_mem hlt
    have hlen := numL_len hd (l.take i) (fun n hn => hin n (List.mem_of_mem_take hn))
    have hsz : s.size ≤ 21000200 := by rw [hs, toB_size]; simp at hlen; omega
    have hp := itoaB_size (hin _ hmem)
    simp only [ref32_Line.l0]
    rw [if_pos (by simp <;> omega), if_pos (by rw [bs_size]; simp; omega), if_pos (by omega), rdT_nat, refPut_is hk (hin _ hmem), Option.bind_some, if_pos (by rw [ByteArray.size_append, bs_size]; simp only [List.length_cons, List.length_nil]; omega), w64n (by omega)]
    refine ih (i + 1) n _ (by omega) ?_ (by omega)
    apply ba_ext
    rw [app_data, app_data, hs, toB_data, toB_data, List.take_succ_eq_append_getElem hlt, numL_snoc, itoaB_toB, toB_data, List.getD_eq_getElem?_getD, List.getElem?_eq_getElem hlt]
    simp [bs_data]
theorem refline_is {k : Nat} {d : Dl} (hd : okD d) (hk : d.2.2.length < k) (hk2 : 20 < k) : ref32_Line.f k d = some (lineD d) := by
  obtain ⟨a, b, l⟩ := d
  obtain ⟨ha, hb, hl, hn⟩ := hd
  simp only at ha hb hl hn hk
  have main : ∀ hd : List UInt8, (a = 1 ∧ hd = [43, 32] ∨ a = 2 ∧ hd = [61, 32] ∨ a = 3 ∧ hd = [45, 32]) → (if 0 ≤ a ∧ a < List.length [(bs []), (bs [43, 32]), (bs [61, 32]), (bs [45, 32])] then
    (ref10_Put.f k b).bind fun y2 =>
    if (rdT .str [(bs []), (bs [43, 32]), (bs [61, 32]), (bs [45, 32])] a).size + y2.size ≤ 9223372036854775807 then
    (ref32_Line.l0 k k ((rdT .str [(bs []), (bs [43, 32]), (bs [61, 32]), (bs [45, 32])] a) ++ y2) (0 : Int) a b l).bind fun r9 =>
    some r9
    else none
    else none) = some (toB (numL (sgn a) (b :: l))) := by
    intro hd hh
    have hr : rdT .str [(bs []), (bs [43, 32]), (bs [61, 32]), (bs [45, 32])] a = toB hd := by
      rcases hh with ⟨rfl, rfl⟩ | ⟨rfl, rfl⟩ | ⟨rfl, rfl⟩ <;> rfl
    have hhl : hd.length = 2 := by rcases hh with ⟨_, rfl⟩ | ⟨_, rfl⟩ | ⟨_, rfl⟩ <;> rfl
    have hds : hd = sgn a ++ [32] := by rcases hh with ⟨rfl, rfl⟩ | ⟨rfl, rfl⟩ | ⟨rfl, rfl⟩ <;> rfl
    have hp := itoaB_size hb
    rw [if_pos (by rcases hh with ⟨rfl, _⟩ | ⟨rfl, _⟩ | ⟨rfl, _⟩ <;> decide), refPut_is hk2 hb, Option.bind_some, hr, if_pos (by rw [toB_size]; omega)]
    have hil := itoa_len hb
    rw [show (0 : Int) = ((0 : Nat) : Int) from rfl, refline_loop k hk2 a b l hn hl (hd ++ Lib.itoa b) (by simp <;> omega) l.length 0 k _ (by omega) (by apply ba_ext; rw [app_data, List.take_zero, numL_nil, toB_data, toB_data, itoaB_toB, toB_data]) hk, Option.bind_some]
    congr 2
    unfold numL
    rw [hds]
    cases l with
    | nil => simp [joinL]
    | cons x l => simp [joinL]
  unfold ref32_Line.f lineD mayB
  have hb1 : b < 0 → ¬ 0 ≤ b := fun h => by omega
  by_cases hb0 : b < 0
  · have hb1 := hb1 hb0
    by_cases hlo : a < 1
    · rw [if_pos (by simpa using hlo), if_neg (by simp [hb1])]
    · rw [if_neg (by simpa using hlo)]
      by_cases hhi : 3 < a
      · rw [if_pos (by simpa using hhi), if_neg (by simp [hb1])]
      · rw [if_neg (by simpa using hhi), if_pos (by simpa using hb0), if_neg (by simp [hb1])]
  by_cases h1 : a = 1
  · subst h1
    simp only
    rw [if_neg (by simp), if_neg (by simp), if_neg (by simpa using hb0), if_neg (by simp), main [43, 32] (.inl ⟨rfl, rfl⟩), if_pos (by simp <;> omega)]
  by_cases h2 : a = 2
  · subst h2
    simp only
    rw [if_neg (by simp), if_neg (by simp), if_neg (by simpa using hb0), if_neg (by simp), main [61, 32] (.inr (.inl ⟨rfl, rfl⟩)), if_pos (by simp <;> omega)]
  by_cases h3 : a = 3
  · subst h3
    simp only
    rw [if_neg (by simp), if_neg (by simp), if_neg (by simpa using hb0), if_pos (by simp)]
    cases l with
    | nil => rw [if_neg (by simp), main [45, 32] (.inr (.inr ⟨rfl, rfl⟩)), if_pos (by simp <;> omega)]
    | cons x l => rw [if_pos (by simp <;> omega), if_neg (by simp)]
  · by_cases hlo : a < 1
    · rw [if_pos (by simpa using hlo), if_neg (by simp [h1, h2, h3])]
    · rw [if_neg (by simpa using hlo), if_pos (by simp <;> omega), if_neg (by simp [h1, h2, h3])]
theorem lineD_ne {d : Dl} : (lineD d = bs []) ↔ mayB d = false := by
  unfold lineD
  cases h : mayB d with
  | false => simp
  | true =>
    simp only [if_true, bs_toB, toB_eq]
    refine ⟨fun e => ?_, fun e => by cases e⟩
    exfalso
    have h1 := congrArg wordsL e
    rw [numL_words _ _ (sgn_no32 _)] at h1
    have h2 := (List.cons.inj h1).2
    cases h2
/-! ### read -/
def kdOf (w : List UInt8) : Int := if w = [43] then 1 else if w = [61] then 2 else if w = [45] then 3 else 0
def fail : Dl × Bool := ((0, 0, []), false)
def readD (s : ByteArray) : Dl × Bool :=
  match wordsL s.data.toList with
  | [] => fail
  | w :: ws => if kdOf w = 0 then fail else match ws with
    | [] => fail
    | _ :: _ => match numsG (ws.map toB) [] with
      | (a :: l, true) => if a < 0 then fail else if mayB (kdOf w, a, l) = true then ((kdOf w, a, l), true) else fail
      | _ => fail
theorem kd_index (c : UInt8) : Lib.index [32, 43, 61, 45] [c] < 1 ∧ kdOf [c] = 0 ∨ 1 ≤ Lib.index [32, 43, 61, 45] [c] ∧ kdOf [c] = Lib.index [32, 43, 61, 45] [c] ∧ kdOf [c] ≠ 0 := by
  unfold kdOf
  by_cases h1 : c = 43
  · subst h1; exact .inr ⟨by decide, by decide, by decide⟩
  · by_cases h2 : c = 61
    · subst h2; exact .inr ⟨by decide, by decide, by decide⟩
    · by_cases h3 : c = 45
      · subst h3; exact .inr ⟨by decide, by decide, by decide⟩
      · left
        by_cases h0 : c = 32
        · subst h0; exact ⟨by decide, by decide⟩
        · refine ⟨?_, by simp [h1, h2, h3]⟩
          simp [Lib.index, List.isPrefixOf, h0, h1, h2, h3]
theorem read_is {k : Nat} {s : ByteArray} (hs : s.size ≤ 1000000) (hk : s.size + 2 < k) : delta_Read.f k s = some (readD s) := by
  have hsl := ba_len s
  have hlen := wordsL_len s.data.toList
  unfold delta_Read.f readD
  rw [words_is k s (by omega), Option.bind_some, wordsB_toB]
  cases hw : wordsL s.data.toList with
  | nil => exact absurd hw (wordsL_ne _)
  | cons w ws =>
    rw [hw] at hlen
    rw [if_pos (by simp)]
    have hr : rdT .str ((w :: ws).map toB) (0 : Int) = toB w := rfl
    have hx : x_Index (bs [32, 43, 61, 45]) (rdT .str ((w :: ws).map toB) (0 : Int)) = some (Lib.index [32, 43, 61, 45] w) := by
      unfold x_Index
      rw [if_pos (by rw [bs_size]; simp), hr, toB_data, bs_data]
    rw [hx, Option.bind_some, if_pos (by simp <;> omega), hr]
    by_cases hw1 : w.length = 1
    · obtain ⟨c, rfl⟩ := List.length_eq_one_iff.1 hw1
      rw [if_neg (by rw [toB_size]; simp)]
      rcases kd_index c with ⟨h1, h2⟩ | ⟨h1, h2, h3⟩
      · rw [if_pos (by simpa using h1)]
        simp only [h2]; rfl
      · rw [if_neg (by simp <;> omega)]
        simp only [if_neg h3]
        cases ws with
        | nil => rw [if_pos (by simp)]; rfl
        | cons v vs =>
          rw [if_neg (by simp <;> omega), if_pos (by simp <;> omega)]
          have hc : cutL (([c] :: v :: vs).map toB) (1 : Int) ((([c] :: v :: vs).map toB).length : Int) = (v :: vs).map toB := cutL_one _ 1
          rw [hc, nums_is (by simp at hlen ⊢; omega) (by simp at hlen ⊢; omega), Option.bind_some]
          have hnl := numsG_len ((v :: vs).map toB) []
          rcases hq : numsG ((v :: vs).map toB) [] with ⟨r, ok⟩
          rw [hq] at hnl
          cases ok with
          | false => rw [if_pos (by simp)]; cases r <;> rfl
          | true =>
            rw [if_neg (by simp)]
            obtain ⟨l, h4, h5, h6⟩ := numsG_back (v :: vs) [] r hq
            cases r with
            | nil => simp at h4; subst h4; simp at h5
            | cons a l =>
              rw [if_pos (by simp <;> omega)]
              have hr0 : rdT (.int .i64) (a :: l) (0 : Int) = a := rfl
              have hcl : cutL (a :: l) (1 : Int) ((a :: l).length : Int) = l := cutL_one _ 1
              simp only [hr0, hcl]
              by_cases ha : a < 0
              · rw [if_pos (by simpa using ha), if_pos ha]; rfl
              · rw [if_neg (by simpa using ha), if_neg ha, if_pos (by simp <;> omega), if_pos (by simp <;> omega), may_is, Option.bind_some, h2]
                cases mayB (Lib.index [32, 43, 61, 45] [c], a, l) with
                | true => rw [if_neg (by simp), if_pos rfl]
                | false => rw [if_pos (by simp), if_neg (by simp)]; rfl
    · rw [if_pos (by rw [toB_size, bne_iff_ne]; omega)]
      have : kdOf w = 0 := by
        unfold kdOf
        rw [if_neg (by rintro rfl; exact hw1 rfl), if_neg (by rintro rfl; exact hw1 rfl), if_neg (by rintro rfl; exact hw1 rfl)]
      simp only [this]; rfl
theorem kd_sgn {a : Int} (h : a = 1 ∨ a = 2 ∨ a = 3) : kdOf (sgn a) = a := by rcases h with rfl | rfl | rfl <;> rfl
theorem sgn_kd {w : List UInt8} (h : kdOf w ≠ 0) : sgn (kdOf w) = w := by
  unfold kdOf at h ⊢
  by_cases h1 : w = [43]
  · rw [if_pos h1, h1]; rfl
  · by_cases h2 : w = [61]
    · rw [if_neg h1, if_pos h2, h2]; rfl
    · by_cases h3 : w = [45]
      · rw [if_neg h1, if_neg h2, if_pos h3, h3]; rfl
      · rw [if_neg h1, if_neg h2, if_neg h3] at h; exact absurd rfl h
/-- what is written is read -/
theorem read_line {d : Dl} (hd : okD d) (hm : mayB d = true) : readD (lineD d) = (d, true) := by
  obtain ⟨a, b, l⟩ := d
  obtain ⟨ha, hb, hl, hn⟩ := hd
  obtain ⟨hk, h0⟩ := may_kind hm
  simp only at ha hb hl hn hk h0
  unfold readD lineD
  rw [if_pos hm, toB_data, numL_words _ _ (sgn_no32 _)]
  simp only
  rw [kd_sgn hk, if_neg (by omega)]
  have hg := numsG_toB (b :: l) (fun n hn => by rcases List.mem_cons.1 hn with rfl | hn; exact hb; exact hl n hn)
  simp only [List.map_cons] at hg ⊢
  rw [hg]
  simp only
  rw [if_neg (by omega), if_pos hm]
theorem read_none : readD (bs []) = fail := rfl
/-- what is read is a line -/
theorem read_back_line {s : ByteArray} {d : Dl} (h : readD s = (d, true)) : lineD d = s ∧ mayB d = true ∧ In64 d.1 ∧ In64 d.2.1 ∧ (∀ n ∈ d.2.2, In64 n) ∧ d.2.2.length ≤ s.size + 1 := by
  have hj := joinL_words s.data.toList
  have hln := wordsL_len s.data.toList
  rw [ba_len] at hln
  unfold readD at h
  split at h
  · cases h
  · rename_i w ws hw
    rw [hw] at hj hln
    split at h
    · cases h
    · rename_i hk
      split at h
      · cases h
      · rename_i v vs
        split at h
        · rename_i a l hq
          split at h
          · cases h
          · split at h
            · rename_i ha hm
              cases h
              obtain ⟨l', h4, h5, h6⟩ := numsG_back _ [] _ hq
              simp only [List.nil_append] at h4
              subst h4
              refine ⟨?_, hm, ?_, h6 a (by simp), fun n hn => h6 n (by simp [hn]), ?_⟩
              · unfold lineD
                rw [if_pos hm]
                simp only
                rw [sgn_kd hk]
                unfold numL
                rw [← h5, hj, toB_of]
              · have := (may_kind hm).1
                simp only at this
                constructor <;> omega
              · have := congrArg List.length h5
                simp at this hln ⊢
                omega
            · cases h
        · cases h
theorem read_fail {s : ByteArray} {d : Dl} (h : readD s = (d, false)) : d = (0, 0, []) := by
  have key : ∀ x : Dl × Bool, x = (d, false) → (x = fail ∨ x.2 = true) → d = (0, 0, []) := by
    rintro x rfl (h | h)
    · exact (Prod.mk.inj h).1
    · cases h
  refine key _ h ?_
  unfold readD
  split
  · exact .inl rfl
  · split
    · exact .inl rfl
    · split
      · exact .inl rfl
      · split
        · split
          · exact .inl rfl
          · split
            · exact .inr rfl
            · exact .inl rfl
        · exact .inl rfl
theorem same1 {k : Nat} (d : Dl) (h : d.2.2.length < k) (h2 : d.2.2.length ≤ 1000000) (hk : 1 < k) : ref16_Same.f k [d] [d] = some true := by
  obtain ⟨a, b, l⟩ := d
  obtain ⟨k, rfl⟩ : ∃ q, k = q + 2 := ⟨k - 2, by omega⟩
  have e : rdT (.pair (.int .i64) (.pair (.int .i64) (.list (.int .i64)))) [(a, b, l)] (0 : Int) = (a, b, l) := rfl
  have hn := nums3_is (k := k + 2) (a := l) (b := l) (by simp only at h2; omega) (by simp only at h2; omega) h
  unfold ref16_Same.f
  simp only [ref16_Same.l0, e, hn]
  simp [w64']
theorem itoa_small {u : Nat} (h : u < 10) : Lib.itoa (u : Int) = [digB u] := by
  rw [itoa_data, if_neg (by omega), Int.natAbs_natCast, dec_small h]
theorem itoa_neg {u : Nat} (h : u < 10) (h0 : 0 < u) : Lib.itoa (-(u : Int)) = [45, digB u] := by
  rw [itoa_data, if_pos (by omega), Int.natAbs_neg, Int.natAbs_natCast, dec_small h]
theorem lives32 {k : Nat} (hk : 20 < k) : law32_lives.f k = some true := by
  unfold law32_lives.f
  rw [line_is (d := (1, 0, [5, -1])) ⟨⟨by decide, by decide⟩, ⟨by decide, by decide⟩, by intro n hn; simp at hn; rcases hn with rfl | rfl <;> exact ⟨by decide, by decide⟩, by decide⟩ (by simp <;> omega), Option.bind_some, ba_eqb]
  congr 1
  rw [decide_eq_true_eq]
  apply ba_ext
  unfold lineD
  rw [if_pos (by rfl), toB_data, bs_data]
  have h5 : Lib.itoa 5 = [53] := itoa_small (u := 5) (by decide)
  have h0 : Lib.itoa 0 = [48] := itoa_small (u := 0) (by decide)
  have h1 : Lib.itoa (-1) = [45, 49] := itoa_neg (u := 1) (by decide) (by decide)
  simp only [numL, List.map_cons, List.map_nil, h5, h0, h1]
  rfl
theorem deltaLines_law (d : Dl) (line : ByteArray) (h1 : In64 d.1) (h2 : In64 d.2.1) (h3 : ∀ n ∈ d.2.2, In64 n) : ∃ k, law32_DeltaLines.f k d line = some true := by
  refine ⟨10000, ?_⟩
  unfold law32_DeltaLines.f
  by_cases hl : 100 < d.2.2.length
  · rw [if_pos (by simp <;> omega), lives32 (by decide), Option.bind_some]
  rw [if_neg (by simp <;> omega)]
  by_cases hs : 1000 < line.size
  · rw [if_pos (by simp <;> omega), lives32 (by decide), Option.bind_some]
  rw [if_neg (by simp <;> omega)]
  have hd : okD d := ⟨h1, h2, h3, by omega⟩
  have hsz : (lineD d).size ≤ 3000 := by
    unfold lineD
    split
    · rw [toB_size]
      have := numL_len (sgn d.1) (d.2.1 :: d.2.2) (fun n hn => by rcases List.mem_cons.1 hn with rfl | hn; exact h2; exact h3 n hn)
      rw [sgn_len] at this
      simp at this
      omega
    · decide
  rw [refline_is hd (by omega) (by decide), Option.bind_some, read_is (by omega) (by omega), Option.bind_some, read_is (by omega) (by omega), Option.bind_some, line_is hd (by omega), Option.bind_some]
  rw [if_neg (by simp), ba_eqb]
  have rest : ∀ b : Dl × Bool, readD line = b → (b.2 = true → ref32_Line.f 10000 b.1 = some line) ∧ (b.2 = false → ref16_Same.f 10000 [b.1] [((0 : Int), (0 : Int), ([] : List Int))] = some true) := by
    rintro ⟨b, ok⟩ hb
    refine ⟨fun h => ?_, fun h => ?_⟩
    · simp only at h
      subst h
      obtain ⟨e1, e2, e3, e4, e5, e6⟩ := read_back_line hb
      rw [refline_is ⟨e3, e4, e5, by omega⟩ (by omega) (by decide), e1]
    · simp only at h
      subst h
      rw [read_fail hb]
      exact same1 (0, 0, []) (by decide) (by decide) (by decide)
  have hrest := rest (readD line) rfl
  have hs1 := same1 (k := 10000) d (by omega) (by omega) (by decide)
  have hlv := lives32 (k := 10000) (by decide)
  cases hm : mayB d with
  | true =>
    have hne : ¬ lineD d = bs [] := by rw [lineD_ne, hm]; decide
    rw [read_line hd hm]
    simp only [decide_eq_false hne]
    cases hy : (readD line).2 with
    | true => simp [hs1, hlv, hrest.1 hy]
    | false => simp [hs1, hlv, hrest.2 hy]
  | false =>
    have hne : lineD d = bs [] := lineD_ne.2 hm
    rw [hne, read_none]
    cases hy : (readD line).2 with
    | true => simp [hlv, hrest.1 hy, fail]
    | false => simp [hlv, hrest.2 hy, fail]
theorem in64_of {n : Int} (h : IntKind.i64.wrap n = n) : In64 n := wrap_i64_bounds h
theorem deltaLines_wf (d : Ty.T (.pair (.int .i64) (.pair (.int .i64) (.list (.int .i64))))) (line : Ty.T .str) (hd : Wfd (.pair (.int .i64) (.pair (.int .i64) (.list (.int .i64)))) d) (hl : Wfd .str line) : ∃ k, law32_DeltaLines.f k d line = some true :=
  deltaLines_law d line (in64_of hd.1) (in64_of hd.2.1) (fun n hn => in64_of (hd.2.2.2 n hn))
end Go.Proofs.YtpmnhbjbkoackaaDoor.En
