/- Decimal digits: a number's writing and a writing's number; no Go and no memory. -/
import Derived.Test.YtpaeefnepfppfaaDoorDigWalk
import Derived.Lib.ItoaNum
import Derived.Lib.Strings
namespace Go.Proofs.YtpaeefnepfppfaaDoor.Xs
open Go Go.RowKit Go.Proofs.YtpaeefnepfppfaaDoor.Dig
set_option linter.unusedVariables false
set_option linter.unusedSimpArgs false
/-- a digit's sign -/
def digB (d : Nat) : UInt8 := UInt8.ofNat (48 + d)
theorem digB_nat {d : Nat} (h : d < 10) : (digB d).toNat = 48 + d := by unfold digB; simp; omega
/-- the number of digits, behind a number -/
def valF (l : List UInt8) (n : Nat) : Nat := l.foldl (fun n c => 10 * n + (c.toNat - 48)) n
theorem valF_app (a b : List UInt8) (n : Nat) : valF (a ++ b) n = valF b (valF a n) := by simp [valF]
abbrev dec := Lib.decDigits
theorem dec_small {u : Nat} (h : u < 10) : dec u = [digB u] := by show Lib.decDigits u = _; rw [Lib.decDigits, dif_pos h]; rfl
theorem dec_big {u : Nat} (h : ¬ u < 10) : dec u = dec (u / 10) ++ [digB (u % 10)] := by show Lib.decDigits u = _; rw [Lib.decDigits, dif_neg h]; rfl
theorem dec_ne (u : Nat) : dec u ≠ [] := by
  by_cases h : u < 10
  · rw [dec_small h]; simp
  · rw [dec_big h]; simp
theorem dec_dig : ∀ (u : Nat), ∀ c ∈ dec u, 48 ≤ c.toNat ∧ c.toNat ≤ 57 := by
  intro u
  induction u using Nat.strongRecOn with
  | ind u ih =>
    intro c hc
    by_cases h : u < 10
    · rw [dec_small h, List.mem_singleton] at hc
      subst hc; rw [digB_nat h]; omega
    · rw [dec_big h, List.mem_append] at hc
      rcases hc with hc | hc
      · exact ih (u / 10) (by omega) c hc
      · rw [List.mem_singleton] at hc
        subst hc; rw [digB_nat (by omega)]; omega
theorem isDig_iff {c : UInt8} : isDig c = true ↔ 48 ≤ c.toNat ∧ c.toNat ≤ 57 := by simp [isDig]
theorem dec_all (u : Nat) : (dec u).all isDig = true := List.all_eq_true.2 fun c hc => isDig_iff.2 (dec_dig u c hc)
theorem val_dec : ∀ (u : Nat), valF (dec u) 0 = u := by
  intro u
  induction u using Nat.strongRecOn with
  | ind u ih =>
    by_cases h : u < 10
    · rw [dec_small h]; show 10 * 0 + ((digB u).toNat - 48) = u; rw [digB_nat h]; omega
    · rw [dec_big h, valF_app, ih (u / 10) (by omega)]
      show 10 * (u / 10) + ((digB (u % 10)).toNat - 48) = u
      rw [digB_nat (by omega)]; omega
theorem dec_inj {u v : Nat} (h : dec u = dec v) : u = v := by rw [← val_dec u, ← val_dec v, h]
/-- the first digit of a number above 0 is not 0 -/
theorem dec_head : ∀ (u : Nat), 0 < u → (dec u).head? ≠ some 48 := by
  intro u
  induction u using Nat.strongRecOn with
  | ind u ih =>
    intro h0
    by_cases h : u < 10
    · rw [dec_small h]
      simp only [List.head?_cons, ne_eq, Option.some.injEq]
      intro e
      have := congrArg UInt8.toNat e
      rw [digB_nat h] at this
      have h48 : (48 : UInt8).toNat = 48 := rfl
      omega
    · rw [dec_big h, List.head?_append]
      have := ih (u / 10) (by omega) (by omega)
      cases hd : dec (u / 10) with
      | nil => exact absurd hd (dec_ne _)
      | cons a l => rw [hd] at this; simpa using this
theorem valF_lt : ∀ (l : List UInt8) (n : Nat), (∀ c ∈ l, 48 ≤ c.toNat ∧ c.toNat ≤ 57) → valF l n < (n + 1) * 10 ^ l.length
  | [], n, _ => by simp [valF]
  | c :: l, n, h => by
    have hc := h c List.mem_cons_self
    have ih := valF_lt l (10 * n + (c.toNat - 48)) (fun c hc => h c (List.mem_cons_of_mem _ hc))
    show valF l (10 * n + (c.toNat - 48)) < _
    have : (10 * n + (c.toNat - 48) + 1) * 10 ^ l.length ≤ ((n + 1) * 10) * 10 ^ l.length := Nat.mul_le_mul_right _ (by omega)
    rw [List.length_cons, Nat.pow_succ, Nat.mul_comm (10 ^ l.length) 10, ← Nat.mul_assoc]
    omega
theorem valF_ge : ∀ (l : List UInt8) (n : Nat), n * 10 ^ l.length ≤ valF l n
  | [], n => by simp [valF]
  | c :: l, n => by
    have ih := valF_ge l (10 * n + (c.toNat - 48))
    show _ ≤ valF l (10 * n + (c.toNat - 48))
    have : (n * 10) * 10 ^ l.length ≤ (10 * n + (c.toNat - 48)) * 10 ^ l.length := Nat.mul_le_mul_right _ (by omega)
    rw [List.length_cons, Nat.pow_succ, Nat.mul_comm (10 ^ l.length) 10, ← Nat.mul_assoc]
    omega
/-- digits that begin with no 0 are their number's writing -/
theorem dec_valF : ∀ (l : List UInt8) (n : Nat), 0 < n → (∀ c ∈ l, 48 ≤ c.toNat ∧ c.toNat ≤ 57) → dec (valF l n) = dec n ++ l
  | [], n, _, _ => by simp [valF]
  | c :: l, n, h0, h => by
    have hc := h c List.mem_cons_self
    show dec (valF l (10 * n + (c.toNat - 48))) = _
    rw [dec_valF l _ (by omega) (fun c hc => h c (List.mem_cons_of_mem _ hc)), dec_big (by omega), show (10 * n + (c.toNat - 48)) / 10 = n by omega, show (10 * n + (c.toNat - 48)) % 10 = c.toNat - 48 by omega]
    have e : digB (c.toNat - 48) = c := by apply UInt8.toNat_inj.mp; rw [digB_nat (by omega)]; omega
    rw [e, List.append_assoc]; rfl
theorem dec_val {c : UInt8} {l : List UInt8} (h : ∀ x ∈ c :: l, 48 ≤ x.toNat ∧ x.toNat ≤ 57) (h0 : l = [] ∨ c ≠ 48) : dec (valF (c :: l) 0) = c :: l := by
  have hc := h c List.mem_cons_self
  have e : digB (c.toNat - 48) = c := by apply UInt8.toNat_inj.mp; rw [digB_nat (by omega)]; omega
  have ev : valF (c :: l) 0 = valF l (c.toNat - 48) := by show valF l (10 * 0 + (c.toNat - 48)) = _; rw [Nat.mul_zero, Nat.zero_add]
  rw [ev]
  rcases h0 with rfl | h0
  · show dec (c.toNat - 48) = _
    rw [dec_small (by omega), e]
  · have hp : 0 < c.toNat - 48 := by
      have : c.toNat ≠ 48 := fun e => h0 (UInt8.toNat_inj.mp e)
      omega
    rw [dec_valF l _ hp (fun x hx => h x (List.mem_cons_of_mem _ hx)), dec_small (by omega), e]; rfl
theorem dec_len {u k : Nat} (hk : 0 < k) (h : u < 10 ^ k) : (dec u).length ≤ k := by
  rcases Nat.eq_zero_or_pos u with rfl | hp
  · rw [dec_small (by omega)]; exact hk
  · rcases Nat.lt_or_ge k (dec u).length with hl | hl
    · exfalso
      cases hd : dec u with
      | nil => exact dec_ne _ hd
      | cons c l =>
        have hh := dec_head u hp
        have hall := dec_dig u
        have hv := val_dec u
        rw [hd] at hh hall hv hl
        have hc := hall c List.mem_cons_self
        have hc48 : c.toNat ≠ 48 := fun e => hh (by rw [show c = 48 from UInt8.toNat_inj.mp e]; rfl)
        have ev : valF (c :: l) 0 = valF l (c.toNat - 48) := by show valF l (10 * 0 + (c.toNat - 48)) = _; rw [Nat.mul_zero, Nat.zero_add]
        have hg := valF_ge l (c.toNat - 48)
        rw [← ev, hv] at hg
        have h1 : 1 * 10 ^ l.length ≤ (c.toNat - 48) * 10 ^ l.length := Nat.mul_le_mul_right _ (by omega)
        have h2 : 10 ^ k ≤ 10 ^ l.length := Nat.pow_le_pow_right (by decide) (by simp at hl; omega)
        omega
    · exact hl
/-! ### a text's digits -/
theorem vrun_val (s : ByteArray) : ∀ (b pos n : Nat), s.size ≤ pos + b → vrun s b pos n = valF (s.data.toList.drop pos) n := by
  intro b
  induction b with
  | zero => intro pos n h; rw [List.drop_eq_nil_of_le (by simpa using h)]; rfl
  | succ b ih =>
    intro pos n h
    by_cases hp : pos < s.size
    · have hp' : pos < s.data.toList.length := by simpa using hp
      rw [List.drop_eq_getElem_cons hp']
      show (if h : pos < s.size then _ else _) = _
      rw [dif_pos hp, ih _ _ (by omega)]; rfl
    · rw [vrun_end hp, List.drop_eq_nil_of_le (by simpa using hp)]; rfl
theorem run_take (s : ByteArray) : ∀ (b pos : Nat), s.size ≤ pos + b → pos ≤ s.size → run s b pos = pos + ((s.data.toList.drop pos).takeWhile isDig).length := by
  intro b
  induction b with
  | zero => intro pos h h'; rw [List.drop_eq_nil_of_le (by simpa using h)]; rfl
  | succ b ih =>
    intro pos h h'
    by_cases hp : pos < s.size
    · have hp' : pos < s.data.toList.length := by simpa using hp
      rw [List.drop_eq_getElem_cons hp']
      show (if h : pos < s.size then _ else _) = _
      rw [dif_pos hp, List.takeWhile_cons]
      by_cases hd : isDig (s[pos]'hp) = true
      · rw [if_pos hd, if_pos (by exact hd), ih _ (by omega) (by omega), List.length_cons]; omega
      · rw [if_neg hd, if_neg (by exact hd)]; rfl
    · rw [run_end hp, List.drop_eq_nil_of_le (by simpa using hp)]; rfl
/-- how many digits stand ahead -/
def lead (s : ByteArray) : Nat := (s.data.toList.takeWhile isDig).length
theorem run_lead (s : ByteArray) : run s s.size 0 = lead s := by rw [run_take s s.size 0 (by omega) (by omega)]; simp [lead]
theorem takeWhile_le {α : Type} (p : α → Bool) : ∀ l : List α, (l.takeWhile p).length ≤ l.length
  | [] => by simp
  | a :: l => by
    rw [List.takeWhile_cons]
    split
    · have := takeWhile_le p l; simp; omega
    · simp
theorem lead_le (s : ByteArray) : lead s ≤ s.size := by
  have := takeWhile_le isDig s.data.toList
  simpa [lead] using this
theorem take_lead_all (s : ByteArray) : (s.data.toList.take (lead s)).all isDig = true := by
  unfold lead
  generalize s.data.toList = l
  induction l with
  | nil => rfl
  | cons a l ih =>
    rw [List.takeWhile_cons]
    by_cases h : isDig a = true
    · rw [if_pos h, List.length_cons, List.take_succ_cons, List.all_cons, h, ih]; rfl
    · rw [if_neg h]; rfl
theorem lead_all {s : ByteArray} (h : s.data.toList.all isDig = true) : lead s = s.size := by
  unfold lead
  have : ∀ l : List UInt8, l.all isDig = true → l.takeWhile isDig = l := by
    intro l
    induction l with
    | nil => intro _; rfl
    | cons a l ih =>
      intro h
      rw [List.all_cons, Bool.and_eq_true] at h
      rw [List.takeWhile_cons, if_pos h.1, ih h.2]
  rw [this _ h]; simp
theorem all_of_lead {s : ByteArray} (h : lead s = s.size) : s.data.toList.all isDig = true := by
  have := take_lead_all s
  rwa [h, List.take_of_length_le (by simp)] at this
/-- how many digits stand ahead: told otherwise -/
theorem lead_is {s : ByteArray} {n : Nat} (hn : n ≤ s.size) (h1 : (s.data.toList.take n).all isDig = true) (h2 : n = s.size ∨ ∃ h : n < s.data.toList.length, isDig (s.data.toList[n]'h) = false) : lead s = n := by
  unfold lead
  have : ∀ (l : List UInt8) (n : Nat), n ≤ l.length → (l.take n).all isDig = true → (n = l.length ∨ ∃ h : n < l.length, isDig (l[n]'h) = false) → (l.takeWhile isDig).length = n := by
    intro l
    induction l with
    | nil => intro n hn _ _; simp at hn; subst hn; rfl
    | cons a l ih =>
      intro n hn h1 h2
      cases n with
      | zero =>
        rcases h2 with h2 | ⟨_, h2⟩
        · simp at h2
        · simp only [List.getElem_cons_zero] at h2
          rw [List.takeWhile_cons, if_neg (by rw [h2]; decide)]; rfl
      | succ n =>
        rw [List.take_succ_cons, List.all_cons, Bool.and_eq_true] at h1
        rw [List.takeWhile_cons, if_pos h1.1, List.length_cons, ih n (by simpa using hn) h1.2 ?_]
        rcases h2 with h2 | ⟨h, h2⟩
        · left; simpa using h2
        · right; exact ⟨by simpa using h, by simpa using h2⟩
  exact this _ n (by simpa using hn) h1 (by simpa using h2)
/-! ### numbers and their texts -/
def In64 (n : Int) : Prop := -9223372036854775808 ≤ n ∧ n ≤ 9223372036854775807
theorem itoa_data (n : Int) : Lib.itoa n = if n < 0 then 45 :: dec n.natAbs else dec n.natAbs := by
  unfold Lib.itoa
  by_cases h : n < 0
  · rw [if_pos h, if_pos h]
  · rw [if_neg h, if_neg h]; congr 1; omega
/-- a text of digits, below 0 or not, is a number's just if that one is written so -/
theorem valued_is {s : ByteArray} {n : Int} (hn : In64 n) (h : s.data.toList = dec n.natAbs) : valued s (decide (n < 0)) = (n, true) := by
  have hlen : s.size = (dec n.natAbs).length := by rw [← h]; simp
  have hv : vrun s s.size 0 0 = n.natAbs := by rw [vrun_val s s.size 0 0 (by omega), List.drop_zero, h, val_dec]
  have hab : n.natAbs ≤ 9223372036854775808 := by obtain ⟨a, b⟩ := hn; omega
  have hl := dec_len (u := n.natAbs) (k := 19) (by decide) (Nat.lt_of_le_of_lt hab (by decide))
  have hne := dec_ne n.natAbs
  have hpos : 0 < (dec n.natAbs).length := List.length_pos_iff.2 hne
  have hb : bad s (decide (n < 0)) = false := by
    rw [Bool.eq_false_iff]
    simp only [bad, Ne, Bool.or_eq_true, Bool.and_eq_true, decide_eq_true_eq, beq_iff_eq]
    rintro (((q | q) | q) | q)
    · omega
    · omega
    · obtain ⟨q1, q2⟩ := q
      have h1 : 0 < s.size := by omega
      have h2 : s.get! 0 = s[0]'h1 := by simp [ByteArray.get!, getElem!_pos, h1]; rfl
      have h3 : (dec n.natAbs).head? = some 48 := by
        rw [← h, List.head?_eq_getElem?, List.getElem?_eq_getElem (by simpa using h1)]
        rw [h2] at q2
        exact congrArg some q2
      rcases Nat.eq_zero_or_pos n.natAbs with h0 | h0
      · rw [h0, dec_small (by decide)] at hlen; simp at hlen; omega
      · exact dec_head _ h0 h3
    · obtain ⟨q1, q2⟩ := q
      rw [q2] at h
      have : n.natAbs = 0 := dec_inj (by rw [← h, dec_small (by decide)]; rfl)
      omega
  rw [valued, hb, if_neg (by decide), hv]
  by_cases h0 : n < 0
  · rw [if_pos (by simpa using h0), if_pos hab]
    congr 1; omega
  · rw [if_neg (by simpa using h0), if_pos (by obtain ⟨a, b⟩ := hn; omega)]
    congr 1; omega
theorem valued_none {s : ByteArray} {b : Bool} (hd : s.data.toList.all isDig = true) (h : ∀ n : Int, In64 n → b = decide (n < 0) → s.data.toList ≠ dec n.natAbs) : valued s b = (0, false) := by
  rw [valued]
  by_cases hb : bad s b = true
  · rw [if_pos hb]
  · rw [if_neg hb]
    rw [Bool.not_eq_true, Bool.eq_false_iff] at hb
    simp only [bad, Ne, Bool.or_eq_true, Bool.and_eq_true, decide_eq_true_eq, beq_iff_eq] at hb
    have hv : vrun s s.size 0 0 = valF s.data.toList 0 := by rw [vrun_val s s.size 0 0 (by omega), List.drop_zero]
    rw [hv]
    have hall : ∀ x ∈ s.data.toList, 48 ≤ x.toNat ∧ x.toNat ≤ 57 := fun x hx => isDig_iff.1 (List.all_eq_true.1 hd x hx)
    have hcan : dec (valF s.data.toList 0) = s.data.toList := by
      cases hl : s.data.toList with
      | nil =>
        exfalso; apply hb
        left; left; left
        have := congrArg List.length hl
        simpa using this
      | cons c l =>
        rw [hl] at hall
        refine dec_val hall ?_
        rcases Classical.em (l = []) with q | q
        · exact .inl q
        · right
          rintro rfl
          apply hb
          left; right
          have hsz : s.size = l.length + 1 := by have := congrArg List.length hl; simpa using this
          have hq : 0 < l.length := List.length_pos_iff.2 q
          refine ⟨by omega, ?_⟩
          have h1 : 0 < s.size := by omega
          have h2 : s.get! 0 = s[0]'h1 := by simp [ByteArray.get!, getElem!_pos, h1]; rfl
          rw [h2]
          have h3 : s.data.toList[0]? = some 48 := by rw [hl]; rfl
          rw [List.getElem?_eq_getElem (by simpa using h1)] at h3
          exact Option.some.inj h3
    cases b with
    | true =>
      rw [if_pos rfl]
      split
      · rename_i q
        have hnz : valF s.data.toList 0 ≠ 0 := by
          intro e
          apply hb
          right
          refine ⟨rfl, ByteArray.ext (Array.ext' ?_)⟩
          rw [← hcan, e, dec_small (by decide)]; rfl
        exfalso
        refine h (-(valF s.data.toList 0 : Int)) ⟨by omega, by omega⟩ ?_ ?_
        · rw [decide_eq_true (by omega)]
        · rw [Int.natAbs_neg, Int.natAbs_natCast, hcan]
      · rfl
    | false =>
      rw [if_neg (by decide)]
      split
      · rename_i q
        exfalso
        refine h (valF s.data.toList 0 : Int) ⟨by omega, by omega⟩ ?_ ?_
        · rw [decide_eq_false (by omega)]
        · rw [Int.natAbs_natCast, hcan]
      · rfl
/-- what a text of digits is -/
theorem valued_spec {s : ByteArray} (hd : s.data.toList.all isDig = true) (b : Bool) :
    (∃ n, In64 n ∧ b = decide (n < 0) ∧ s.data.toList = dec n.natAbs ∧ valued s b = (n, true)) ∨ ((∀ n : Int, In64 n → b = decide (n < 0) → s.data.toList ≠ dec n.natAbs) ∧ valued s b = (0, false)) := by
  rcases Classical.em (∃ n, In64 n ∧ b = decide (n < 0) ∧ s.data.toList = dec n.natAbs) with ⟨n, h1, h2, h3⟩ | h
  · left
    exact ⟨n, h1, h2, h3, by rw [h2]; exact valued_is h1 h3⟩
  · right
    have h' : ∀ n : Int, In64 n → b = decide (n < 0) → s.data.toList ≠ dec n.natAbs := fun n h1 h2 h3 => h ⟨n, h1, h2, h3⟩
    exact ⟨h', valued_none hd h'⟩
end Go.Proofs.YtpaeefnepfppfaaDoor.Xs
