/- Decimal digits, words of a text: numbers and their writing; no Go and no memory. -/
import Derived.Test.YtpmnhbjbkoackaaDoorDigWalk
import Derived.Lib.ItoaNum
import Derived.Lib.Strings
import Derived.Lib.SplitLaws
namespace Go.Proofs.YtpmnhbjbkoackaaDoor.En
open Go Go.RowKit Go.Proofs.YtpmnhbjbkoackaaDoor.Dig
set_option linter.unusedVariables false
set_option linter.unusedSimpArgs false
/-- a digit's sign -/
def digB (d : Nat) : UInt8 := UInt8.ofNat (48 + d)
theorem digB_nat {d : Nat} (h : d < 10) : (digB d).toNat = 48 + d := by unfold digB; simp; omega
/-- the number of digits, behind a number -/
def valF (l : List UInt8) (n : Nat) : Nat := l.foldl (fun n c => 10 * n + (c.toNat - 48)) n
theorem valF_app (a b : List UInt8) (n : Nat) : valF (a ++ b) n = valF b (valF a n) := by simp [valF]
abbrev dec := Lib.decDigits
theorem dec_small {u : Nat} (h : u < 10) : dec u = [digB u] := by show Lib.decDigits u = _; rw [Lib.decDigits, dif_pos h]; rfl
theorem dec_big {u : Nat} (h : ¬ u < 10) : dec u = dec (u / 10) ++ [digB (u % 10)] := by show Lib.decDigits u = _; rw [Lib.decDigits, dif_neg h]; rfl
theorem dec_ne (u : Nat) : dec u ≠ [] := by
  by_cases h : u < 10
  · rw [dec_small h]; simp
  · rw [dec_big h]; simp
theorem dec_dig : ∀ (u : Nat), ∀ c ∈ dec u, 48 ≤ c.toNat ∧ c.toNat ≤ 57 := by
  intro u
  induction u using Nat.strongRecOn with
  | ind u ih =>
    intro c hc
    by_cases h : u < 10
    · rw [dec_small h, List.mem_singleton] at hc
      subst hc; rw [digB_nat h]; omega
    · rw [dec_big h, List.mem_append] at hc
      rcases hc with hc | hc
      · exact ih (u / 10) (by omega) c hc
      · rw [List.mem_singleton] at hc
        subst hc; rw [digB_nat (by omega)]; omega
theorem isDig_iff {c : UInt8} : isDig c = true ↔ 48 ≤ c.toNat ∧ c.toNat ≤ 57 := by simp [isDig]
theorem dec_all (u : Nat) : (dec u).all isDig = true := List.all_eq_true.2 fun c hc => isDig_iff.2 (dec_dig u c hc)
theorem val_dec : ∀ (u : Nat), valF (dec u) 0 = u := by
  intro u
  induction u using Nat.strongRecOn with
  | ind u ih =>
    by_cases h : u < 10
    · rw [dec_small h]; show 10 * 0 + ((digB u).toNat - 48) = u; rw [digB_nat h]; omega
    · rw [dec_big h, valF_app, ih (u / 10) (by omega)]
      show 10 * (u / 10) + ((digB (u % 10)).toNat - 48) = u
      rw [digB_nat (by omega)]; omega
theorem dec_inj {u v : Nat} (h : dec u = dec v) : u = v := by rw [← val_dec u, ← val_dec v, h]
/-- the first digit of a number above 0 is not 0 -/
theorem dec_head : ∀ (u : Nat), 0 < u → (dec u).head? ≠ some 48 := by
  intro u
  induction u using Nat.strongRecOn with
  | ind u ih =>
    intro h0
    by_cases h : u < 10
    · rw [dec_small h]
      simp only [List.head?_cons, ne_eq, Option.some.injEq]
      intro e
      have := congrArg UInt8.toNat e
      rw [digB_nat h] at this
      have h48 : (48 : UInt8).toNat = 48 := rfl
      omega
    · rw [dec_big h, List.head?_append]
      have := ih (u / 10) (by omega) (by omega)
      cases hd : dec (u / 10) with
      | nil => exact absurd hd (dec_ne _)
      | cons a l => rw [hd] at this; simpa using this
theorem valF_lt : ∀ (l : List UInt8) (n : Nat), (∀ c ∈ l, 48 ≤ c.toNat ∧ c.toNat ≤ 57) → valF l n < (n + 1) * 10 ^ l.length
  | [], n, _ => by simp [valF]
  | c :: l, n, h => by
    have hc := h c List.mem_cons_self
    have ih := valF_lt l (10 * n + (c.toNat - 48)) (fun c hc => h c (List.mem_cons_of_mem _ hc))
    show valF l (10 * n + (c.toNat - 48)) < _
    have : (10 * n + (c.toNat - 48) + 1) * 10 ^ l.length ≤ ((n + 1) * 10) * 10 ^ l.length := Nat.mul_le_mul_right _ (by omega)
    rw [List.length_cons, Nat.pow_succ, Nat.mul_comm (10 ^ l.length) 10, ← Nat.mul_assoc]
    omega
theorem valF_ge : ∀ (l : List UInt8) (n : Nat), n * 10 ^ l.length ≤ valF l n
  | [], n => by simp [valF]
  | c :: l, n => by
    have ih := valF_ge l (10 * n + (c.toNat - 48))
    show _ ≤ valF l (10 * n + (c.toNat - 48))
    have : (n * 10) * 10 ^ l.length ≤ (10 * n + (c.toNat - 48)) * 10 ^ l.length := Nat.mul_le_mul_right _ (by omega)
    rw [List.length_cons, Nat.pow_succ, Nat.mul_comm (10 ^ l.length) 10, ← Nat.mul_assoc]
    omega
/-- digits that begin with no 0 are their number's writing -/
theorem dec_valF : ∀ (l : List UInt8) (n : Nat), 0 < n → (∀ c ∈ l, 48 ≤ c.toNat ∧ c.toNat ≤ 57) → dec (valF l n) = dec n ++ l
  | [], n, _, _ => by simp [valF]
  | c :: l, n, h0, h => by
    have hc := h c List.mem_cons_self
    show dec (valF l (10 * n + (c.toNat - 48))) = _
    rw [dec_valF l _ (by omega) (fun c hc => h c (List.mem_cons_of_mem _ hc)), dec_big (by omega), show (10 * n + (c.toNat - 48)) / 10 = n by omega, show (10 * n + (c.toNat - 48)) % 10 = c.toNat - 48 by omega]
    have e : digB (c.toNat - 48) = c := by apply UInt8.toNat_inj.mp; rw [digB_nat (by omega)]; omega
    rw [e, List.append_assoc]; rfl
theorem dec_val {c : UInt8} {l : List UInt8} (h : ∀ x ∈ c :: l, 48 ≤ x.toNat ∧ x.toNat ≤ 57) (h0 : l = [] ∨ c ≠ 48) : dec (valF (c :: l) 0) = c :: l := by
  have hc := h c List.mem_cons_self
  have e : digB (c.toNat - 48) = c := by apply UInt8.toNat_inj.mp; rw [digB_nat (by omega)]; omega
  have ev : valF (c :: l) 0 = valF l (c.toNat - 48) := by show valF l (10 * 0 + (c.toNat - 48)) = _; rw [Nat.mul_zero, Nat.zero_add]
  rw [ev]
  rcases h0 with rfl | h0
  · show dec (c.toNat - 48) = _
    rw [dec_small (by omega), e]
  · have hp : 0 < c.toNat - 48 := by
      have : c.toNat ≠ 48 := fun e => h0 (UInt8.toNat_inj.mp e)
      omega
    rw [dec_valF l _ hp (fun x hx => h x (List.mem_cons_of_mem _ hx)), dec_small (by omega), e]; rfl
theorem dec_len {u k : Nat} (hk : 0 < k) (h : u < 10 ^ k) : (dec u).length ≤ k := by
  rcases Nat.eq_zero_or_pos u with rfl | hp
  · rw [dec_small (by omega)]; exact hk
  · rcases Nat.lt_or_ge k (dec u).length with hl | hl
    · exfalso
      cases hd : dec u with
      | nil => exact dec_ne _ hd
      | cons c l =>
        have hh := dec_head u hp
        have hall := dec_dig u
        have hv := val_dec u
        rw [hd] at hh hall hv hl
        have hc := hall c List.mem_cons_self
        have hc48 : c.toNat ≠ 48 := fun e => hh (by rw [show c = 48 from UInt8.toNat_inj.mp e]; rfl)
        have ev : valF (c :: l) 0 = valF l (c.toNat - 48) := by show valF l (10 * 0 + (c.toNat - 48)) = _; rw [Nat.mul_zero, Nat.zero_add]
        have hg := valF_ge l (c.toNat - 48)
        rw [← ev, hv] at hg
        have h1 : 1 * 10 ^ l.length ≤ (c.toNat - 48) * 10 ^ l.length := Nat.mul_le_mul_right _ (by omega)
        have h2 : 10 ^ k ≤ 10 ^ l.length := Nat.pow_le_pow_right (by decide) (by simp at hl; omega)
        omega
    · exact hl
theorem vrun_val (s : ByteArray) : ∀ (b pos n : Nat), s.size ≤ pos + b → vrun s b pos n = valF (s.data.toList.drop pos) n := by
  intro b
  induction b with
  | zero => intro pos n h; rw [List.drop_eq_nil_of_le (by simpa using h)]; rfl
  | succ b ih =>
    intro pos n h
    by_cases hp : pos < s.size
    · have hp' : pos < s.data.toList.length := by simpa using hp
      rw [List.drop_eq_getElem_cons hp']
      show (if h : pos < s.size then _ else _) = _
      rw [dif_pos hp, ih _ _ (by omega)]; rfl
    · rw [vrun_end hp, List.drop_eq_nil_of_le (by simpa using hp)]; rfl
theorem run_take (s : ByteArray) : ∀ (b pos : Nat), s.size ≤ pos + b → pos ≤ s.size → run s b pos = pos + ((s.data.toList.drop pos).takeWhile isDig).length := by
  intro b
  induction b with
  | zero => intro pos h h'; rw [List.drop_eq_nil_of_le (by simpa using h)]; rfl
  | succ b ih =>
    intro pos h h'
    by_cases hp : pos < s.size
    · have hp' : pos < s.data.toList.length := by simpa using hp
      rw [List.drop_eq_getElem_cons hp']
      show (if h : pos < s.size then _ else _) = _
      rw [dif_pos hp, List.takeWhile_cons]
      by_cases hd : isDig (s[pos]'hp) = true
      · rw [if_pos hd, if_pos (by exact hd), ih _ (by omega) (by omega), List.length_cons]; omega
      · rw [if_neg hd, if_neg (by exact hd)]; rfl
    · rw [run_end hp, List.drop_eq_nil_of_le (by simpa using hp)]; rfl
/-- how many digits stand ahead -/
def lead (s : ByteArray) : Nat := (s.data.toList.takeWhile isDig).length
theorem run_lead (s : ByteArray) : run s s.size 0 = lead s := by rw [run_take s s.size 0 (by omega) (by omega)]; simp [lead]
theorem takeWhile_le {α : Type} (p : α → Bool) : ∀ l : List α, (l.takeWhile p).length ≤ l.length
  | [] => by simp
  | a :: l => by
    rw [List.takeWhile_cons]
    split
    · have := takeWhile_le p l; simp; omega
    · simp
theorem lead_le (s : ByteArray) : lead s ≤ s.size := by
  have := takeWhile_le isDig s.data.toList
  simpa [lead] using this
theorem take_lead_all (s : ByteArray) : (s.data.toList.take (lead s)).all isDig = true := by
  unfold lead
  generalize s.data.toList = l
  induction l with
  | nil => rfl
  | cons a l ih =>
    rw [List.takeWhile_cons]
    by_cases h : isDig a = true
    · rw [if_pos h, List.length_cons, List.take_succ_cons, List.all_cons, h, ih]; rfl
    · rw [if_neg h]; rfl
theorem lead_all {s : ByteArray} (h : s.data.toList.all isDig = true) : lead s = s.size := by
  unfold lead
  have : ∀ l : List UInt8, l.all isDig = true → l.takeWhile isDig = l := by
    intro l
    induction l with
    | nil => intro _; rfl
    | cons a l ih =>
      intro h
      rw [List.all_cons, Bool.and_eq_true] at h
      rw [List.takeWhile_cons, if_pos h.1, ih h.2]
  rw [this _ h]; simp
theorem all_of_lead {s : ByteArray} (h : lead s = s.size) : s.data.toList.all isDig = true := by
  have := take_lead_all s
  rwa [h, List.take_of_length_le (by simp)] at this
/-- how many digits stand ahead: told otherwise -/
theorem lead_is {s : ByteArray} {n : Nat} (hn : n ≤ s.size) (h1 : (s.data.toList.take n).all isDig = true) (h2 : n = s.size ∨ ∃ h : n < s.data.toList.length, isDig (s.data.toList[n]'h) = false) : lead s = n := by
  unfold lead
  have : ∀ (l : List UInt8) (n : Nat), n ≤ l.length → (l.take n).all isDig = true → (n = l.length ∨ ∃ h : n < l.length, isDig (l[n]'h) = false) → (l.takeWhile isDig).length = n := by
    intro l
    induction l with
    | nil => intro n hn _ _; simp at hn; subst hn; rfl
    | cons a l ih =>
      intro n hn h1 h2
      cases n with
      | zero =>
        rcases h2 with h2 | ⟨_, h2⟩
        · simp at h2
        · simp only [List.getElem_cons_zero] at h2
          rw [List.takeWhile_cons, if_neg (by rw [h2]; decide)]; rfl
      | succ n =>
        rw [List.take_succ_cons, List.all_cons, Bool.and_eq_true] at h1
        rw [List.takeWhile_cons, if_pos h1.1, List.length_cons, ih n (by simpa using hn) h1.2 ?_]
        rcases h2 with h2 | ⟨h, h2⟩
        · left; simpa using h2
        · right; exact ⟨by simpa using h, by simpa using h2⟩
  exact this _ n (by simpa using hn) h1 (by simpa using h2)
def In64 (n : Int) : Prop := -9223372036854775808 ≤ n ∧ n ≤ 9223372036854775807
theorem itoa_data (n : Int) : Lib.itoa n = if n < 0 then 45 :: dec n.natAbs else dec n.natAbs := by
  unfold Lib.itoa
  by_cases h : n < 0
  · rw [if_pos h, if_pos h]
  · rw [if_neg h, if_neg h]; congr 1; omega
/-- a text of digits, below 0 or not, is a number's just if that one is written so -/
theorem valued_is {s : ByteArray} {n : Int} (hn : In64 n) (h : s.data.toList = dec n.natAbs) : valued s (decide (n < 0)) = (n, true) := by
  have hlen : s.size = (dec n.natAbs).length := by rw [← h]; simp
  have hv : vrun s s.size 0 0 = n.natAbs := by rw [vrun_val s s.size 0 0 (by omega), List.drop_zero, h, val_dec]
  have hab : n.natAbs ≤ 9223372036854775808 := by obtain ⟨a, b⟩ := hn; omega
  have hl := dec_len (u := n.natAbs) (k := 19) (by decide) (Nat.lt_of_le_of_lt hab (by decide))
  have hne := dec_ne n.natAbs
  have hpos : 0 < (dec n.natAbs).length := List.length_pos_iff.2 hne
  have hb : bad s (decide (n < 0)) = false := by
    rw [Bool.eq_false_iff]
    simp only [bad, Ne, Bool.or_eq_true, Bool.and_eq_true, decide_eq_true_eq, beq_iff_eq]
    rintro (((q | q) | q) | q)
    · omega
    · omega
    · obtain ⟨q1, q2⟩ := q
      have h1 : 0 < s.size := by omega
      have h2 : s.get! 0 = s[0]'h1 := by simp [ByteArray.get!, getElem!_pos, h1]; rfl
      have h3 : (dec n.natAbs).head? = some 48 := by
        rw [← h, List.head?_eq_getElem?, List.getElem?_eq_getElem (by simpa using h1)]
        rw [h2] at q2
        exact congrArg some q2
      rcases Nat.eq_zero_or_pos n.natAbs with h0 | h0
      · rw [h0, dec_small (by decide)] at hlen; simp at hlen; omega
      · exact dec_head _ h0 h3
    · obtain ⟨q1, q2⟩ := q
      rw [q2] at h
      have : n.natAbs = 0 := dec_inj (by rw [← h, dec_small (by decide)]; rfl)
      omega
  rw [valued, hb, if_neg (by decide), hv]
  by_cases h0 : n < 0
  · rw [if_pos (by simpa using h0), if_pos hab]
    congr 1; omega
  · rw [if_neg (by simpa using h0), if_pos (by obtain ⟨a, b⟩ := hn; omega)]
    congr 1; omega
theorem valued_none {s : ByteArray} {b : Bool} (hd : s.data.toList.all isDig = true) (h : ∀ n : Int, In64 n → b = decide (n < 0) → s.data.toList ≠ dec n.natAbs) : valued s b = (0, false) := by
  rw [valued]
  by_cases hb : bad s b = true
  · rw [if_pos hb]
  · rw [if_neg hb]
    rw [Bool.not_eq_true, Bool.eq_false_iff] at hb
    simp only [bad, Ne, Bool.or_eq_true, Bool.and_eq_true, decide_eq_true_eq, beq_iff_eq] at hb
    have hv : vrun s s.size 0 0 = valF s.data.toList 0 := by rw [vrun_val s s.size 0 0 (by omega), List.drop_zero]
    rw [hv]
    have hall : ∀ x ∈ s.data.toList, 48 ≤ x.toNat ∧ x.toNat ≤ 57 := fun x hx => isDig_iff.1 (List.all_eq_true.1 hd x hx)
    have hcan : dec (valF s.data.toList 0) = s.data.toList := by
      cases hl : s.data.toList with
      | nil =>
        exfalso; apply hb
        left; left; left
        have := congrArg List.length hl
        simpa using this
      | cons c l =>
        rw [hl] at hall
        refine dec_val hall ?_
        rcases Classical.em (l = []) with q | q
        · exact .inl q
        · right
          rintro rfl
          apply hb
          left; right
          have hsz : s.size = l.length + 1 := by have := congrArg List.length hl; simpa using this
          have hq : 0 < l.length := List.length_pos_iff.2 q
          refine ⟨by omega, ?_⟩
          have h1 : 0 < s.size := by omega
          have h2 : s.get! 0 = s[0]'h1 := by simp [ByteArray.get!, getElem!_pos, h1]; rfl
          rw [h2]
          have h3 : s.data.toList[0]? = some 48 := by rw [hl]; rfl
          rw [List.getElem?_eq_getElem (by simpa using h1)] at h3
          exact Option.some.inj h3
    cases b with
    | true =>
      rw [if_pos rfl]
      split
      · rename_i q
        have hnz : valF s.data.toList 0 ≠ 0 := by
          intro e
          apply hb
          right
          refine ⟨rfl, ByteArray.ext (Array.ext' ?_)⟩
          rw [← hcan, e, dec_small (by decide)]; rfl
        exfalso
        refine h (-(valF s.data.toList 0 : Int)) ⟨by omega, by omega⟩ ?_ ?_
        · rw [decide_eq_true (by omega)]
        · rw [Int.natAbs_neg, Int.natAbs_natCast, hcan]
      · rfl
    | false =>
      rw [if_neg (by decide)]
      split
      · rename_i q
        exfalso
        refine h (valF s.data.toList 0 : Int) ⟨by omega, by omega⟩ ?_ ?_
        · rw [decide_eq_false (by omega)]
        · rw [Int.natAbs_natCast, hcan]
      · rfl
/-- what a text of digits is -/
theorem valued_spec {s : ByteArray} (hd : s.data.toList.all isDig = true) (b : Bool) :
    (∃ n, In64 n ∧ b = decide (n < 0) ∧ s.data.toList = dec n.natAbs ∧ valued s b = (n, true)) ∨ ((∀ n : Int, In64 n → b = decide (n < 0) → s.data.toList ≠ dec n.natAbs) ∧ valued s b = (0, false)) := by
  rcases Classical.em (∃ n, In64 n ∧ b = decide (n < 0) ∧ s.data.toList = dec n.natAbs) with ⟨n, h1, h2, h3⟩ | h
  · left
    exact ⟨n, h1, h2, h3, by rw [h2]; exact valued_is h1 h3⟩
  · right
    have h' : ∀ n : Int, In64 n → b = decide (n < 0) → s.data.toList ≠ dec n.natAbs := fun n h1 h2 h3 => h ⟨n, h1, h2, h3⟩
    exact ⟨h', valued_none hd h'⟩
theorem w64 {x : Int} (h0 : -9223372036854775808 ≤ x) (h1 : x < 9223372036854775808) : wrap64 x = x := by unfold wrap64; omega
theorem ba_ext {a b : ByteArray} (h : a.data.toList = b.data.toList) : a = b := ByteArray.ext (Array.ext' h)
theorem pre_one (c : UInt8) (l : List UInt8) : Lib.hasPrefix l [c] = true ↔ l.head? = some c := by
  unfold Lib.hasPrefix
  cases l with
  | nil => simp [List.isPrefixOf]
  | cons a l =>
    show ((c == a) && List.isPrefixOf [] l) = true ↔ some a = some c
    have e : List.isPrefixOf [] l = true := by cases l <;> rfl
    rw [e, Bool.and_true, beq_iff_eq, Option.some.injEq]
    exact ⟨Eq.symm, Eq.symm⟩
theorem itoa_pre (n : Int) : Lib.hasPrefix (Lib.itoa n) [45] = decide (n < 0) ∧ Lib.trimPrefix (Lib.itoa n) [45] = dec n.natAbs := by
  rw [itoa_data]
  by_cases h0 : n < 0
  · have hp : Lib.hasPrefix (45 :: dec n.natAbs) [45] = true := (pre_one _ _).2 rfl
    rw [if_pos h0, decide_eq_true h0]
    refine ⟨hp, ?_⟩
    unfold Lib.trimPrefix
    rw [if_pos hp]; rfl
  · have hp : Lib.hasPrefix (dec n.natAbs) [45] = false := by
      rw [Bool.eq_false_iff]
      intro e
      rw [pre_one] at e
      cases hd : dec n.natAbs with
      | nil => rw [hd] at e; simp at e
      | cons a l =>
        rw [hd] at e
        have := dec_dig n.natAbs a (by rw [hd]; exact List.mem_cons_self)
        rw [show a = 45 from Option.some.inj e] at this
        exact absurd this.1 (by decide)
    rw [if_neg h0, decide_eq_false h0]
    refine ⟨hp, ?_⟩
    unfold Lib.trimPrefix
    rw [hp, if_neg (by decide)]
def getN (s : ByteArray) : Int × Bool :=
  if lead ⟨(Lib.trimPrefix s.data.toList [45]).toArray⟩ = (Lib.trimPrefix s.data.toList [45]).length then valued ⟨(Lib.trimPrefix s.data.toList [45]).toArray⟩ (Lib.hasPrefix s.data.toList [45]) else (0, false)
theorem dec_len19 {n : Int} (h : In64 n) : (dec n.natAbs).length ≤ 19 :=
  dec_len (by decide) (Nat.lt_of_le_of_lt (show n.natAbs ≤ 9223372036854775808 by obtain ⟨a, b⟩ := h; omega) (by decide))
/-- what is written is read -/
theorem get_itoa (n : Int) (h : In64 n) : getN ⟨(Lib.itoa n).toArray⟩ = (n, true) := by
  obtain ⟨h1, h2⟩ := itoa_pre n
  have hd : (⟨(Lib.itoa n).toArray⟩ : ByteArray).data.toList = Lib.itoa n := by simp
  unfold getN
  rw [hd, h1, h2]
  have hall : (⟨(dec n.natAbs).toArray⟩ : ByteArray).data.toList.all isDig = true := dec_all _
  have hq : lead (⟨(dec n.natAbs).toArray⟩ : ByteArray) = (dec n.natAbs).length := lead_all hall
  rw [if_pos hq]
  exact valued_is h rfl
/-- what is read is written as it stood there -/
theorem get_back {s : ByteArray} {x : Int} (h : getN s = (x, true)) : In64 x ∧ Lib.itoa x = s.data.toList := by
  unfold getN at h
  split at h
  · rename_i hl
    have hall := all_of_lead (s := ⟨(Lib.trimPrefix s.data.toList [45]).toArray⟩) hl
    rcases valued_spec hall (Lib.hasPrefix s.data.toList [45]) with ⟨n, h1, h2, h3, h4⟩ | ⟨_, h2⟩
    · rw [h4] at h
      obtain rfl : n = x := (Prod.mk.inj h).1
      refine ⟨h1, ?_⟩
      have h3' : Lib.trimPrefix s.data.toList [45] = dec n.natAbs := h3
      rw [itoa_data, ← h3']
      unfold Lib.trimPrefix
      rw [h2]
      by_cases hn : n < 0
      · rw [if_pos hn, decide_eq_true hn, if_pos rfl]
        rw [decide_eq_true hn, pre_one] at h2
        cases hd : s.data.toList with
        | nil => rw [hd] at h2; simp at h2
        | cons a l => rw [hd] at h2; rw [show a = 45 from Option.some.inj h2]; rfl
      · rw [if_neg hn, decide_eq_false hn, if_neg (by decide)]
    · rw [h2] at h; cases h
  · cases h
theorem app_data (a b : ByteArray) : (a ++ b).data.toList = a.data.toList ++ b.data.toList := by simp
def consW (c : UInt8) : List (List UInt8) → List (List UInt8)
  | [] => [[c]]
  | w :: ws => (c :: w) :: ws
def wordsL : List UInt8 → List (List UInt8)
  | [] => [[]]
  | c :: l => if c = 32 then [] :: wordsL l else consW c (wordsL l)
theorem wordsL_ne (l : List UInt8) : wordsL l ≠ [] := by
  cases l with
  | nil => simp [wordsL]
  | cons c l =>
    unfold wordsL
    split
    · simp
    · cases wordsL l <;> simp [consW]
theorem split_one : ∀ l : List UInt8, Lib.splitK [32] 0 (Lib.count l [32]) l = wordsL l
  | [] => by rw [Lib.count_one]; rfl
  | c :: l => by
    have ih := split_one l
    by_cases h : c = 32
    · subst h
      have hix : Lib.index ((32 : UInt8) :: l) [32] = 0 := by rw [Lib.index]; simp [List.isPrefixOf]
      rw [Lib.count_cons_eq, Nat.add_comm, Lib.splitK, hix, wordsL, if_pos rfl, ← ih]
      rw [if_neg (by decide)]; rfl
    · rw [Lib.count_cons_ne c 32 l h, wordsL, if_neg h, ← ih]
      have hp : ([32] : List UInt8).isPrefixOf (c :: l) = false := by simp [List.isPrefixOf, Ne.symm h]
      have hix : Lib.index (c :: l) [32] = if Lib.index l [32] == -1 then -1 else Lib.index l [32] + 1 := by rw [Lib.index, hp]; simp
      by_cases hm : Lib.index l [32] = -1
      · rw [Lib.count_miss hm]; rfl
      · have hge := Lib.index_ge l [32]
        obtain ⟨j, hj⟩ : ∃ j : Nat, Lib.index l [32] = j := ⟨(Lib.index l [32]).toNat, by omega⟩
        have hc := Lib.count_hit (s := l) (sub := [32]) (by simp) hj
        rw [hc, Nat.add_comm, Lib.splitK, Lib.splitK, hix, hj]
        rw [if_neg (c := ((j : Int) == -1) = true) (by simp), if_neg (by simp; omega)]
        have e1 : ((j : Int) + 1).toNat = j + 1 := by omega
        have e2 : ((j : Int)).toNat = j := by omega
        rw [e1, e2]; rfl
def stepW (ws : List (List UInt8)) (c : UInt8) : List (List UInt8) := if c = 32 then ws ++ [[]] else ws.set (ws.length - 1) (ws.getD (ws.length - 1) [] ++ [c])
theorem stepW_cons {ws : List (List UInt8)} (w : List UInt8) (c : UInt8) (h : ws ≠ []) : stepW (w :: ws) c = w :: stepW ws c := by
  unfold stepW
  cases ws with
  | nil => exact absurd rfl h
  | cons v ws =>
    split
    · rfl
    · simp
theorem stepW_consW {ws : List (List UInt8)} (d c : UInt8) (h : ws ≠ []) : stepW (consW d ws) c = consW d (stepW ws c) := by
  cases ws with
  | nil => exact absurd rfl h
  | cons v ws =>
    cases ws with
    | nil =>
      unfold stepW
      by_cases hc : c = 32
      · simp [hc, consW]
      · simp [hc, consW]
    | cons u ws =>
      have e : ∀ w, consW d (w :: u :: ws) = (d :: w) :: u :: ws := fun w => rfl
      rw [e, stepW_cons (ws := u :: ws) _ _ (by simp), stepW_cons (ws := u :: ws) _ _ (by simp)]; rfl
theorem wordsL_snoc : ∀ (l : List UInt8) (c : UInt8), wordsL (l ++ [c]) = stepW (wordsL l) c
  | [], c => by
    by_cases hc : c = 32
    · simp [wordsL, stepW, hc]
    · simp [wordsL, stepW, hc, consW]
  | d :: l, c => by
    have ih := wordsL_snoc l c
    rw [List.cons_append, wordsL, wordsL, ih]
    by_cases hd : d = 32
    · rw [if_pos hd, if_pos hd, stepW_cons _ _ (wordsL_ne l)]
    · rw [if_neg hd, if_neg hd, stepW_consW _ _ (wordsL_ne l)]
theorem wordsL_len : ∀ l : List UInt8, (wordsL l).length ≤ l.length + 1
  | [] => by simp [wordsL]
  | c :: l => by
    have ih := wordsL_len l
    unfold wordsL
    split
    · simp; omega
    · cases h : wordsL l with
      | nil => simp [consW]
      | cons w ws => rw [h] at ih; simp [consW] at ih ⊢; omega
theorem wordsL_le : ∀ (l : List UInt8), ∀ w ∈ wordsL l, w.length ≤ l.length
  | [], w, h => by simp [wordsL] at h; subst h; simp
  | c :: l, w, h => by
    have ih := wordsL_le l
    unfold wordsL at h
    split at h
    · rcases List.mem_cons.1 h with rfl | h
      · simp
      · have := ih w h; simp; omega
    · cases hl : wordsL l with
      | nil => exact absurd hl (wordsL_ne l)
      | cons v vs =>
        rw [hl] at h ih
        simp only [consW] at h
        rcases List.mem_cons.1 h with rfl | h
        · have := ih v List.mem_cons_self; simp; omega
        · have := ih w (List.mem_cons_of_mem _ h); simp; omega
/-- the words, as texts -/
def wordsB (s : ByteArray) : List ByteArray := (wordsL s.data.toList).map fun w => ⟨w.toArray⟩
theorem toB_inj : ∀ {a : List ByteArray} {b : List (List UInt8)}, a.map (·.data.toList) = b → a = b.map fun w => ⟨w.toArray⟩
  | [], b, h => by subst h; rfl
  | x :: a, b, h => by
    subst h
    rw [List.map_cons, List.map_cons, ← toB_inj (a := a) rfl]
def numsG : List ByteArray → List Int → List Int × Bool
  | [], acc => (acc, true)
  | w :: l, acc => if (getN w).2 = true then numsG l (acc ++ [(getN w).1]) else ([], false)
theorem numsG_len : ∀ (l : List ByteArray) (acc : List Int), (numsG l acc).1.length ≤ acc.length + l.length
  | [], acc => by simp [numsG]
  | w :: l, acc => by
    unfold numsG
    split
    · have := numsG_len l (acc ++ [(getN w).1]); simp at this ⊢; omega
    · simp
theorem getD_drop {α : Type} (l : List α) (i : Nat) (d : α) (h : i < l.length) : l.drop i = l.getD i d :: l.drop (i + 1) := by
  rw [List.drop_eq_getElem_cons h, List.getD_eq_getElem?_getD, List.getElem?_eq_getElem h]; rfl
/-- words, with a blank between -/
def joinL : List (List UInt8) → List UInt8
  | [] => []
  | [w] => w
  | w :: v :: ws => w ++ 32 :: joinL (v :: ws)
theorem joinL_snoc : ∀ (ws : List (List UInt8)) (w : List UInt8), ws ≠ [] → joinL (ws ++ [w]) = joinL ws ++ 32 :: w
  | [], _, h => absurd rfl h
  | [v], w, _ => rfl
  | v :: u :: ws, w, _ => by
    have ih := joinL_snoc (u :: ws) w (by simp)
    show v ++ 32 :: joinL ((u :: ws) ++ [w]) = (v ++ 32 :: joinL (u :: ws)) ++ 32 :: w
    rw [ih]; simp
theorem words_one : ∀ w : List UInt8, (∀ c ∈ w, c ≠ 32) → wordsL w = [w]
  | [], _ => rfl
  | c :: w, h => by rw [wordsL, if_neg (h c List.mem_cons_self), words_one w (fun c hc => h c (List.mem_cons_of_mem _ hc))]; rfl
theorem words_app : ∀ (w rest : List UInt8), (∀ c ∈ w, c ≠ 32) → wordsL (w ++ 32 :: rest) = w :: wordsL rest
  | [], _, _ => by rw [List.nil_append, wordsL, if_pos rfl]
  | c :: w, rest, h => by rw [List.cons_append, wordsL, if_neg (h c List.mem_cons_self), words_app w rest (fun c hc => h c (List.mem_cons_of_mem _ hc))]; rfl
theorem words_join : ∀ ws : List (List UInt8), ws ≠ [] → (∀ w ∈ ws, ∀ c ∈ w, c ≠ 32) → wordsL (joinL ws) = ws
  | [], h, _ => absurd rfl h
  | [w], _, h => words_one w (h w List.mem_cons_self)
  | w :: v :: ws, _, h => by
    show wordsL (w ++ 32 :: joinL (v :: ws)) = _
    rw [words_app w _ (h w List.mem_cons_self), words_join (v :: ws) (by simp) (fun w hw => h w (List.mem_cons_of_mem _ hw))]
theorem itoa_no32 (n : Int) : ∀ c ∈ Lib.itoa n, c ≠ 32 := by
  intro c hc e
  subst e
  rw [itoa_data] at hc
  have hd : ∀ (c : UInt8), c ∈ dec n.natAbs → c ≠ 32 := fun c hc e => by
    have := dec_dig n.natAbs c hc
    rw [e] at this
    exact absurd this.1 (by decide)
  split at hc
  · rcases List.mem_cons.1 hc with h | h
    · exact absurd h (by decide)
    · exact hd _ h rfl
  · exact hd _ hc rfl
theorem itoa_len {n : Int} (h : In64 n) : (Lib.itoa n).length ≤ 20 := by
  have hlen := dec_len19 h
  rw [itoa_data]
  split
  · rw [List.length_cons]; omega
  · omega
def itoaB (n : Int) : ByteArray := ⟨(Lib.itoa n).toArray⟩
theorem numsG_itoa : ∀ (l acc : List Int), (∀ n ∈ l, In64 n) → numsG (l.map itoaB) acc = (acc ++ l, true)
  | [], acc, _ => by simp [numsG]
  | n :: l, acc, h => by
    have e := get_itoa n (h n List.mem_cons_self)
    rw [List.map_cons, numsG]
    unfold itoaB
    rw [e, if_pos rfl]
    have := numsG_itoa l (acc ++ [n]) (fun n hn => h n (List.mem_cons_of_mem _ hn))
    unfold itoaB at this
    rw [this]; simp
end Go.Proofs.YtpmnhbjbkoackaaDoor.En
