/- RecordOrders: what its printed function comes to is true. -/
import Derived.Test.YtpmnhbjbkoackaaDoorXo5
namespace Go.Proofs.YtpmnhbjbkoackaaDoor.Xo
open Go Go.RowKit Go.Proofs.YtpmnhbjbkoackaaDoorW.PrintWords Go.Proofs.YtpmnhbjbkoackaaDoorW.PrintLast Go.Proofs.YtpmnhbjbkoackaaDoorW.PrintMore
set_option linter.unusedVariables false
set_option linter.unusedSimpArgs false
theorem w64 {x : Int} (h0 : -9223372036854775808 ≤ x) (h1 : x < 9223372036854775808) : wrap64 x = x := by unfold wrap64; omega
theorem lives_ev : Ev (fun k => rifflelaw33_lives.f k) true := Ev.of rifflelaw33_lives.mono (k := 30) (by decide +kernel)
theorem lives_bind : Ev (fun k => (rifflelaw33_lives.f k).bind fun t => some t) true := Ev.bind lives_ev (Ev.now true)
/-- how two numbers stand -/
def ord (a b : Int) : Int := if a < b then -1 else if a > b then 1 else 0
theorem compare_is (a b : Int) : cmp_Compare_int64.f a b = some (ord a b) := by
  unfold cmp_Compare_int64.f cmp_isNaN_int64.f ord
  simp only [bne_self_eq_false, Option.bind_some]
  rw [if_neg (by decide), if_neg (by decide)]
  by_cases h : a < b
  · rw [if_pos h, if_pos h]
  · rw [if_neg h, if_neg h]
    by_cases h2 : a > b
    · rw [if_pos h2, if_pos h2]
    · rw [if_neg h2, if_neg h2]
def ord2 (t s t' s' : Int) : Int := if ord t t' ≠ 0 then ord t t' else ord s s'
theorem rd_nat (l : List Int) (i : Nat) : rd l (i : Int) = l.getD i 0 := by unfold rd; rw [Int.toNat_natCast]
theorem or_ev (x y : Int) : Ev (fun k => cmp_Or_int.f k [x, y]) (if x ≠ 0 then x else y) := by
  have s0 : ∀ k, cmp_Or_int.l0 (k + 1) 0 [x, y] 2 0 = if x = 0 then cmp_Or_int.l0 k 0 [x, y] 2 1 else some x := fun k => by
    simp only [cmp_Or_int.l0]
    rw [if_pos (by omega), if_pos (by omega), if_pos (by simp), w64 (x := 0 + 1) (by omega) (by omega)]; rfl
  have s1 : ∀ k, cmp_Or_int.l0 (k + 1) 0 [x, y] 2 1 = if y = 0 then cmp_Or_int.l0 k 0 [x, y] 2 2 else some y := fun k => by
    simp only [cmp_Or_int.l0]
    rw [if_pos (by omega), if_pos (by omega), if_pos (by simp), w64 (x := 1 + 1) (by omega) (by omega)]; rfl
  have s2 : ∀ k, cmp_Or_int.l0 (k + 1) 0 [x, y] 2 2 = some 0 := fun k => by
    simp only [cmp_Or_int.l0]; rfl
  show Ev (fun k => cmp_Or_int.l0 k 0 [x, y] 2 0) _
  by_cases hx : x = 0
  · rw [if_neg (by simpa using hx)]
    refine Ev.step (fun k => (s0 k).trans (if_pos hx)) ?_
    by_cases hy : y = 0
    · rw [hy] at s1 s2 ⊢
      exact Ev.step (fun k => (s1 k).trans (if_pos rfl)) (Ev.step s2 (Ev.now _))
    · exact Ev.step (fun k => (s1 k).trans (if_neg hy)) (Ev.now _)
  · rw [if_pos hx]
    exact Ev.step (fun k => (s0 k).trans (if_neg hx)) (Ev.now _)
theorem cmp_ev (k0 t s : Int) (l : List Int) (k1 t' s' : Int) (l' : List Int) : Ev (fun k => record_Cmp.f k k0 t s l k1 t' s' l') (ord2 t s t' s') := by
  unfold record_Cmp.f
  rw [compare_is, compare_is]
  simp only [Option.bind_some]
  exact Ev.bind (or_ev _ _) (Ev.now _)
theorem ord2_zero (t s t' s' : Int) : ord2 t s t' s' = 0 ↔ t = t' ∧ s = s' := by
  unfold ord2 ord
  split <;> (repeat' split) <;> omega
theorem drop_eq (a b : List Int) (i : Nat) (h1 : i < a.length) (h2 : i < b.length) : a.drop i = b.drop i ↔ a.getD i 0 = b.getD i 0 ∧ a.drop (i + 1) = b.drop (i + 1) := by
  rw [List.drop_eq_getElem_cons h1, List.drop_eq_getElem_cons h2, List.cons.injEq, List.getD_eq_getElem?_getD, List.getD_eq_getElem?_getD, List.getElem?_eq_getElem h1, List.getElem?_eq_getElem h2]
  exact Iff.rfl
theorem equal_loop (a b : List Int) (hl : a.length = b.length) (hs : a.length ≤ 1000000000) : ∀ (d i : Nat), i + d = a.length → Ev (fun k => slices_Equal_int64_int64.l0 k a b (a.length : Int) (i : Int)) (decide (a.drop i = b.drop i)) := by
  intro d
  induction d with
  | zero =>
    intro i hi
    rw [List.drop_eq_nil_of_le (by omega), List.drop_eq_nil_of_le (by omega)]
    refine Ev.step (f := fun _ => some true) (fun k => ?_) (Ev.now _)
    simp only [slices_Equal_int64_int64.l0]
    rw [if_neg (by omega)]
  | succ d ih =>
    intro i hi
    have hd := drop_eq a b i (by omega) (by omega)
    by_cases he : a.getD i 0 = b.getD i 0
    · have e : decide (a.drop i = b.drop i) = decide (a.drop (i + 1) = b.drop (i + 1)) := by
        apply decide_eq_decide.2
        rw [hd]; exact ⟨fun h => h.2, fun h => ⟨he, h⟩⟩
      rw [e]
      refine Ev.step (fun k => ?_) (ih (i + 1) (by omega))
      simp only [slices_Equal_int64_int64.l0]
      rw [if_pos (by omega), if_pos (by omega), if_pos (by omega), if_pos (by omega), rd_nat, rd_nat, if_pos he, w64 (by omega) (by omega)]; rfl
    · have e : decide (a.drop i = b.drop i) = false := decide_eq_false (fun h => he (hd.1 h).1)
      rw [e]
      refine Ev.step (f := fun _ => some false) (fun k => ?_) (Ev.now _)
      simp only [slices_Equal_int64_int64.l0]
      rw [if_pos (by omega), if_pos (by omega), if_pos (by omega), if_pos (by omega), rd_nat, rd_nat, if_neg he]
theorem equal_ev (a b : List Int) (hs : a.length ≤ 1000000000) : Ev (fun k => slices_Equal_int64_int64.f k a b) (decide (a = b)) := by
  unfold slices_Equal_int64_int64.f
  by_cases hl : a.length = b.length
  · exact Ev.congr (fun k => if_pos (by omega)) (equal_loop a b hl hs a.length 0 (by omega))
  · rw [decide_eq_false (fun h => hl (by rw [h]))]
    exact Ev.congr (fun k => if_neg (by omega)) (Ev.now _)
theorem nums_loop (a b : List Int) (hl : a.length = b.length) (hs : a.length ≤ 1000000000) : ∀ (d i : Nat), i + d = a.length → Ev (fun k => riffleref03_Nums.l0 k a b (i : Int)) (decide (a.drop i = b.drop i)) := by
  intro d
  induction d with
  | zero =>
    intro i hi
    rw [List.drop_eq_nil_of_le (by omega), List.drop_eq_nil_of_le (by omega)]
    refine Ev.step (f := fun _ => some true) (fun k => ?_) (Ev.now _)
    simp only [riffleref03_Nums.l0]
    rw [if_neg (by omega)]
  | succ d ih =>
    intro i hi
    have hd := drop_eq a b i (by omega) (by omega)
    by_cases he : a.getD i 0 = b.getD i 0
    · have e : decide (a.drop i = b.drop i) = decide (a.drop (i + 1) = b.drop (i + 1)) := by
        apply decide_eq_decide.2
        rw [hd]; exact ⟨fun h => h.2, fun h => ⟨he, h⟩⟩
      rw [e]
      refine Ev.step (fun k => ?_) (ih (i + 1) (by omega))
      simp only [riffleref03_Nums.l0]
      rw [if_pos (by omega), if_pos (by omega), if_pos (by omega), rd_nat, rd_nat, if_pos he, w64 (by omega) (by omega)]; rfl
    · have e : decide (a.drop i = b.drop i) = false := decide_eq_false (fun h => he (hd.1 h).1)
      rw [e]
      refine Ev.step (f := fun _ => some false) (fun k => ?_) (Ev.now _)
      simp only [riffleref03_Nums.l0]
      rw [if_pos (by omega), if_pos (by omega), if_pos (by omega), rd_nat, rd_nat, if_neg he]
theorem nums_ev (a b : List Int) (hs : a.length ≤ 1000000000) : Ev (fun k => riffleref03_Nums.f k a b) (decide (a = b)) := by
  unfold riffleref03_Nums.f
  by_cases hl : a.length = b.length
  · exact Ev.congr (fun k => if_pos (by omega)) (nums_loop a b hl hs a.length 0 (by omega))
  · rw [decide_eq_false (fun h => hl (by rw [h]))]
    exact Ev.congr (fun k => if_neg (by omega)) (Ev.now _)
/-- are two records the same -/
def sameB (k0 t s : Int) (l : List Int) (k1 t' s' : Int) (l' : List Int) : Bool := decide (k0 = k1 ∧ t = t' ∧ s = s' ∧ l = l')
theorem same_ev (k0 t s : Int) (l : List Int) (k1 t' s' : Int) (l' : List Int) (hs : l.length ≤ 1000000000) : Ev (fun k => record_Same.f k k0 t s l k1 t' s' l') (sameB k0 t s l k1 t' s' l') := by
  unfold record_Same.f sameB
  by_cases h0 : k0 = k1
  · refine Ev.congr (fun k => if_pos h0) (Ev.bind (cmp_ev k0 t s l k1 t' s' l') ?_)
    by_cases hz : ord2 t s t' s' = 0
    · obtain ⟨e1, e2⟩ := (ord2_zero t s t' s').1 hz
      have e : decide (k0 = k1 ∧ t = t' ∧ s = s' ∧ l = l') = decide (l = l') := decide_eq_decide.2 ⟨fun h => h.2.2.2, fun h => ⟨h0, e1, e2, h⟩⟩
      rw [e]
      exact Ev.congr (fun k => if_pos hz) (Ev.bind (equal_ev l l' hs) (Ev.now _))
    · rw [decide_eq_false (fun h => hz ((ord2_zero t s t' s').2 ⟨h.2.1, h.2.2.1⟩))]
      exact Ev.congr (fun k => if_neg hz) (Ev.now _)
  · rw [decide_eq_false (fun h => h0 h.1)]
    exact Ev.congr (fun k => if_neg h0) (Ev.now _)
theorem refSame_ev (k0 t s : Int) (l : List Int) (k1 t' s' : Int) (l' : List Int) (hs : l.length ≤ 1000000000) : Ev (fun k => riffleref33_Same.f k k0 t s l k1 t' s' l') (sameB k0 t s l k1 t' s' l') := by
  unfold riffleref33_Same.f sameB
  by_cases h0 : k0 = k1
  · by_cases h1 : t = t'
    · by_cases h2 : s = s'
      · have e : decide (k0 = k1 ∧ t = t' ∧ s = s' ∧ l = l') = decide (l = l') := decide_eq_decide.2 ⟨fun h => h.2.2.2, fun h => ⟨h0, h1, h2, h⟩⟩
        rw [e]
        exact Ev.congr (fun k => by rw [if_pos h0, if_pos h1, if_pos h2]) (Ev.bind (nums_ev l l' hs) (Ev.now _))
      · rw [decide_eq_false (fun h => h2 h.2.2.1)]
        exact Ev.congr (fun k => by rw [if_pos h0, if_pos h1, if_neg h2]) (Ev.now _)
    · rw [decide_eq_false (fun h => h1 h.2.1)]
      exact Ev.congr (fun k => by rw [if_pos h0, if_neg h1]) (Ev.now _)
  · rw [decide_eq_false (fun h => h0 h.1)]
    exact Ev.congr (fun k => if_neg h0) (Ev.now _)
def aheadB (t s t' s' : Int) : Bool := decide (t < t' ∨ t = t' ∧ s < s')
theorem ahead_is (k0 t s : Int) (l : List Int) (k1 t' s' : Int) (l' : List Int) : riffleref33_Ahead.f k0 t s l k1 t' s' l' = some (aheadB t s t' s') := by
  unfold riffleref33_Ahead.f aheadB
  by_cases h0 : t < t'
  · rw [if_pos h0, decide_eq_true (.inl h0)]
  · rw [if_neg h0]
    by_cases h1 : t = t'
    · rw [if_pos h1]
      congr 1
      apply decide_eq_decide.2
      exact ⟨fun h => .inr ⟨h1, h⟩, fun h => by omega⟩
    · rw [if_neg h1, decide_eq_false (by omega)]
theorem orders_j2 (x k0 t s : Int) (l : List Int) (k1 t' s' : Int) (l' : List Int) (hx : x = ord2 t s t' s') (hs : l.length ≤ 1000000000) : Ev (fun k => rifflelaw33_RecordOrders.j2 k x k0 t s l k1 t' s' l') true := by
  have e : ∀ k, rifflelaw33_RecordOrders.j2 (k + 1) x k0 t s l k1 t' s' l' = (record_Cmp.f k k0 t s l k1 t' s' l').bind fun t184 => (if t184 = x then ((record_Same.f k k0 t s l k1 t' s' l').bind fun t185 => ((riffleref33_Same.f k k0 t s l k1 t' s' l').bind fun t186 => (if t185 = true then (if t186 = true then ((record_Same.f k k0 t s l k0 t s l).bind fun t187 => (if t187 = true then ((rifflelaw33_lives.f k).bind fun t188 => (some t188)) else (some false))) else (some false)) else (if t186 = true then (some false) else ((record_Same.f k k0 t s l k0 t s l).bind fun t189 => (if t189 = true then ((rifflelaw33_lives.f k).bind fun t190 => (some t190)) else (some false))))))) else (some false)) := fun k => by
    simp only [rifflelaw33_RecordOrders.j2]
  have self : sameB k0 t s l k0 t s l = true := decide_eq_true ⟨rfl, rfl, rfl, rfl⟩
  have hm := same_ev k0 t s l k0 t s l hs
  rw [self] at hm
  have tail : Ev (fun k => (record_Same.f k k0 t s l k0 t s l).bind fun t187 => (if t187 = true then ((rifflelaw33_lives.f k).bind fun t188 => (some t188)) else (some false))) true := Ev.bind hm (Ev.congr (fun k => if_pos rfl) lives_bind)
  refine Ev.step e (Ev.bind (cmp_ev k0 t s l k1 t' s' l') (Ev.congr (fun k => if_pos hx.symm) (Ev.bind (same_ev k0 t s l k1 t' s' l' hs) (Ev.bind (refSame_ev k0 t s l k1 t' s' l' hs) ?_))))
  by_cases q : sameB k0 t s l k1 t' s' l' = true
  · exact Ev.congr (fun k => by rw [if_pos q, if_pos q]) tail
  · exact Ev.congr (fun k => by rw [if_neg q, if_neg q]) tail
theorem recordOrders_law (k0 t s : Int) (l : List Int) (k1 t' s' : Int) (l' : List Int) : ∃ k, rifflelaw33_RecordOrders.f k k0 t s l k1 t' s' l' = some true := by
  refine Ev.rounds ?_
  have yes : Ev (fun k => rifflelaw33_RecordOrders.j0 k true k0 t s l k1 t' s' l') true := by
    refine Ev.step (fun k => ?_) lives_bind
    simp only [rifflelaw33_RecordOrders.j0]
    rw [if_pos trivial]
  by_cases h1 : (l.length : Int) > 200
  · refine Ev.congr (fun k => ?_) yes
    unfold rifflelaw33_RecordOrders.f
    rw [if_pos h1]
  · by_cases h2 : (l'.length : Int) > 200
    · refine Ev.congr (fun k => ?_) yes
      unfold rifflelaw33_RecordOrders.f
      rw [if_neg h1, decide_eq_true h2]
    · have e0 : ∀ k, rifflelaw33_RecordOrders.f k k0 t s l k1 t' s' l' = rifflelaw33_RecordOrders.j0 k false k0 t s l k1 t' s' l' := fun k => by
        unfold rifflelaw33_RecordOrders.f
        rw [if_neg h1, decide_eq_false h2]
      have e1 : ∀ k, rifflelaw33_RecordOrders.j0 (k + 1) false k0 t s l k1 t' s' l' = rifflelaw33_RecordOrders.j1 k (if aheadB t s t' s' = true then -1 else 0) k0 t s l k1 t' s' l' := fun k => by
        simp only [rifflelaw33_RecordOrders.j0]
        rw [if_neg (by simp), ahead_is, Option.bind_some]
        split <;> rfl
      have e2 : ∀ k x, rifflelaw33_RecordOrders.j1 (k + 1) x k0 t s l k1 t' s' l' = rifflelaw33_RecordOrders.j2 k (if aheadB t' s' t s = true then 1 else x) k0 t s l k1 t' s' l' := fun k x => by
        simp only [rifflelaw33_RecordOrders.j1]
        rw [ahead_is, Option.bind_some]
        split <;> rfl
      refine Ev.congr e0 (Ev.step e1 (Ev.step (fun k => e2 k _) (orders_j2 _ k0 t s l k1 t' s' l' ?_ (by omega))))
      unfold aheadB ord2 ord
      simp only [decide_eq_true_eq]
      split <;> (repeat' split) <;> omega
end Go.Proofs.YtpmnhbjbkoackaaDoor.Xo
