/- DigitsBack: what its printed function comes to is true. -/
import Derived.Test.YtpaeefnepfppfaaDoorDigPure
import Derived.Test.YtpaeefnepfppfaaDoorXd4
namespace Go.Proofs.YtpaeefnepfppfaaDoor.Xd
open Go Go.RowKit Go.Proofs.YtpaeefnepfppfaaDoor.Dig Go.Proofs.YtpaeefnepfppfaaDoorW.PrintWords Go.Proofs.YtpaeefnepfppfaaDoorW.PrintLast Go.Proofs.YtpaeefnepfppfaaDoorW.PrintMore
set_option linter.unusedVariables false
set_option linter.unusedSimpArgs false
theorem dec_len19 {n : Int} (h : In64 n) : (dec n.natAbs).length ≤ 19 :=
  dec_len (by decide) (Nat.lt_of_le_of_lt (show n.natAbs ≤ 9223372036854775808 by obtain ⟨a, b⟩ := h; omega) (by decide))
/-- what is written is read -/
theorem get_itoa (n : Int) (h : In64 n) : getB ⟨(Lib.itoa n).toArray⟩ = (n, true) := by
  obtain ⟨h1, h2⟩ := itoa_pre n
  have hd : (⟨(Lib.itoa n).toArray⟩ : ByteArray).data.toList = Lib.itoa n := by simp
  unfold getB
  rw [hd, h1, h2]
  have hall : (⟨(dec n.natAbs).toArray⟩ : ByteArray).data.toList.all isDig = true := dec_all _
  have hq : lead (⟨(dec n.natAbs).toArray⟩ : ByteArray) = (dec n.natAbs).length := lead_all hall
  rw [if_pos hq]
  exact valued_is h rfl
theorem read_app (n : Int) (h : In64 n) (rest : ByteArray) (hr : rest.size = 0 ∨ ∃ q : 0 < rest.data.toList.length, isDig (rest.data.toList[0]'q) = false) :
    readB (highB n ++ rest) = (n, ((highB n).size : Int), true) := by
  have hdata : (highB n ++ rest).data.toList = (if n < 0 then [194, 175] else []) ++ (dec n.natAbs ++ rest.data.toList) := by
    unfold highB
    simp
  have hne := dec_ne n.natAbs
  have hpos : 0 < (dec n.natAbs).length := List.length_pos_iff.2 hne
  have core : ∀ r : ByteArray, r.data.toList = dec n.natAbs ++ rest.data.toList → lead r = (dec n.natAbs).length ∧ valued (r.extract 0 (lead r)) (decide (n < 0)) = (n, true) := by
    intro r hr'
    have hl : lead r = (dec n.natAbs).length := by
      have hsz : r.size = (dec n.natAbs).length + rest.size := by
        have := congrArg List.length hr'
        simpa using this
      refine lead_is (by omega) (by rw [hr', List.take_left']; exact dec_all _; rfl) ?_
      rcases hr with h0 | ⟨q, h0⟩
      · left; omega
      · right
        have q' : 0 < rest.size := by simpa using q
        refine ⟨by simp; omega, ?_⟩
        have e : r.data.toList[(dec n.natAbs).length]? = rest.data.toList[0]? := by
          rw [hr', List.getElem?_append_right (Nat.le_refl _), Nat.sub_self]
        rw [List.getElem?_eq_getElem (by simp; omega), List.getElem?_eq_getElem q, Option.some.injEq] at e
        rw [e]; exact h0
    refine ⟨hl, valued_is h ?_⟩
    rw [Lib.extract_data, hl, hr']
    simp
  by_cases hn : n < 0
  · rw [if_pos hn] at hdata
    have hp : Lib.hasPrefix (highB n ++ rest).data.toList [194, 175] = true := by rw [hdata]; simp [Lib.hasPrefix, List.isPrefixOf]
    have hc : cutR (highB n ++ rest) = (⟨(dec n.natAbs ++ rest.data.toList).toArray⟩, true) := by
      unfold cutR
      rw [if_pos hp, hdata]; rfl
    obtain ⟨c1, c2⟩ := core ⟨(dec n.natAbs ++ rest.data.toList).toArray⟩ rfl
    rw [decide_eq_true hn] at c2
    have e1 : (highB n ++ rest).size = 2 + ((dec n.natAbs).length + rest.size) := by
      have h1 := congrArg List.length hdata
      have h2 : (highB n ++ rest).data.toList.length = (highB n ++ rest).size := by simp
      rw [h2, List.length_append, List.length_append] at h1
      rw [h1]; simp
    have e2 : (⟨(dec n.natAbs ++ rest.data.toList).toArray⟩ : ByteArray).size = (dec n.natAbs).length + rest.size := by
      show (dec n.natAbs ++ rest.data.toList).toArray.size = _
      simp
    have e3 : (highB n).size = 2 + (dec n.natAbs).length := by
      unfold highB
      rw [if_pos hn]
      show ([194, 175] ++ dec n.natAbs).toArray.size = _
      rw [List.size_toArray, List.length_append]; rfl
    unfold readB
    rw [hc]
    simp only [c2]
    rw [c1, e1, e2, e3]
    refine Prod.ext rfl (Prod.ext ?_ rfl)
    dsimp only
    omega
  · rw [if_neg hn, List.nil_append] at hdata
    have hhd : ∀ c l, Lib.hasPrefix (highB n ++ rest).data.toList (c :: l) = true → 48 ≤ c.toNat ∧ c.toNat ≤ 57 := by
      intro c l hp
      rw [hdata] at hp
      cases hd : dec n.natAbs with
      | nil => exact absurd hd hne
      | cons a m =>
        rw [hd] at hp
        unfold Lib.hasPrefix at hp
        rw [List.cons_append, List.isPrefixOf_cons_cons, Bool.and_eq_true, beq_iff_eq] at hp
        rw [hp.1]
        exact dec_dig n.natAbs a (by rw [hd]; exact List.mem_cons_self)
    have p1 : ¬ Lib.hasPrefix (highB n ++ rest).data.toList [194, 175] = true := fun e => absurd (hhd _ _ e).2 (by decide)
    have p2 : ¬ Lib.hasPrefix (highB n ++ rest).data.toList [95] = true := fun e => absurd (hhd _ _ e).2 (by decide)
    have hc : cutR (highB n ++ rest) = (highB n ++ rest, false) := by
      unfold cutR
      rw [if_neg p1, if_neg p2]
    obtain ⟨c1, c2⟩ := core (highB n ++ rest) hdata
    rw [decide_eq_false hn] at c2
    have e3 : (highB n).size = (dec n.natAbs).length := by
      unfold highB
      rw [if_neg hn]
      show ([] ++ dec n.natAbs).toArray.size = _
      simp
    unfold readB
    rw [hc]
    simp only [c2]
    rw [c1, e3]
    refine Prod.ext rfl (Prod.ext ?_ rfl)
    dsimp only
    omega
/-- what is read is written as it stood there -/
theorem get_back {s : ByteArray} {x : Int} (h : getB s = (x, true)) : In64 x ∧ Lib.itoa x = s.data.toList := by
  unfold getB at h
  split at h
  · rename_i hl
    have hall := all_of_lead (s := ⟨(Lib.trimPrefix s.data.toList [45]).toArray⟩) hl
    rcases valued_spec hall (Lib.hasPrefix s.data.toList [45]) with ⟨n, h1, h2, h3, h4⟩ | ⟨_, h2⟩
    · rw [h4] at h
      obtain rfl : n = x := (Prod.mk.inj h).1
      refine ⟨h1, ?_⟩
      have h3' : Lib.trimPrefix s.data.toList [45] = dec n.natAbs := h3
      rw [itoa_data, ← h3']
      unfold Lib.trimPrefix
      rw [h2]
      by_cases hn : n < 0
      · rw [if_pos hn, decide_eq_true hn, if_pos rfl]
        rw [decide_eq_true hn, pre_one] at h2
        cases hd : s.data.toList with
        | nil => rw [hd] at h2; simp at h2
        | cons a l => rw [hd] at h2; rw [show a = 45 from Option.some.inj h2]; rfl
      · rw [if_neg hn, decide_eq_false hn, if_neg (by decide)]
    · rw [h2] at h; cases h
  · cases h
theorem read_back (s : ByteArray) : 0 ≤ (readB s).2.1 ∧ (readB s).2.1 ≤ (s.size : Int) ∧ ((readB s).2.2 = true → In64 (readB s).1 ∧ 0 < s.size ∧ (Lib.hasPrefix s.data.toList [95] = false → (highB (readB s).1).data.toList = s.data.toList.take (readB s).2.1.toNat)) := by
  have hcut := cutR_le s
  have hl := lead_le (cutR s).1
  refine ⟨by unfold readB; simp only; omega, by unfold readB; simp only; omega, fun ht => ?_⟩
  have hall := extract_all (cutR s).1
  have hv : (valued ((cutR s).1.extract 0 (lead (cutR s).1)) (cutR s).2).2 = true := by unfold readB at ht; exact ht
  rcases valued_spec hall (cutR s).2 with ⟨n, h1, h2, h3, h4⟩ | ⟨_, h2⟩
  · have e1 : (readB s).1 = n := by unfold readB; simp only [h4]
    rw [e1]
    rw [Lib.extract_data] at h3
    simp only [Nat.sub_zero, List.drop_zero] at h3
    have hln : lead (cutR s).1 = (dec n.natAbs).length := by
      have := congrArg List.length h3
      rw [List.length_take] at this
      have e : (cutR s).1.data.toList.length = (cutR s).1.size := by simp
      omega
    have hpos : 0 < (dec n.natAbs).length := List.length_pos_iff.2 (dec_ne _)
    refine ⟨h1, by omega, fun h95 => ?_⟩
    have em : (readB s).2.1.toNat = s.size - (cutR s).1.size + lead (cutR s).1 := by unfold readB; simp only; omega
    rw [em]
    unfold highB
    by_cases hp : Lib.hasPrefix s.data.toList [194, 175] = true
    · have hc : cutR s = (⟨(s.data.toList.drop 2).toArray⟩, true) := by unfold cutR; rw [if_pos hp]
      rw [hc] at h2 h3 ⊢
      have hn : n < 0 := of_decide_eq_true h2.symm
      rw [if_pos hn]
      have hlen := pre_len hp
      have htk : s.data.toList = [194, 175] ++ s.data.toList.drop 2 := by
        have := hp
        rw [← Lib.hasPrefix_of_take, Bool.and_eq_true, beq_iff_eq] at this
        rw [← this.2]
        exact (List.take_append_drop 2 _).symm
      have hsz : s.size - (⟨(s.data.toList.drop 2).toArray⟩ : ByteArray).size = 2 := by
        show s.size - (s.data.toList.drop 2).toArray.size = 2
        simp at hlen ⊢
        omega
      simp only [hsz]
      show [194, 175] ++ dec n.natAbs = _
      rw [← h3]
      conv => rhs; rw [htk]
      rw [List.take_append]
      simp
      rw [List.take_of_length_le (l := [(194 : UInt8), 175]) (by simp)]; rfl
    · have hc : cutR s = (s, false) := by unfold cutR; rw [if_neg hp, if_neg (by rw [h95]; decide)]
      rw [hc] at h2 h3 ⊢
      have hn : ¬ n < 0 := of_decide_eq_false h2.symm
      rw [if_neg hn]
      simp only [Nat.sub_self, Nat.zero_add]
      exact h3.symm
  · rw [h2] at hv; cases hv
theorem back_j1 (s : ByteArray) (hs : s.size ≤ 140737488355327) : Ev (fun k => rifflelaw10_DigitsBack.j1 k s false) true := by
  obtain ⟨r1, r2, r3⟩ := read_back s
  have hd : ∀ b : ByteArray, b.data.toList.toArray = b.data := fun b => by simp
  refine Ev.step (f := fun _ => some true) (fun k => ?_) (Ev.now _)
  simp only [rifflelaw10_DigitsBack.j1]
  rw [if_neg (by simp), get_is s (by omega), read_is s hs, lives_is]
  simp only [Option.bind_some]
  have tail : ∀ z : Option Bool, z = some true → (if (readB s).2.2 = true then (if 0 < (s.size : Int) then (if (bt s 0) = 95 then z else ((digits_High.f (readB s).1).bind fun t => (if 0 ≤ (readB s).2.1 then (if (readB s).2.1 ≤ (s.size : Int) then (if t.toList = (s.extract 0 ((readB s).2.1 : Int).toNat).toList then z else (some false)) else (none)) else (none)))) else (none)) else z) = some true := by
    rintro z rfl
    by_cases ht : (readB s).2.2 = true
    · obtain ⟨t1, t2, t3⟩ := r3 ht
      rw [if_pos ht, if_pos (by omega)]
      by_cases h95 : bt s 0 = 95
      · rw [if_pos h95]
      · rw [if_neg h95, high_is _ t1, Option.bind_some, if_pos r1, if_pos r2, if_pos]
        rw [Lib.toList_data, Lib.toList_data, Lib.extract_data]
        simp only [Nat.sub_zero, List.drop_zero]
        refine t3 ?_
        rw [← bt0_is s 95 t2, beq_eq_false_iff_ne]
        exact h95
    · rw [if_neg ht]
  by_cases hg : (getB s).2 = true
  · rw [if_pos hg]
    obtain ⟨g1, g2⟩ := get_back (s := s) (x := (getB s).1) (by rw [← hg])
    rw [put_is _ g1, Option.bind_some, if_pos (by rw [Lib.toList_data, Lib.toList_data]; exact g2), if_neg (by omega), if_neg (by omega)]
    exact tail _ rfl
  · rw [if_neg hg, if_neg (by omega), if_neg (by omega)]
    exact tail _ rfl
theorem digitsBack_law (a0 : Int) (a1 : ByteArray) (a2 : ByteArray) (h0 : (Lit.int .i64 a0).wf = true) (h1 : a1.size ≤ 140737488351232) (h2 : a2.size ≤ 140737488351232) : ∃ k, rifflelaw10_DigitsBack.f k a0 a1 a2 = some true := by
  have hn := in64_wf h0
  have hlen := dec_len19 hn
  have hi : (⟨(Lib.itoa a0).toArray⟩ : ByteArray).size ≤ 20 := by
    show (Lib.itoa a0).toArray.size ≤ 20
    rw [List.size_toArray, itoa_data]
    split
    · rw [List.length_cons]; omega
    · omega
  have hh : (highB a0).size ≤ 21 := by
    unfold highB
    show ((if a0 < 0 then [194, 175] else []) ++ dec a0.natAbs).toArray.size ≤ 21
    rw [List.size_toArray, List.length_append]
    split
    · show 2 + _ ≤ 21; omega
    · show 0 + _ ≤ 21; omega
  refine Ev.rounds ?_
  have j1 := back_j1 a2 (by omega)
  have e0 : ∀ k, rifflelaw10_DigitsBack.f k a0 a1 a2 = rifflelaw10_DigitsBack.j0 k a0 a1 a2 (readB (highB a0 ++ a1)).1 (readB (highB a0 ++ a1)).2.1 (readB (highB a0 ++ a1)).2.2 false := fun k => by
    unfold rifflelaw10_DigitsBack.f
    rw [put_is a0 hn, Option.bind_some, get_is _ (by omega), get_itoa a0 hn, Option.bind_some, high_is a0 hn, Option.bind_some, if_pos (by omega), read_is _ (by rw [ByteArray.size_append]; omega), Option.bind_some]
    simp
  refine Ev.congr e0 (Ev.step (f := fun k => rifflelaw10_DigitsBack.j1 k a2 false) (fun k => ?_) j1)
  simp only [rifflelaw10_DigitsBack.j0]
  rw [if_neg (c := false = true) (by decide)]
  have good : (a1.size = 0 ∨ ∃ q : 0 < a1.data.toList.length, isDig (a1.data.toList[0]'q) = false) →
      (if (readB (highB a0 ++ a1)).2.2 = true then (if (readB (highB a0 ++ a1)).1 = a0 then ((digits_High.f a0).bind fun t => (rifflelaw10_DigitsBack.j1 k a2 ((readB (highB a0 ++ a1)).2.1 != (t.size : Int)))) else (rifflelaw10_DigitsBack.j1 k a2 true)) else (rifflelaw10_DigitsBack.j1 k a2 true)) = rifflelaw10_DigitsBack.j1 k a2 false := fun hq => by
    rw [read_app a0 hn a1 hq, if_pos rfl, if_pos rfl, high_is a0 hn, Option.bind_some]
    show rifflelaw10_DigitsBack.j1 k a2 (((highB a0).size : Int) != ((highB a0).size : Int)) = _
    rw [bne_self_eq_false]
  by_cases hz : a1.size = 0
  · have : a1.toList = [] := by rw [Lib.toList_data]; exact List.length_eq_zero_iff.1 (by simpa using hz)
    rw [if_pos this]
    exact good (.inl hz)
  · have hz' : 0 < a1.data.toList.length := by simp; omega
    have : ¬ a1.toList = [] := by rw [Lib.toList_data]; intro e; rw [e] at hz'; simp at hz'
    rw [if_neg this, if_pos (by omega)]
    have hb := isDig_bt a1 0 hz'
    have hb0 : bt a1 ((0 : Nat) : Int) = bt a1 0 := rfl
    rw [hb0] at hb
    by_cases c1 : bt a1 0 < 48
    · rw [if_pos c1]
      exact good (.inr ⟨hz', by rw [Bool.eq_false_iff]; intro e; have := hb.1 e; omega⟩)
    · rw [if_neg c1]
      by_cases c2 : bt a1 0 > 57
      · rw [if_pos c2]
        exact good (.inr ⟨hz', by rw [Bool.eq_false_iff]; intro e; have := hb.1 e; omega⟩)
      · rw [if_neg c2]
end Go.Proofs.YtpaeefnepfppfaaDoor.Xd
