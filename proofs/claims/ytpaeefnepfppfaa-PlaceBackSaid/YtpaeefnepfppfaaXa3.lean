-- Printed by a driver of this session around the kit's print (wip/tools/xprint.py): functions and contracts.
import Derived.Test.YtpaeefnepfppfaaXa0
import Derived.Test.YtpaeefnepfppfaaXa1
import Derived.Test.YtpaeefnepfppfaaXa2
namespace Go.Proofs.Ytpaeefnepfppfaa.Xa
open Go.RowKit Go.Proofs.YtpaeefnepfppfaaW.PrintWords Go.Proofs.YtpaeefnepfppfaaW.PrintLast Go.Proofs.YtpaeefnepfppfaaW.PrintMore
attribute [local go_sem] max2_int min2_int max_two min_two max_three min_three max_four min_four   -- for this text's walks alone
set_option linter.unusedVariables false
set_option linter.unusedSimpArgs false

/-! ### rifflelaw39_PlaceBack: function 3 -/
mutual
def rifflelaw39_PlaceBack.j0 : Nat → ByteArray → Int → Bool → Option (Bool)
  | 0, _, _, _ => none
  | k + 1, x0, x5, x72 => if x72 = true then (some false) else (if x5 < (x0.size : Int) then (if 0 ≤ x5 then (if (bt x0 x5) ≥ 128 then (rifflelaw39_PlaceBack.j1 k x0 x5 (decide ((bt x0 x5) ≤ 191))) else (rifflelaw39_PlaceBack.j1 k x0 x5 false)) else (none)) else (rifflelaw39_PlaceBack.j1 k x0 x5 false))
def rifflelaw39_PlaceBack.j1 : Nat → ByteArray → Int → Bool → Option (Bool)
  | 0, _, _, _ => none
  | k + 1, x0, x5, x88 => if x88 = true then ((rifflelaw39_lives.f k).bind fun t122 => (some t122)) else ((place_Of.f k x0 x5).bind fun bt123 => ((place_At.f k x0 bt123.1 bt123.2).bind fun bt125 => (if bt125.2 = true then (rifflelaw39_PlaceBack.j2 k x0 x5 bt125.1 (decide (bt125.1 > x5))) else (rifflelaw39_PlaceBack.j2 k x0 x5 bt125.1 true))))
def rifflelaw39_PlaceBack.j2 : Nat → ByteArray → Int → Int → Bool → Option (Bool)
  | 0, _, _, _, _ => none
  | k + 1, x0, x5, x13, x109 => if x109 = true then (some false) else (rifflelaw39_PlaceBack.l0 k x0 x5 x13)
def rifflelaw39_PlaceBack.l0 : Nat → ByteArray → Int → Int → Option (Bool)
  | 0, _, _, _ => none
  | k + 1, x0, x5, x15 => if x15 < x5 then (if 0 ≤ x15 then (if x15 < (x0.size : Int) then (if (bt x0 x15) < 128 then (some false) else (if (bt x0 x15) > 191 then (some false) else (rifflelaw39_PlaceBack.l0 k x0 x5 (wrap64 (x15 + 1))))) else (none)) else (none)) else ((rifflelaw39_lives.f k).bind fun t127 => (some t127))
end
def rifflelaw39_PlaceBack.f (k : Nat) (a0 : ByteArray) (a1_0 : Int) (a1_1 : Int) : Option (Bool) := if (a0.size : Int) > 300 then ((rifflelaw39_lives.f k).bind fun t117 => (some t117)) else (if (IntKind.u64.wrap (wrap64 ((a0.size : Int) + 1))) = 0 then (none) else ((place_Of.f k a0 (mn (wrap64 (Int.tmod a1_0 (IntKind.u64.wrap (wrap64 ((a0.size : Int) + 1))))) (wrap64 (Int.tmod a1_1 (IntKind.u64.wrap (wrap64 ((a0.size : Int) + 1))))))).bind fun bt118 => ((place_Of.f k a0 (mx (wrap64 (Int.tmod a1_0 (IntKind.u64.wrap (wrap64 ((a0.size : Int) + 1))))) (wrap64 (Int.tmod a1_1 (IntKind.u64.wrap (wrap64 ((a0.size : Int) + 1))))))).bind fun bt120 => (if bt118.1 < 1 then (rifflelaw39_PlaceBack.j0 k a0 (wrap64 (Int.tmod a1_0 (IntKind.u64.wrap (wrap64 ((a0.size : Int) + 1))))) true) else (if bt118.2 < 1 then (rifflelaw39_PlaceBack.j0 k a0 (wrap64 (Int.tmod a1_0 (IntKind.u64.wrap (wrap64 ((a0.size : Int) + 1))))) true) else (if bt120.1 < bt118.1 then (rifflelaw39_PlaceBack.j0 k a0 (wrap64 (Int.tmod a1_0 (IntKind.u64.wrap (wrap64 ((a0.size : Int) + 1))))) true) else (if bt120.1 = bt118.1 then (rifflelaw39_PlaceBack.j0 k a0 (wrap64 (Int.tmod a1_0 (IntKind.u64.wrap (wrap64 ((a0.size : Int) + 1))))) (decide (bt120.2 < bt118.2))) else (rifflelaw39_PlaceBack.j0 k a0 (wrap64 (Int.tmod a1_0 (IntKind.u64.wrap (wrap64 ((a0.size : Int) + 1))))) false))))))))
theorem rifflelaw39_PlaceBack.mono_l : ∀ k, (∀ y0 y1 y2, LeO (rifflelaw39_PlaceBack.j0 k y0 y1 y2) (rifflelaw39_PlaceBack.j0 (k + 1) y0 y1 y2)) ∧ (∀ y0 y1 y2, LeO (rifflelaw39_PlaceBack.j1 k y0 y1 y2) (rifflelaw39_PlaceBack.j1 (k + 1) y0 y1 y2)) ∧ (∀ y0 y1 y2 y3, LeO (rifflelaw39_PlaceBack.j2 k y0 y1 y2 y3) (rifflelaw39_PlaceBack.j2 (k + 1) y0 y1 y2 y3)) ∧ (∀ y0 y1 y2, LeO (rifflelaw39_PlaceBack.l0 k y0 y1 y2) (rifflelaw39_PlaceBack.l0 (k + 1) y0 y1 y2))
  | 0 => ⟨fun _ _ _ r h => by simp [rifflelaw39_PlaceBack.j0] at h, fun _ _ _ r h => by simp [rifflelaw39_PlaceBack.j1] at h, fun _ _ _ _ r h => by simp [rifflelaw39_PlaceBack.j2] at h, fun _ _ _ r h => by simp [rifflelaw39_PlaceBack.l0] at h⟩
  | k + 1 => by
    obtain ⟨ih0, ih1, ih2, ih3⟩ := rifflelaw39_PlaceBack.mono_l k
    refine ⟨?_, ?_, ?_, ?_⟩
    · intro y0 y1 y2
      unfold rifflelaw39_PlaceBack.j0
      repeat' first
      | (with_reducible exact ih0 _ _ _)
      | (with_reducible exact ih1 _ _ _)
      | (with_reducible exact ih2 _ _ _ _)
      | (with_reducible exact ih3 _ _ _)
      | (with_reducible exact place_At.mono _ _ _ _)
      | (with_reducible exact place_Of.mono _ _ _)
      | (with_reducible exact rifflelaw39_lives.mono _)
      | (with_reducible exact LeO.refl _)
      | (with_reducible exact LeO.none _)
      | (with_reducible refine LeO.ite ?_ ?_)
      | (with_reducible refine LeO.bind ?_ (fun _ => ?_))
      | exact ih0 _ _ _
      | exact ih1 _ _ _
      | exact ih2 _ _ _ _
      | exact ih3 _ _ _
      | exact place_At.mono _ _ _ _
      | exact place_Of.mono _ _ _
      | exact rifflelaw39_lives.mono _
      | exact LeO.none _
      | refine LeO.ite ?_ ?_
      | refine LeO.bind ?_ (fun _ => ?_)
    · intro y0 y1 y2
      unfold rifflelaw39_PlaceBack.j1
      repeat' first
      | (with_reducible exact ih0 _ _ _)
      | (with_reducible exact ih1 _ _ _)
      | (with_reducible exact ih2 _ _ _ _)
      | (with_reducible exact ih3 _ _ _)
      | (with_reducible exact place_At.mono _ _ _ _)
      | (with_reducible exact place_Of.mono _ _ _)
      | (with_reducible exact rifflelaw39_lives.mono _)
      | (with_reducible exact LeO.refl _)
      | (with_reducible exact LeO.none _)
      | (with_reducible refine LeO.ite ?_ ?_)
      | (with_reducible refine LeO.bind ?_ (fun _ => ?_))
      | exact ih0 _ _ _
      | exact ih1 _ _ _
      | exact ih2 _ _ _ _
      | exact ih3 _ _ _
      | exact place_At.mono _ _ _ _
      | exact place_Of.mono _ _ _
      | exact rifflelaw39_lives.mono _
      | exact LeO.none _
      | refine LeO.ite ?_ ?_
      | refine LeO.bind ?_ (fun _ => ?_)
    · intro y0 y1 y2 y3
      unfold rifflelaw39_PlaceBack.j2
      repeat' first
      | (with_reducible exact ih0 _ _ _)
      | (with_reducible exact ih1 _ _ _)
      | (with_reducible exact ih2 _ _ _ _)
      | (with_reducible exact ih3 _ _ _)
      | (with_reducible exact place_At.mono _ _ _ _)
      | (with_reducible exact place_Of.mono _ _ _)
      | (with_reducible exact rifflelaw39_lives.mono _)
      | (with_reducible exact LeO.refl _)
      | (with_reducible exact LeO.none _)
      | (with_reducible refine LeO.ite ?_ ?_)
      | (with_reducible refine LeO.bind ?_ (fun _ => ?_))
      | exact ih0 _ _ _
      | exact ih1 _ _ _
      | exact ih2 _ _ _ _
      | exact ih3 _ _ _
      | exact place_At.mono _ _ _ _
      | exact place_Of.mono _ _ _
      | exact rifflelaw39_lives.mono _
      | exact LeO.none _
      | refine LeO.ite ?_ ?_
      | refine LeO.bind ?_ (fun _ => ?_)
    · intro y0 y1 y2
      unfold rifflelaw39_PlaceBack.l0
      repeat' first
      | (with_reducible exact ih0 _ _ _)
      | (with_reducible exact ih1 _ _ _)
      | (with_reducible exact ih2 _ _ _ _)
      | (with_reducible exact ih3 _ _ _)
      | (with_reducible exact place_At.mono _ _ _ _)
      | (with_reducible exact place_Of.mono _ _ _)
      | (with_reducible exact rifflelaw39_lives.mono _)
      | (with_reducible exact LeO.refl _)
      | (with_reducible exact LeO.none _)
      | (with_reducible refine LeO.ite ?_ ?_)
      | (with_reducible refine LeO.bind ?_ (fun _ => ?_))
      | exact ih0 _ _ _
      | exact ih1 _ _ _
      | exact ih2 _ _ _ _
      | exact ih3 _ _ _
      | exact place_At.mono _ _ _ _
      | exact place_Of.mono _ _ _
      | exact rifflelaw39_lives.mono _
      | exact LeO.none _
      | refine LeO.ite ?_ ?_
      | refine LeO.bind ?_ (fun _ => ?_)
theorem rifflelaw39_PlaceBack.mono : ∀ a0 a1 a2 k, LeO (rifflelaw39_PlaceBack.f k a0 a1 a2) (rifflelaw39_PlaceBack.f (k + 1) a0 a1 a2) := by
  intro a0 a1 a2 k
  obtain ⟨ih0, ih1, ih2, ih3⟩ := rifflelaw39_PlaceBack.mono_l k
  unfold rifflelaw39_PlaceBack.f
  repeat' first
      | (with_reducible exact ih0 _ _ _)
      | (with_reducible exact ih1 _ _ _)
      | (with_reducible exact ih2 _ _ _ _)
      | (with_reducible exact ih3 _ _ _)
      | (with_reducible exact place_At.mono _ _ _ _)
      | (with_reducible exact place_Of.mono _ _ _)
      | (with_reducible exact rifflelaw39_lives.mono _)
      | (with_reducible exact LeO.refl _)
      | (with_reducible exact LeO.none _)
      | (with_reducible refine LeO.ite ?_ ?_)
      | (with_reducible refine LeO.bind ?_ (fun _ => ?_))
      | exact ih0 _ _ _
      | exact ih1 _ _ _
      | exact ih2 _ _ _ _
      | exact ih3 _ _ _
      | exact place_At.mono _ _ _ _
      | exact place_Of.mono _ _ _
      | exact rifflelaw39_lives.mono _
      | exact LeO.none _
      | refine LeO.ite ?_ ?_
      | refine LeO.bind ?_ (fun _ => ?_)
set_option maxHeartbeats 8000000 in
set_option maxRecDepth 100000 in
theorem rifflelaw39_PlaceBack.calls (k : Nat) (a0 : ByteArray) (a1_0 : Int) (a1_1 : Int) (r : Bool) (w : World) (hG : GL w) (h : rifflelaw39_PlaceBack.f k a0 a1_0 a1_1 = some r) :
    Calls Try.prog 3 #[.string a0, .agg #[.int .u64 a1_0, .int .u64 a1_1]] w fun e w' => e = .returned (.bool r) ∧ Below w.heap.size w w' := by
  have HG := Aside0.mk hG
  clear hG
  have hu23 := Try.underlying23
  have HB := Aside0.mk (Below.refl w.heap.size w)
  have H : (if (a0.size : Int) > 300 then ((rifflelaw39_lives.f k).bind fun t117 => (some t117)) else (if (IntKind.u64.wrap (wrap64 ((a0.size : Int) + 1))) = 0 then (none) else ((place_Of.f k a0 (mn (wrap64 (Int.tmod a1_0 (IntKind.u64.wrap (wrap64 ((a0.size : Int) + 1))))) (wrap64 (Int.tmod a1_1 (IntKind.u64.wrap (wrap64 ((a0.size : Int) + 1))))))).bind fun bt118 => ((place_Of.f k a0 (mx (wrap64 (Int.tmod a1_0 (IntKind.u64.wrap (wrap64 ((a0.size : Int) + 1))))) (wrap64 (Int.tmod a1_1 (IntKind.u64.wrap (wrap64 ((a0.size : Int) + 1))))))).bind fun bt120 => (if bt118.1 < 1 then (rifflelaw39_PlaceBack.j0 k a0 (wrap64 (Int.tmod a1_0 (IntKind.u64.wrap (wrap64 ((a0.size : Int) + 1))))) true) else (if bt118.2 < 1 then (rifflelaw39_PlaceBack.j0 k a0 (wrap64 (Int.tmod a1_0 (IntKind.u64.wrap (wrap64 ((a0.size : Int) + 1))))) true) else (if bt120.1 < bt118.1 then (rifflelaw39_PlaceBack.j0 k a0 (wrap64 (Int.tmod a1_0 (IntKind.u64.wrap (wrap64 ((a0.size : Int) + 1))))) true) else (if bt120.1 = bt118.1 then (rifflelaw39_PlaceBack.j0 k a0 (wrap64 (Int.tmod a1_0 (IntKind.u64.wrap (wrap64 ((a0.size : Int) + 1))))) (decide (bt120.2 < bt118.2))) else (rifflelaw39_PlaceBack.j0 k a0 (wrap64 (Int.tmod a1_0 (IntKind.u64.wrap (wrap64 ((a0.size : Int) + 1))))) false))))))))) = some r := h
  clear h
  by_cases c3 : (a0.size : Int) > 300
  · rw [if_pos c3] at H
    have c3b0 : decide (300 < (a0.size : Int)) = true := decide_eq_true c3
    have c3b1 : decide (300 < a0.size) = true := decide_eq_true (by omega)
    clear c3
    replace H := Option.bind_eq_some_iff.mp H
    obtain ⟨t117, A40, H⟩ := H
    replace H : (some t117) = some r := H
    have A4 := Aside0.mk A40
    clear A40
    obtain rfl := Option.some.inj H
    go_enter Try.func3, Try.ntmps3
    go_wp2_with (first | ((with_reducible refine gate_dst (N := 3) rfl ?_); refine box_event ?hg (N := 3) ?hd (cs := #[.int .u64 a1_0, .int .u64 a1_1]) (t := 23) ?hr ?_; (case hd => rfl); (case hg => rfl); (case hr => first | (go_simp; done) | (go_simp; rfl)); intro gb116 hg w5 hbox hb; have n0_ := Aside0.mk (below_step (by repeat (first | (with_reducible first | exact HB.out | apply below_alloc | apply pw_below_drewN | apply below_drew1) | exact HB.out | exact Below.refl _ _)) hb); have n1_ := Aside0.mk (hbox); have n2_ := Aside0.mk ((by rw [hg]; exact (below_size (by repeat (first | (with_reducible first | exact HB.out | apply below_alloc | apply pw_below_drewN | apply below_drew1) | exact HB.out | exact Below.refl _ _))) : w.heap.size ≤ gb116)); have n3_ := Aside0.mk ((by rw [hg]; exact (below_size (by repeat (first | (with_reducible first | exact HB.out | apply below_alloc | apply pw_below_drewN | apply below_drew1) | exact HB.out | exact Below.refl _ _))) : w.heap.size ≤ gb116)); clear HB; have HB := n0_; have BK116 := n1_; have GW116 := n2_; have GE116 := n3_; clear n0_ n1_ n2_ n3_; clear hb hbox hg) | ((with_reducible refine gate_callee (f := 5) rfl ?_); refine goesL_ (some 19) rfl rfl Try.func5 (by kernel_rfl) rfl #[] rfl (by (try simp only [List.map_toArray, List.map_cons, List.map_nil]); first | done | rfl | (simp only [List.length_drop, List.length_take]; rfl) | (simp [*] <;> (repeat' (first | rfl | apply And.intro)))) ?_; (with_reducible refine (rifflelaw39_lives.calls k  t117 _ (GL.below HG.out (by repeat (first | (with_reducible first | exact HB.out | apply below_alloc | apply pw_below_drewN | apply below_drew1 | refine below_set ?_ GE116.out) | exact HB.out | exact Below.refl _ _))) A4.out).mono ?_); rintro e w6 ⟨rfl, hb⟩; refine ⟨_, rfl, ?_⟩; have n0_ := Aside0.mk (blk_below (g := gb116) (o := .cells #[.int .u64 a1_0, .int .u64 a1_1] 23 (0, 0)) (by (with_reducible repeat (first | refine blk_drewN ?_ _ | refine blk_drew ?_ | refine blk_alloc ?_ _)); exact BK116.out) hb); have n1_ := Aside0.mk (below_step (by repeat (first | (with_reducible first | exact HB.out | apply below_alloc | apply pw_below_drewN | apply below_drew1 | refine below_set ?_ GE116.out) | exact HB.out | exact Below.refl _ _)) hb); clear BK116; clear HB; have BK116 := n0_; have HB := n1_; clear n0_ n1_; (try clear hb); (try clear hb2); (try clear hk); (try clear hi)))
    go_ret
    exact ⟨by first | rfl | (simp [errW_none, errW_some] <;> rfl) | (simp [*, errW_none, errW_some] <;> rfl), by repeat (first | (with_reducible first | exact HB.out | apply below_alloc | apply pw_below_drewN | apply below_drew1 | refine below_set ?_ GE116.out) | exact HB.out | exact Below.refl _ _)⟩
  · rw [if_neg c3] at H
    have c3b0 : decide (300 < (a0.size : Int)) = false := decide_eq_false c3
    have c3b1 : decide (300 < a0.size) = false := decide_eq_false (by omega)
    clear c3
    by_cases c7 : (IntKind.u64.wrap (wrap64 ((a0.size : Int) + 1))) = 0
    · rw [if_pos c7] at H
      exact absurd H (by simp)
    · rw [if_neg c7] at H
      have c7b0 : ((IntKind.u64.wrap (wrap64 ((a0.size : Int) + 1))) == 0) = false := beq_eq_false_iff_ne.mpr c7
      have c7b1 : ((IntKind.u64.wrap (wrap64 ((a0.size : Int) + 1))) != 0) = true := bne_iff_ne.mpr c7
      obtain ⟨ji8, hji8⟩ : ∃ j_ : Int, (mn (wrap64 (Int.tmod a1_0 (IntKind.u64.wrap (wrap64 ((a0.size : Int) + 1))))) (wrap64 (Int.tmod a1_1 (IntKind.u64.wrap (wrap64 ((a0.size : Int) + 1)))))) = j_ := ⟨_, rfl⟩
      replace H : ((place_Of.f k a0 (ji8)).bind fun bt118 => ((place_Of.f k a0 (mx (wrap64 (Int.tmod a1_0 (IntKind.u64.wrap (wrap64 ((a0.size : Int) + 1))))) (wrap64 (Int.tmod a1_1 (IntKind.u64.wrap (wrap64 ((a0.size : Int) + 1))))))).bind fun bt120 => (if bt118.1 < 1 then (rifflelaw39_PlaceBack.j0 k a0 (wrap64 (Int.tmod a1_0 (IntKind.u64.wrap (wrap64 ((a0.size : Int) + 1))))) true) else (if bt118.2 < 1 then (rifflelaw39_PlaceBack.j0 k a0 (wrap64 (Int.tmod a1_0 (IntKind.u64.wrap (wrap64 ((a0.size : Int) + 1))))) true) else (if bt120.1 < bt118.1 then (rifflelaw39_PlaceBack.j0 k a0 (wrap64 (Int.tmod a1_0 (IntKind.u64.wrap (wrap64 ((a0.size : Int) + 1))))) true) else (if bt120.1 = bt118.1 then (rifflelaw39_PlaceBack.j0 k a0 (wrap64 (Int.tmod a1_0 (IntKind.u64.wrap (wrap64 ((a0.size : Int) + 1))))) (decide (bt120.2 < bt118.2))) else (rifflelaw39_PlaceBack.j0 k a0 (wrap64 (Int.tmod a1_0 (IntKind.u64.wrap (wrap64 ((a0.size : Int) + 1))))) false))))))) = some r := by first | (rw [hji8] at H; exact H) | (simp only [hji8] at H ⊢; exact H)
      have hji8_ : (if (wrap64 (Int.tmod a1_1 (IntKind.u64.wrap (wrap64 ((a0.size : Int) + 1))))) < (wrap64 (Int.tmod a1_0 (IntKind.u64.wrap (wrap64 ((a0.size : Int) + 1))))) then (wrap64 (Int.tmod a1_1 (IntKind.u64.wrap (wrap64 ((a0.size : Int) + 1))))) else (wrap64 (Int.tmod a1_0 (IntKind.u64.wrap (wrap64 ((a0.size : Int) + 1)))))) = ji8 := hji8
      replace H := Option.bind_eq_some_iff.mp H
      obtain ⟨⟨t118, t119⟩, A90, H⟩ := H
      replace H : ((place_Of.f k a0 (mx (wrap64 (Int.tmod a1_0 (IntKind.u64.wrap (wrap64 ((a0.size : Int) + 1))))) (wrap64 (Int.tmod a1_1 (IntKind.u64.wrap (wrap64 ((a0.size : Int) + 1))))))).bind fun bt120 => (if t118 < 1 then (rifflelaw39_PlaceBack.j0 k a0 (wrap64 (Int.tmod a1_0 (IntKind.u64.wrap (wrap64 ((a0.size : Int) + 1))))) true) else (if t119 < 1 then (rifflelaw39_PlaceBack.j0 k a0 (wrap64 (Int.tmod a1_0 (IntKind.u64.wrap (wrap64 ((a0.size : Int) + 1))))) true) else (if bt120.1 < t118 then (rifflelaw39_PlaceBack.j0 k a0 (wrap64 (Int.tmod a1_0 (IntKind.u64.wrap (wrap64 ((a0.size : Int) + 1))))) true) else (if bt120.1 = t118 then (rifflelaw39_PlaceBack.j0 k a0 (wrap64 (Int.tmod a1_0 (IntKind.u64.wrap (wrap64 ((a0.size : Int) + 1))))) (decide (bt120.2 < t119))) else (rifflelaw39_PlaceBack.j0 k a0 (wrap64 (Int.tmod a1_0 (IntKind.u64.wrap (wrap64 ((a0.size : Int) + 1))))) false)))))) = some r := H
      have A9 := Aside0.mk A90
      clear A90
      obtain ⟨ji10, hji10⟩ : ∃ j_ : Int, (mx (wrap64 (Int.tmod a1_0 (IntKind.u64.wrap (wrap64 ((a0.size : Int) + 1))))) (wrap64 (Int.tmod a1_1 (IntKind.u64.wrap (wrap64 ((a0.size : Int) + 1)))))) = j_ := ⟨_, rfl⟩
      replace H : ((place_Of.f k a0 (ji10)).bind fun bt120 => (if t118 < 1 then (rifflelaw39_PlaceBack.j0 k a0 (wrap64 (Int.tmod a1_0 (IntKind.u64.wrap (wrap64 ((a0.size : Int) + 1))))) true) else (if t119 < 1 then (rifflelaw39_PlaceBack.j0 k a0 (wrap64 (Int.tmod a1_0 (IntKind.u64.wrap (wrap64 ((a0.size : Int) + 1))))) true) else (if bt120.1 < t118 then (rifflelaw39_PlaceBack.j0 k a0 (wrap64 (Int.tmod a1_0 (IntKind.u64.wrap (wrap64 ((a0.size : Int) + 1))))) true) else (if bt120.1 = t118 then (rifflelaw39_PlaceBack.j0 k a0 (wrap64 (Int.tmod a1_0 (IntKind.u64.wrap (wrap64 ((a0.size : Int) + 1))))) (decide (bt120.2 < t119))) else (rifflelaw39_PlaceBack.j0 k a0 (wrap64 (Int.tmod a1_0 (IntKind.u64.wrap (wrap64 ((a0.size : Int) + 1))))) false)))))) = some r := by first | (rw [hji10] at H; exact H) | (simp only [hji10] at H ⊢; exact H)
      (try rw [hji10] at A9)
      have hji10_ : (if (wrap64 (Int.tmod a1_0 (IntKind.u64.wrap (wrap64 ((a0.size : Int) + 1))))) < (wrap64 (Int.tmod a1_1 (IntKind.u64.wrap (wrap64 ((a0.size : Int) + 1))))) then (wrap64 (Int.tmod a1_1 (IntKind.u64.wrap (wrap64 ((a0.size : Int) + 1))))) else (wrap64 (Int.tmod a1_0 (IntKind.u64.wrap (wrap64 ((a0.size : Int) + 1)))))) = ji10 := hji10
      replace H := Option.bind_eq_some_iff.mp H
      obtain ⟨⟨t120, t121⟩, A110, H⟩ := H
      replace H : (if t118 < 1 then (rifflelaw39_PlaceBack.j0 k a0 (wrap64 (Int.tmod a1_0 (IntKind.u64.wrap (wrap64 ((a0.size : Int) + 1))))) true) else (if t119 < 1 then (rifflelaw39_PlaceBack.j0 k a0 (wrap64 (Int.tmod a1_0 (IntKind.u64.wrap (wrap64 ((a0.size : Int) + 1))))) true) else (if t120 < t118 then (rifflelaw39_PlaceBack.j0 k a0 (wrap64 (Int.tmod a1_0 (IntKind.u64.wrap (wrap64 ((a0.size : Int) + 1))))) true) else (if t120 = t118 then (rifflelaw39_PlaceBack.j0 k a0 (wrap64 (Int.tmod a1_0 (IntKind.u64.wrap (wrap64 ((a0.size : Int) + 1))))) (decide (t121 < t119))) else (rifflelaw39_PlaceBack.j0 k a0 (wrap64 (Int.tmod a1_0 (IntKind.u64.wrap (wrap64 ((a0.size : Int) + 1))))) false))))) = some r := H
      have A11 := Aside0.mk A110
      clear A110
      have HC12 := Aside0.mk H
      clear H
      go_enter Try.func3, Try.ntmps3
      go_upto_region 7 with (first | ((with_reducible refine gate_dst (N := 3) rfl ?_); refine box_event ?hg (N := 3) ?hd (cs := #[.int .u64 a1_0, .int .u64 a1_1]) (t := 23) ?hr ?_; (case hd => rfl); (case hg => rfl); (case hr => first | (go_simp; done) | (go_simp; rfl)); intro gb116 hg w13 hbox hb; have n0_ := Aside0.mk (below_step (by repeat (first | (with_reducible first | exact HB.out | apply below_alloc | apply pw_below_drewN | apply below_drew1) | exact HB.out | exact Below.refl _ _)) hb); have n1_ := Aside0.mk (hbox); have n2_ := Aside0.mk ((by rw [hg]; exact (below_size (by repeat (first | (with_reducible first | exact HB.out | apply below_alloc | apply pw_below_drewN | apply below_drew1) | exact HB.out | exact Below.refl _ _))) : w.heap.size ≤ gb116)); have n3_ := Aside0.mk ((by rw [hg]; exact (below_size (by repeat (first | (with_reducible first | exact HB.out | apply below_alloc | apply pw_below_drewN | apply below_drew1) | exact HB.out | exact Below.refl _ _))) : w.heap.size ≤ gb116)); clear HB; have HB := n0_; have BK116 := n1_; have GW116 := n2_; have GE116 := n3_; clear n0_ n1_ n2_ n3_; clear hb hbox hg; have hcz14_0 : w13.cell? ⟨gb116, 0, none⟩ = some (.int .u64 a1_0) := (blk_cell BK116.out 0).trans rfl; have hcz14_1 : w13.cell? ⟨gb116, 1, none⟩ = some (.int .u64 a1_1) := (blk_cell BK116.out 1).trans rfl; have hfz14_0 := blk_frozen BK116.out 0; have hfz14_1 := blk_frozen BK116.out 1) | ((with_reducible refine gate_callee (f := 6) rfl ?_); refine goesL_ (some 41) rfl rfl Try.func6 (by kernel_rfl) rfl #[.string a0, .int .i64 ji8] rfl (by (try simp only [List.map_toArray, List.map_cons, List.map_nil]); first | done | (simp only [hji8]; rfl) | rfl | (simp only [List.length_drop, List.length_take]; rfl) | (simp [*] <;> (repeat' (first | rfl | apply And.intro)))) ?_; (with_reducible refine (place_Of.calls k a0 ji8 t118 t119 _ (GL.below HG.out (by repeat (first | (with_reducible first | exact HB.out | apply below_alloc | apply pw_below_drewN | apply below_drew1 | refine below_set ?_ GE116.out) | exact HB.out | exact Below.refl _ _))) A9.out).mono ?_); rintro e w15 ⟨rfl, hb⟩; refine ⟨_, rfl, ?_⟩; have n0_ := Aside0.mk (blk_below (g := gb116) (o := .cells #[.int .u64 a1_0, .int .u64 a1_1] 23 (0, 0)) (by (with_reducible repeat (first | refine blk_drewN ?_ _ | refine blk_drew ?_ | refine blk_alloc ?_ _)); exact BK116.out) hb); have n1_ := Aside0.mk (below_step (by repeat (first | (with_reducible first | exact HB.out | apply below_alloc | apply pw_below_drewN | apply below_drew1 | refine below_set ?_ GE116.out) | exact HB.out | exact Below.refl _ _)) hb); clear BK116; clear HB; have BK116 := n0_; have HB := n1_; clear n0_ n1_; (try clear hb); (try clear hb2); (try clear hk); (try clear hi)) | ((with_reducible refine gate_callee (f := 6) rfl ?_); refine goesL_ (some 49) rfl rfl Try.func6 (by kernel_rfl) rfl #[.string a0, .int .i64 ji10] rfl (by (try simp only [List.map_toArray, List.map_cons, List.map_nil]); first | done | (simp only [hji10]; rfl) | rfl | (simp only [List.length_drop, List.length_take]; rfl) | (simp [*] <;> (repeat' (first | rfl | apply And.intro)))) ?_; (with_reducible refine (place_Of.calls k a0 ji10 t120 t121 _ (GL.below HG.out (by repeat (first | (with_reducible first | exact HB.out | apply below_alloc | apply pw_below_drewN | apply below_drew1 | refine below_set ?_ GE116.out) | exact HB.out | exact Below.refl _ _))) A11.out).mono ?_); rintro e w16 ⟨rfl, hb⟩; refine ⟨_, rfl, ?_⟩; have n0_ := Aside0.mk (blk_below (g := gb116) (o := .cells #[.int .u64 a1_0, .int .u64 a1_1] 23 (0, 0)) (by (with_reducible repeat (first | refine blk_drewN ?_ _ | refine blk_drew ?_ | refine blk_alloc ?_ _)); exact BK116.out) hb); have n1_ := Aside0.mk (below_step (by repeat (first | (with_reducible first | exact HB.out | apply below_alloc | apply pw_below_drewN | apply below_drew1 | refine below_set ?_ GE116.out) | exact HB.out | exact Below.refl _ _)) hb); clear BK116; clear HB; have BK116 := n0_; have HB := n1_; clear n0_ n1_; (try clear hb); (try clear hb2); (try clear hk); (try clear hi)))
      (try simp only [Act.put, List.setIfInBounds_toArray, List.set_cons_zero, List.set_cons_succ])
      go_cut [72] (fun v72 wc => ∃ (kq : Nat) (x72_11 : Bool), v72 = .bool x72_11 ∧ Aside0 (rifflelaw39_PlaceBack.j0 kq a0 (wrap64 (Int.tmod a1_0 (IntKind.u64.wrap (wrap64 ((a0.size : Int) + 1))))) x72_11 = some r) ∧ Aside0 (kq ≤ k) ∧ Aside0 (wc.heap[gb116]? = some (.cells #[.int .u64 a1_0, .int .u64 a1_1] 23 (0, 0))) ∧ Aside0 (Below w.heap.size w wc))
      case first =>
        have H := HC12.out
        clear HC12
        by_cases c17 : t118 < 1
        · rw [if_pos c17] at H
          have c17b0 : decide (t118 < 1) = true := decide_eq_true c17
          clear c17
          (first | rw [c17b0] | (simp only [i64_w, i32_w]; rw [c17b0]) | skip)
          have H' := Aside0.mk H
          clear H
          go_wp2
          go_meet
          case rel => exact ⟨_, (true), (by first | rfl | (simp; done) | (simp [*]; done)), (by first | exact H' | (simp only [hji10]; exact H') | (simp only [hji8]; exact H') | (simp only [hji8, hji10]; exact H') | (simp only [hji10] at H' ⊢; exact H') | (simp only [hji8] at H' ⊢; exact H')), ⟨by first | omega | exact Nat.le_refl _⟩, ⟨by (with_reducible repeat (first | refine blk_drewN ?_ _ | refine blk_drew ?_ | refine blk_alloc ?_ _)); exact BK116.out⟩, ⟨by repeat (first | (with_reducible first | exact HB.out | apply below_alloc | apply pw_below_drewN | apply below_drew1 | refine below_set ?_ GE116.out) | exact HB.out | exact Below.refl _ _)⟩⟩
        · rw [if_neg c17] at H
          have c17b0 : decide (t118 < 1) = false := decide_eq_false c17
          clear c17
          (first | rw [c17b0] | (simp only [i64_w, i32_w]; rw [c17b0]) | skip)
          by_cases c18 : t119 < 1
          · rw [if_pos c18] at H
            have c18b0 : decide (t119 < 1) = true := decide_eq_true c18
            clear c18
            have H' := Aside0.mk H
            clear H
            go_wp2
            go_meet
            case rel => exact ⟨_, (true), (by first | rfl | (simp; done) | (simp [*]; done)), (by first | exact H' | (simp only [hji8]; exact H') | (simp only [hji10]; exact H') | (simp only [hji10, hji8]; exact H') | (simp only [hji8] at H' ⊢; exact H') | (simp only [hji10] at H' ⊢; exact H')), ⟨by first | omega | exact Nat.le_refl _⟩, ⟨by (with_reducible repeat (first | refine blk_drewN ?_ _ | refine blk_drew ?_ | refine blk_alloc ?_ _)); exact BK116.out⟩, ⟨by repeat (first | (with_reducible first | exact HB.out | apply below_alloc | apply pw_below_drewN | apply below_drew1 | refine below_set ?_ GE116.out) | exact HB.out | exact Below.refl _ _)⟩⟩
          · rw [if_neg c18] at H
            have c18b0 : decide (t119 < 1) = false := decide_eq_false c18
            clear c18
            by_cases c19 : t120 < t118
            · rw [if_pos c19] at H
              have c19b0 : decide (t120 < t118) = true := decide_eq_true c19
              clear c19
              have H' := Aside0.mk H
              clear H
              go_wp2
              go_meet
              case rel => exact ⟨_, (true), (by first | rfl | (simp; done) | (simp [*]; done)), (by first | exact H' | (simp only [hji10]; exact H') | (simp only [hji8]; exact H') | (simp only [hji8, hji10]; exact H') | (simp only [hji10] at H' ⊢; exact H') | (simp only [hji8] at H' ⊢; exact H')), ⟨by first | omega | exact Nat.le_refl _⟩, ⟨by (with_reducible repeat (first | refine blk_drewN ?_ _ | refine blk_drew ?_ | refine blk_alloc ?_ _)); exact BK116.out⟩, ⟨by repeat (first | (with_reducible first | exact HB.out | apply below_alloc | apply pw_below_drewN | apply below_drew1 | refine below_set ?_ GE116.out) | exact HB.out | exact Below.refl _ _)⟩⟩
            · rw [if_neg c19] at H
              have c19b0 : decide (t120 < t118) = false := decide_eq_false c19
              clear c19
              by_cases c20 : t120 = t118
              · rw [if_pos c20] at H
                have c20b0 : (t120 == t118) = true := beq_iff_eq.mpr c20
                have c20b1 : (t120 != t118) = false := bne_eq_false_iff_eq.mpr c20
                clear c20
                have H' := Aside0.mk H
                clear H
                go_wp2
                go_meet
                case rel => exact ⟨_, (decide (t121 < t119)), (by first | rfl | (simp; done) | (simp [*]; done)), (by first | exact H' | (simp only [hji8]; exact H') | (simp only [hji10]; exact H') | (simp only [hji10, hji8]; exact H') | (simp only [hji8] at H' ⊢; exact H') | (simp only [hji10] at H' ⊢; exact H')), ⟨by first | omega | exact Nat.le_refl _⟩, ⟨by (with_reducible repeat (first | refine blk_drewN ?_ _ | refine blk_drew ?_ | refine blk_alloc ?_ _)); exact BK116.out⟩, ⟨by repeat (first | (with_reducible first | exact HB.out | apply below_alloc | apply pw_below_drewN | apply below_drew1 | refine below_set ?_ GE116.out) | exact HB.out | exact Below.refl _ _)⟩⟩
              · rw [if_neg c20] at H
                have c20b0 : (t120 == t118) = false := beq_eq_false_iff_ne.mpr c20
                have c20b1 : (t120 != t118) = true := bne_iff_ne.mpr c20
                have H' := Aside0.mk H
                clear H
                go_wp2
                go_meet
                case rel => exact ⟨_, (false), (by first | rfl | (simp; done) | (simp [*]; done)), (by first | exact H' | (simp only [hji10]; exact H') | (simp only [hji8]; exact H') | (simp only [hji8, hji10]; exact H') | (simp only [hji10] at H' ⊢; exact H') | (simp only [hji8] at H' ⊢; exact H')), ⟨by first | omega | exact Nat.le_refl _⟩, ⟨by (with_reducible repeat (first | refine blk_drewN ?_ _ | refine blk_drew ?_ | refine blk_alloc ?_ _)); exact BK116.out⟩, ⟨by repeat (first | (with_reducible first | exact HB.out | apply below_alloc | apply pw_below_drewN | apply below_drew1 | refine below_set ?_ GE116.out) | exact HB.out | exact Below.refl _ _)⟩⟩
      case rest =>
        clear HC12
        try clear c1
        try clear c2
        try clear p2
        try clear c3
        try clear c3b0
        try clear c3b1
        try clear c5
        try clear c6
        try clear p6
        try clear c7
        try clear c7b0
        try clear c7b1
        try clear c17
        try clear c17b0
        try clear c18
        try clear c18b0
        try clear c19
        try clear c19b0
        try clear c20
        try clear c20b0
        try clear c20b1
        try clear hcz14_0
        try clear hcz14_1
        try clear hfz14_0
        try clear hfz14_1
        obtain ⟨kq, x72_11, rfl, HA, HJ11, BK116, HB⟩ := hcut
        cases kq with
        | zero => exact absurd HA.out (by simp [rifflelaw39_PlaceBack.j0])
        | succ kj11 =>
          have H := HA.out
          clear HA
          simp only [rifflelaw39_PlaceBack.j0] at H
          by_cases c21 : x72_11 = true
          · subst c21
            have H1 : (some false) = some r := by rw [if_pos rfl] at H; exact H
            clear H
            have H := H1
            clear H1
            obtain rfl := Option.some.inj H
            go_wp2
            go_ret
            exact ⟨by first | rfl | (simp [errW_none, errW_some] <;> rfl) | (simp only [← hji8, ← hji10]; first | rfl | (simp [errW_none, errW_some] <;> rfl)) | (simp [*, errW_none, errW_some] <;> rfl), by repeat (first | (with_reducible first | exact HB.out | apply below_alloc | apply pw_below_drewN | apply below_drew1 | refine below_set ?_ GE116.out) | exact HB.out | exact Below.refl _ _)⟩
          · replace c21 := Bool.eq_false_iff.mpr c21
            subst c21
            have H1 : (if (wrap64 (Int.tmod a1_0 (IntKind.u64.wrap (wrap64 ((a0.size : Int) + 1))))) < (a0.size : Int) then (if 0 ≤ (wrap64 (Int.tmod a1_0 (IntKind.u64.wrap (wrap64 ((a0.size : Int) + 1))))) then (if (bt a0 (wrap64 (Int.tmod a1_0 (IntKind.u64.wrap (wrap64 ((a0.size : Int) + 1)))))) ≥ 128 then (rifflelaw39_PlaceBack.j1 kj11 a0 (wrap64 (Int.tmod a1_0 (IntKind.u64.wrap (wrap64 ((a0.size : Int) + 1))))) (decide ((bt a0 (wrap64 (Int.tmod a1_0 (IntKind.u64.wrap (wrap64 ((a0.size : Int) + 1)))))) ≤ 191))) else (rifflelaw39_PlaceBack.j1 kj11 a0 (wrap64 (Int.tmod a1_0 (IntKind.u64.wrap (wrap64 ((a0.size : Int) + 1))))) false)) else (none)) else (rifflelaw39_PlaceBack.j1 kj11 a0 (wrap64 (Int.tmod a1_0 (IntKind.u64.wrap (wrap64 ((a0.size : Int) + 1))))) false)) = some r := by rw [if_neg (show ¬ (false = true) by decide)] at H; exact H
            clear H
            have H := H1
            clear H1
            have HC22 := Aside0.mk H
            clear H
            go_upto_region 9 with (fail)
            go_cut [88] (fun v88 wc => ∃ (kq : Nat) (x88_21 : Bool), v88 = .bool x88_21 ∧ Aside0 (rifflelaw39_PlaceBack.j1 kq a0 (wrap64 (Int.tmod a1_0 (IntKind.u64.wrap (wrap64 ((a0.size : Int) + 1))))) x88_21 = some r) ∧ Aside0 (kq ≤ kj11) ∧ Aside0 (wc.heap[gb116]? = some (.cells #[.int .u64 a1_0, .int .u64 a1_1] 23 (0, 0))) ∧ Aside0 (Below w.heap.size w wc))
            case first =>
              have H := HC22.out
              clear HC22
              by_cases c23 : (wrap64 (Int.tmod a1_0 (IntKind.u64.wrap (wrap64 ((a0.size : Int) + 1))))) < (a0.size : Int)
              · rw [if_pos c23] at H
                have c23b0 : decide ((wrap64 (Int.tmod a1_0 (IntKind.u64.wrap (wrap64 ((a0.size : Int) + 1))))) < (a0.size : Int)) = true := decide_eq_true c23
                clear c23
                (first | rw [c23b0] | (simp only [i64_w, i32_w]; rw [c23b0]) | skip)
                obtain ⟨ji24, hji24⟩ : ∃ j_ : Int, (wrap64 (Int.tmod a1_0 (IntKind.u64.wrap (wrap64 ((a0.size : Int) + 1))))) = j_ := ⟨_, rfl⟩
                replace H : (if 0 ≤ (ji24) then (if (bt a0 (ji24)) ≥ 128 then (rifflelaw39_PlaceBack.j1 kj11 a0 (ji24) (decide ((bt a0 (ji24)) ≤ 191))) else (rifflelaw39_PlaceBack.j1 kj11 a0 (ji24) false)) else (none)) = some r := by first | (rw [hji24] at H; exact H) | (simp only [hji24] at H ⊢; exact H)
                (try rw [hji24] at c23b0)
                have hji24w : (IntKind.i64.wrap (Int.tmod a1_0 (IntKind.u64.wrap (wrap64 ((a0.size : Int) + 1))))) = ji24 := (i64_w _).trans hji24
                by_cases c25 : 0 ≤ (ji24)
                · rw [if_pos c25] at H
                  have c25b0 : decide (0 ≤ (ji24)) = true := decide_eq_true c25
                  clear c25
                  by_cases c27 : (bt a0 (ji24)) ≥ 128
                  · rw [if_pos c27] at H
                    have c27b0 : decide (128 ≤ (bt a0 (ji24))) = true := decide_eq_true c27
                    clear c27
                    have H' := Aside0.mk H
                    clear H
                    have p26 : 0 ≤ ((ji24) : Int) := of_decide_eq_true (by first | (with_reducible assumption) | assumption)
                    have q26 : (ji24) < (a0.size : Int) := of_decide_eq_true (by first | (with_reducible assumption) | assumption)
                    have hx26 := bt_at a0 (ji24)
                    replace p26 := eq_true p26
                    replace q26 := eq_true q26
                    have p28 : 0 ≤ ((ji24) : Int) := of_decide_eq_true (by first | (with_reducible assumption) | assumption)
                    have q28 : (ji24) < (a0.size : Int) := of_decide_eq_true (by first | (with_reducible assumption) | assumption)
                    have hx28 := bt_at a0 (ji24)
                    replace p28 := eq_true p28
                    replace q28 := eq_true q28
                    go_wp2
                    go_meet
                    case rel => exact ⟨_, (decide ((bt a0 (ji24)) ≤ 191)), (by first | rfl | (simp; done) | (simp only [← hji24] <;> (first | rfl | simp)) | (simp [*]; done)), (by first | exact H' | (simp only [hji24]; exact H') | (simp only [hji10]; exact H') | (simp only [hji8]; exact H') | (simp only [hji10, hji24]; exact H') | (simp only [hji8, hji10, hji24]; exact H') | (simp only [hji24] at H' ⊢; exact H') | (simp only [hji10] at H' ⊢; exact H') | (simp only [hji8] at H' ⊢; exact H')), ⟨by have := HJ11.out; first | omega | exact Nat.le_refl _⟩, ⟨by (with_reducible repeat (first | refine blk_drewN ?_ _ | refine blk_drew ?_ | refine blk_alloc ?_ _)); exact BK116.out⟩, ⟨by repeat (first | (with_reducible first | exact HB.out | apply below_alloc | apply pw_below_drewN | apply below_drew1 | refine below_set ?_ GE116.out) | exact HB.out | exact Below.refl _ _)⟩⟩
                  · rw [if_neg c27] at H
                    have c27b0 : decide (128 ≤ (bt a0 (ji24))) = false := decide_eq_false c27
                    clear c27
                    have H' := Aside0.mk H
                    clear H
                    have p26 : 0 ≤ ((ji24) : Int) := of_decide_eq_true (by first | (with_reducible assumption) | assumption)
                    have q26 : (ji24) < (a0.size : Int) := of_decide_eq_true (by first | (with_reducible assumption) | assumption)
                    have hx26 := bt_at a0 (ji24)
                    replace p26 := eq_true p26
                    replace q26 := eq_true q26
                    go_wp2
                    go_meet
                    case rel => exact ⟨_, (false), (by first | rfl | (simp; done) | (simp [*]; done)), (by first | exact H' | (simp only [hji8]; exact H') | (simp only [hji10]; exact H') | (simp only [hji24]; exact H') | (simp only [hji10, hji8]; exact H') | (simp only [hji24, hji10, hji8]; exact H') | (simp only [hji8] at H' ⊢; exact H') | (simp only [hji10] at H' ⊢; exact H') | (simp only [hji24] at H' ⊢; exact H')), ⟨by have := HJ11.out; first | omega | exact Nat.le_refl _⟩, ⟨by (with_reducible repeat (first | refine blk_drewN ?_ _ | refine blk_drew ?_ | refine blk_alloc ?_ _)); exact BK116.out⟩, ⟨by repeat (first | (with_reducible first | exact HB.out | apply below_alloc | apply pw_below_drewN | apply below_drew1 | refine below_set ?_ GE116.out) | exact HB.out | exact Below.refl _ _)⟩⟩
                · rw [if_neg c25] at H
                  exact absurd H (by simp)
              · rw [if_neg c23] at H
                have c23b0 : decide ((wrap64 (Int.tmod a1_0 (IntKind.u64.wrap (wrap64 ((a0.size : Int) + 1))))) < (a0.size : Int)) = false := decide_eq_false c23
                clear c23
                (first | rw [c23b0] | (simp only [i64_w, i32_w]; rw [c23b0]) | skip)
                have H' := Aside0.mk H
                clear H
                go_wp2
                go_meet
                case rel => exact ⟨_, (false), (by first | rfl | (simp; done) | (simp [*]; done)), (by first | exact H' | (simp only [hji24]; exact H') | (simp only [hji10]; exact H') | (simp only [hji8]; exact H') | (simp only [hji10, hji24]; exact H') | (simp only [hji8, hji10, hji24]; exact H') | (simp only [hji24] at H' ⊢; exact H') | (simp only [hji10] at H' ⊢; exact H') | (simp only [hji8] at H' ⊢; exact H')), ⟨by have := HJ11.out; first | omega | exact Nat.le_refl _⟩, ⟨by (with_reducible repeat (first | refine blk_drewN ?_ _ | refine blk_drew ?_ | refine blk_alloc ?_ _)); exact BK116.out⟩, ⟨by repeat (first | (with_reducible first | exact HB.out | apply below_alloc | apply pw_below_drewN | apply below_drew1 | refine below_set ?_ GE116.out) | exact HB.out | exact Below.refl _ _)⟩⟩
            case rest =>
              clear HC22
              try clear c1
              try clear c2
              try clear p2
              try clear q2
              try clear hx2
              try clear c3
              try clear c3b0
              try clear c3b1
              try clear c5
              try clear c6
              try clear p6
              try clear c7
              try clear c7b0
              try clear c7b1
              try clear c17
              try clear c17b0
              try clear c18
              try clear c18b0
              try clear c19
              try clear c19b0
              try clear c20
              try clear c20b0
              try clear c20b1
              try clear c21
              try clear c23
              try clear c23b0
              try clear c25
              try clear c25b0
              try clear p26
              try clear q26
              try clear hx26
              try clear c27
              try clear c27b0
              try clear p28
              try clear q28
              try clear hx28
              try clear hcz14_0
              try clear hcz14_1
              try clear hfz14_0
              try clear hfz14_1
              try clear p2
              try clear p26
              try clear p28
              try clear p6
              try clear q26
              try clear q28
              obtain ⟨kq, x88_21, rfl, HA, HJ21, BK116, HB⟩ := hcut
              cases kq with
              | zero => exact absurd HA.out (by simp [rifflelaw39_PlaceBack.j1])
              | succ kj21 =>
                have H := HA.out
                clear HA
                simp only [rifflelaw39_PlaceBack.j1] at H
                by_cases c29 : x88_21 = true
                · subst c29
                  have H1 : ((rifflelaw39_lives.f kj21).bind fun t122 => (some t122)) = some r := by rw [if_pos rfl] at H; exact H
                  clear H
                  have H := H1
                  clear H1
                  replace H := Option.bind_eq_some_iff.mp H
                  obtain ⟨t122, A300, H⟩ := H
                  replace H : (some t122) = some r := H
                  have A30 := Aside0.mk A300
                  clear A300
                  obtain rfl := Option.some.inj H
                  go_wp2_with (first | ((with_reducible refine gate_callee (f := 5) rfl ?_); refine goesL_ (some 89) rfl rfl Try.func5 (by kernel_rfl) rfl #[] rfl (by (try simp only [List.map_toArray, List.map_cons, List.map_nil]); first | done | rfl | (simp only [List.length_drop, List.length_take]; rfl) | (simp [*] <;> (repeat' (first | rfl | apply And.intro)))) ?_; (with_reducible refine (rifflelaw39_lives.calls kj21  t122 _ (GL.below HG.out (by repeat (first | (with_reducible first | exact HB.out | apply below_alloc | apply pw_below_drewN | apply below_drew1 | refine below_set ?_ GE116.out) | exact HB.out | exact Below.refl _ _))) A30.out).mono ?_); rintro e w31 ⟨rfl, hb⟩; refine ⟨_, rfl, ?_⟩; have n0_ := Aside0.mk (blk_below (g := gb116) (o := .cells #[.int .u64 a1_0, .int .u64 a1_1] 23 (0, 0)) (by (with_reducible repeat (first | refine blk_drewN ?_ _ | refine blk_drew ?_ | refine blk_alloc ?_ _)); exact BK116.out) hb); have n1_ := Aside0.mk (below_step (by repeat (first | (with_reducible first | exact HB.out | apply below_alloc | apply pw_below_drewN | apply below_drew1 | refine below_set ?_ GE116.out) | exact HB.out | exact Below.refl _ _)) hb); clear BK116; clear HB; have BK116 := n0_; have HB := n1_; clear n0_ n1_; (try clear hb); (try clear hb2); (try clear hk); (try clear hi)))
                  go_ret
                  exact ⟨by first | rfl | (simp [errW_none, errW_some] <;> rfl) | (simp only [← hji8, ← hji10]; first | rfl | (simp [errW_none, errW_some] <;> rfl)) | (simp [*, errW_none, errW_some] <;> rfl), by repeat (first | (with_reducible first | exact HB.out | apply below_alloc | apply pw_below_drewN | apply below_drew1 | refine below_set ?_ GE116.out) | exact HB.out | exact Below.refl _ _)⟩
                · replace c29 := Bool.eq_false_iff.mpr c29
                  subst c29
                  have H1 : ((place_Of.f kj21 a0 (wrap64 (Int.tmod a1_0 (IntKind.u64.wrap (wrap64 ((a0.size : Int) + 1)))))).bind fun bt123 => ((place_At.f kj21 a0 bt123.1 bt123.2).bind fun bt125 => (if bt125.2 = true then (rifflelaw39_PlaceBack.j2 kj21 a0 (wrap64 (Int.tmod a1_0 (IntKind.u64.wrap (wrap64 ((a0.size : Int) + 1))))) bt125.1 (decide (bt125.1 > (wrap64 (Int.tmod a1_0 (IntKind.u64.wrap (wrap64 ((a0.size : Int) + 1)))))))) else (rifflelaw39_PlaceBack.j2 kj21 a0 (wrap64 (Int.tmod a1_0 (IntKind.u64.wrap (wrap64 ((a0.size : Int) + 1))))) bt125.1 true)))) = some r := by rw [if_neg (show ¬ (false = true) by decide)] at H; exact H
                  clear H
                  have H := H1
                  clear H1
                  replace H := Option.bind_eq_some_iff.mp H
                  obtain ⟨⟨t123, t124⟩, A320, H⟩ := H
                  replace H : ((place_At.f kj21 a0 t123 t124).bind fun bt125 => (if bt125.2 = true then (rifflelaw39_PlaceBack.j2 kj21 a0 (wrap64 (Int.tmod a1_0 (IntKind.u64.wrap (wrap64 ((a0.size : Int) + 1))))) bt125.1 (decide (bt125.1 > (wrap64 (Int.tmod a1_0 (IntKind.u64.wrap (wrap64 ((a0.size : Int) + 1)))))))) else (rifflelaw39_PlaceBack.j2 kj21 a0 (wrap64 (Int.tmod a1_0 (IntKind.u64.wrap (wrap64 ((a0.size : Int) + 1))))) bt125.1 true))) = some r := H
                  have A32 := Aside0.mk A320
                  clear A320
                  replace H := Option.bind_eq_some_iff.mp H
                  obtain ⟨⟨t125, t126⟩, A330, H⟩ := H
                  replace H : (if t126 = true then (rifflelaw39_PlaceBack.j2 kj21 a0 (wrap64 (Int.tmod a1_0 (IntKind.u64.wrap (wrap64 ((a0.size : Int) + 1))))) t125 (decide (t125 > (wrap64 (Int.tmod a1_0 (IntKind.u64.wrap (wrap64 ((a0.size : Int) + 1)))))))) else (rifflelaw39_PlaceBack.j2 kj21 a0 (wrap64 (Int.tmod a1_0 (IntKind.u64.wrap (wrap64 ((a0.size : Int) + 1))))) t125 true)) = some r := H
                  have A33 := Aside0.mk A330
                  clear A330
                  have HC34 := Aside0.mk H
                  clear H
                  go_upto_region 13 with (first | ((with_reducible refine gate_callee (f := 6) rfl ?_); refine goesL_ (some 93) rfl rfl Try.func6 (by kernel_rfl) rfl #[.string a0, .int .i64 (wrap64 (Int.tmod a1_0 (IntKind.u64.wrap (wrap64 ((a0.size : Int) + 1)))))] rfl (by (try simp only [List.map_toArray, List.map_cons, List.map_nil]); first | done | rfl | (simp only [List.length_drop, List.length_take]; rfl) | (simp [*] <;> (repeat' (first | rfl | apply And.intro)))) ?_; (with_reducible refine (place_Of.calls kj21 a0 (wrap64 (Int.tmod a1_0 (IntKind.u64.wrap (wrap64 ((a0.size : Int) + 1))))) t123 t124 _ (GL.below HG.out (by repeat (first | (with_reducible first | exact HB.out | apply below_alloc | apply pw_below_drewN | apply below_drew1 | refine below_set ?_ GE116.out) | exact HB.out | exact Below.refl _ _))) A32.out).mono ?_); rintro e w35 ⟨rfl, hb⟩; refine ⟨_, rfl, ?_⟩; have n0_ := Aside0.mk (blk_below (g := gb116) (o := .cells #[.int .u64 a1_0, .int .u64 a1_1] 23 (0, 0)) (by (with_reducible repeat (first | refine blk_drewN ?_ _ | refine blk_drew ?_ | refine blk_alloc ?_ _)); exact BK116.out) hb); have n1_ := Aside0.mk (below_step (by repeat (first | (with_reducible first | exact HB.out | apply below_alloc | apply pw_below_drewN | apply below_drew1 | refine below_set ?_ GE116.out) | exact HB.out | exact Below.refl _ _)) hb); clear BK116; clear HB; have BK116 := n0_; have HB := n1_; clear n0_ n1_; (try clear hb); (try clear hb2); (try clear hk); (try clear hi)) | ((with_reducible refine gate_callee (f := 7) rfl ?_); refine goesL_ (some 100) rfl rfl Try.func7 (by kernel_rfl) rfl #[.string a0, .int .i64 t123, .int .i64 t124] rfl (by (try simp only [List.map_toArray, List.map_cons, List.map_nil]); first | done | rfl | (simp only [List.length_drop, List.length_take]; rfl) | (simp [*] <;> (repeat' (first | rfl | apply And.intro)))) ?_; (with_reducible refine (place_At.calls kj21 a0 t123 t124 t125 t126 _ (GL.below HG.out (by repeat (first | (with_reducible first | exact HB.out | apply below_alloc | apply pw_below_drewN | apply below_drew1 | refine below_set ?_ GE116.out) | exact HB.out | exact Below.refl _ _))) A33.out).mono ?_); rintro e w' ⟨rfl, ⟨nd, rfl⟩⟩; refine ⟨_, rfl, ?_⟩))
                  (try simp only [Act.put, List.setIfInBounds_toArray, List.set_cons_zero, List.set_cons_succ])
                  go_cut [109] (fun v109 wc => ∃ (kq : Nat) (x109_33 : Bool), v109 = .bool x109_33 ∧ Aside0 (rifflelaw39_PlaceBack.j2 kq a0 (wrap64 (Int.tmod a1_0 (IntKind.u64.wrap (wrap64 ((a0.size : Int) + 1))))) t125 x109_33 = some r) ∧ Aside0 (kq ≤ kj21) ∧ Aside0 (wc.heap[gb116]? = some (.cells #[.int .u64 a1_0, .int .u64 a1_1] 23 (0, 0))) ∧ Aside0 (Below w.heap.size w wc))
                  case first =>
                    have H := HC34.out
                    clear HC34
                    by_cases c36 : t126 = true
                    · subst c36
                      have H1 : (rifflelaw39_PlaceBack.j2 kj21 a0 (wrap64 (Int.tmod a1_0 (IntKind.u64.wrap (wrap64 ((a0.size : Int) + 1))))) t125 (decide (t125 > (wrap64 (Int.tmod a1_0 (IntKind.u64.wrap (wrap64 ((a0.size : Int) + 1)))))))) = some r := by rw [if_pos rfl] at H; exact H
                      clear H
                      have H := H1
                      clear H1
                      have H' := Aside0.mk H
                      clear H
                      go_wp2
                      go_meet
                      case rel => exact ⟨_, (decide (t125 > (wrap64 (Int.tmod a1_0 (IntKind.u64.wrap (wrap64 ((a0.size : Int) + 1))))))), (by first | rfl | (simp; done) | (simp [*]; done)), (by first | exact H' | (simp only [hji10]; exact H') | (simp only [hji8]; exact H') | (simp only [hji24]; exact H') | (simp only [hji8, hji10]; exact H') | (simp only [hji24, hji8, hji10]; exact H') | (simp only [hji10] at H' ⊢; exact H') | (simp only [hji8] at H' ⊢; exact H') | (simp only [hji24] at H' ⊢; exact H')), ⟨by have := HJ11.out; have := HJ21.out; first | omega | exact Nat.le_refl _⟩, ⟨by (with_reducible repeat (first | refine blk_drewN ?_ _ | refine blk_drew ?_ | refine blk_alloc ?_ _)); exact BK116.out⟩, ⟨by repeat (first | (with_reducible first | exact HB.out | apply below_alloc | apply pw_below_drewN | apply below_drew1 | refine below_set ?_ GE116.out) | exact HB.out | exact Below.refl _ _)⟩⟩
                    · replace c36 := Bool.eq_false_iff.mpr c36
                      subst c36
                      have H1 : (rifflelaw39_PlaceBack.j2 kj21 a0 (wrap64 (Int.tmod a1_0 (IntKind.u64.wrap (wrap64 ((a0.size : Int) + 1))))) t125 true) = some r := by rw [if_neg (show ¬ (false = true) by decide)] at H; exact H
                      clear H
                      have H := H1
                      clear H1
                      have H' := Aside0.mk H
                      clear H
                      go_wp2
                      go_meet
                      case rel => exact ⟨_, (true), (by first | rfl | (simp; done) | (simp [*]; done)), (by first | exact H' | (simp only [hji24]; exact H') | (simp only [hji8]; exact H') | (simp only [hji10]; exact H') | (simp only [hji8, hji24]; exact H') | (simp only [hji10, hji8, hji24]; exact H') | (simp only [hji24] at H' ⊢; exact H') | (simp only [hji8] at H' ⊢; exact H') | (simp only [hji10] at H' ⊢; exact H')), ⟨by have := HJ11.out; have := HJ21.out; first | omega | exact Nat.le_refl _⟩, ⟨by (with_reducible repeat (first | refine blk_drewN ?_ _ | refine blk_drew ?_ | refine blk_alloc ?_ _)); exact BK116.out⟩, ⟨by repeat (first | (with_reducible first | exact HB.out | apply below_alloc | apply pw_below_drewN | apply below_drew1 | refine below_set ?_ GE116.out) | exact HB.out | exact Below.refl _ _)⟩⟩
                  case rest =>
                    clear HC34
                    try clear c1
                    try clear c2
                    try clear p2
                    try clear q2
                    try clear hx2
                    try clear c3
                    try clear c3b0
                    try clear c3b1
                    try clear c5
                    try clear c6
                    try clear p6
                    try clear c7
                    try clear c7b0
                    try clear c7b1
                    try clear c17
                    try clear c17b0
                    try clear c18
                    try clear c18b0
                    try clear c19
                    try clear c19b0
                    try clear c20
                    try clear c20b0
                    try clear c20b1
                    try clear c21
                    try clear c23
                    try clear c23b0
                    try clear c25
                    try clear c25b0
                    try clear p26
                    try clear q26
                    try clear hx26
                    try clear c27
                    try clear c27b0
                    try clear p28
                    try clear q28
                    try clear hx28
                    try clear c29
                    try clear c36
                    try clear hcz14_0
                    try clear hcz14_1
                    try clear hfz14_0
                    try clear hfz14_1
                    try clear p2
                    try clear p26
                    try clear p28
                    try clear p6
                    try clear q2
                    try clear q26
                    try clear q28
                    obtain ⟨kq, x109_33, rfl, HA, HJ33, BK116, HB⟩ := hcut
                    cases kq with
                    | zero => exact absurd HA.out (by simp [rifflelaw39_PlaceBack.j2])
                    | succ kj33 =>
                      have H := HA.out
                      clear HA
                      simp only [rifflelaw39_PlaceBack.j2] at H
                      by_cases c37 : x109_33 = true
                      · subst c37
                        have H1 : (some false) = some r := by rw [if_pos rfl] at H; exact H
                        clear H
                        have H := H1
                        clear H1
                        obtain rfl := Option.some.inj H
                        go_wp2
                        go_ret
                        exact ⟨by first | rfl | (simp [errW_none, errW_some] <;> rfl) | (simp only [← hji8, ← hji10]; first | rfl | (simp [errW_none, errW_some] <;> rfl)) | (simp [*, errW_none, errW_some] <;> rfl), by repeat (first | (with_reducible first | exact HB.out | apply below_alloc | apply pw_below_drewN | apply below_drew1 | refine below_set ?_ GE116.out) | exact HB.out | exact Below.refl _ _)⟩
                      · replace c37 := Bool.eq_false_iff.mpr c37
                        subst c37
                        have H1 : (rifflelaw39_PlaceBack.l0 kj33 a0 (wrap64 (Int.tmod a1_0 (IntKind.u64.wrap (wrap64 ((a0.size : Int) + 1))))) t125) = some r := by rw [if_neg (show ¬ (false = true) by decide)] at H; exact H
                        clear H
                        have H := H1
                        clear H1
                        have H' := Aside0.mk H
                        clear H
                        go_wp2
                        go_loopg [15] kj33 (fun kq v15 w' => ∃ (x15_4 : Int), v15 = .int .i64 x15_4 ∧ Aside0 (rifflelaw39_PlaceBack.l0 kq a0 (wrap64 (Int.tmod a1_0 (IntKind.u64.wrap (wrap64 ((a0.size : Int) + 1))))) x15_4 = some r) ∧ Aside0 (kq ≤ kj33) ∧ Aside0 (w'.heap[gb116]? = some (.cells #[.int .u64 a1_0, .int .u64 a1_1] 23 (0, 0))) ∧ Aside0 (Below w.heap.size w w'))
                        case atStart => exact ⟨(t125), (by first | rfl | (simp; done) | (simp [*]; done)), H', ⟨Nat.le_refl _⟩, ⟨by (with_reducible repeat (first | refine blk_drewN ?_ _ | refine blk_drew ?_ | refine blk_alloc ?_ _)); exact BK116.out⟩, ⟨by repeat (first | (with_reducible first | exact HB.out | apply below_alloc | apply pw_below_drewN | apply below_drew1 | refine below_set ?_ GE116.out) | exact HB.out | exact Below.refl _ _)⟩⟩
                        case round =>
                          clear H'
                          try clear c1
                          try clear c2
                          try clear p2
                          try clear q2
                          try clear hx2
                          try clear c3
                          try clear c3b0
                          try clear c3b1
                          try clear c5
                          try clear c6
                          try clear p6
                          try clear c7
                          try clear c7b0
                          try clear c7b1
                          try clear c17
                          try clear c17b0
                          try clear c18
                          try clear c18b0
                          try clear c19
                          try clear c19b0
                          try clear c20
                          try clear c20b0
                          try clear c20b1
                          try clear c21
                          try clear c23
                          try clear c23b0
                          try clear c25
                          try clear c25b0
                          try clear p26
                          try clear q26
                          try clear hx26
                          try clear c27
                          try clear c27b0
                          try clear p28
                          try clear q28
                          try clear hx28
                          try clear c29
                          try clear c36
                          try clear c37
                          try clear hcz14_0
                          try clear hcz14_1
                          try clear hfz14_0
                          try clear hfz14_1
                          try clear p2
                          try clear p26
                          try clear p28
                          try clear p6
                          try clear q2
                          try clear q26
                          try clear q28
                          obtain ⟨x15_4, rfl, HA, HK4, BK116, HB⟩ := hrel
                          cases gk with
                          | zero => exact absurd HA.out (by simp [rifflelaw39_PlaceBack.l0])
                          | succ k4 =>
                            have H := HA.out
                            clear HA
                            simp only [rifflelaw39_PlaceBack.l0] at H
                            by_cases c38 : x15_4 < (wrap64 (Int.tmod a1_0 (IntKind.u64.wrap (wrap64 ((a0.size : Int) + 1)))))
                            · rw [if_pos c38] at H
                              have c38b0 : decide (x15_4 < (wrap64 (Int.tmod a1_0 (IntKind.u64.wrap (wrap64 ((a0.size : Int) + 1)))))) = true := decide_eq_true c38
                              clear c38
                              by_cases c39 : 0 ≤ x15_4
                              · rw [if_pos c39] at H
                                have c39b0 : decide (0 ≤ x15_4) = true := decide_eq_true c39
                                clear c39
                                by_cases c40 : x15_4 < (a0.size : Int)
                                · rw [if_pos c40] at H
                                  have c40b0 : decide (x15_4 < (a0.size : Int)) = true := decide_eq_true c40
                                  clear c40
                                  by_cases c42 : (bt a0 x15_4) < 128
                                  · rw [if_pos c42] at H
                                    have c42b0 : decide ((bt a0 x15_4) < 128) = true := decide_eq_true c42
                                    clear c42
                                    obtain rfl := Option.some.inj H
                                    have p41 : 0 ≤ (x15_4 : Int) := of_decide_eq_true (by first | (with_reducible assumption) | assumption)
                                    have q41 : x15_4 < (a0.size : Int) := of_decide_eq_true (by first | (with_reducible assumption) | assumption)
                                    have hx41 := bt_at a0 x15_4
                                    replace p41 := eq_true p41
                                    replace q41 := eq_true q41
                                    go_wp2
                                    go_ret
                                    exact ⟨by first | rfl | (simp [errW_none, errW_some] <;> rfl) | (simp only [← hji8, ← hji10]; first | rfl | (simp [errW_none, errW_some] <;> rfl)) | (simp [*, errW_none, errW_some] <;> rfl), by repeat (first | (with_reducible first | exact HB.out | apply below_alloc | apply pw_below_drewN | apply below_drew1 | refine below_set ?_ GE116.out) | exact HB.out | exact Below.refl _ _)⟩
                                  · rw [if_neg c42] at H
                                    have c42b0 : decide ((bt a0 x15_4) < 128) = false := decide_eq_false c42
                                    clear c42
                                    by_cases c44 : (bt a0 x15_4) > 191
                                    · rw [if_pos c44] at H
                                      have c44b0 : decide (191 < (bt a0 x15_4)) = true := decide_eq_true c44
                                      clear c44
                                      obtain rfl := Option.some.inj H
                                      have p41 : 0 ≤ (x15_4 : Int) := of_decide_eq_true (by first | (with_reducible assumption) | assumption)
                                      have q41 : x15_4 < (a0.size : Int) := of_decide_eq_true (by first | (with_reducible assumption) | assumption)
                                      have hx41 := bt_at a0 x15_4
                                      replace p41 := eq_true p41
                                      replace q41 := eq_true q41
                                      have p43 : 0 ≤ (x15_4 : Int) := of_decide_eq_true (by first | (with_reducible assumption) | assumption)
                                      have q43 : x15_4 < (a0.size : Int) := of_decide_eq_true (by first | (with_reducible assumption) | assumption)
                                      have hx43 := bt_at a0 x15_4
                                      replace p43 := eq_true p43
                                      replace q43 := eq_true q43
                                      go_wp2
                                      go_ret
                                      exact ⟨by first | rfl | (simp [errW_none, errW_some] <;> rfl) | (simp only [← hji8, ← hji10]; first | rfl | (simp [errW_none, errW_some] <;> rfl)) | (simp [*, errW_none, errW_some] <;> rfl), by repeat (first | (with_reducible first | exact HB.out | apply below_alloc | apply pw_below_drewN | apply below_drew1 | refine below_set ?_ GE116.out) | exact HB.out | exact Below.refl _ _)⟩
                                    · rw [if_neg c44] at H
                                      have c44b0 : decide (191 < (bt a0 x15_4)) = false := decide_eq_false c44
                                      clear c44
                                      have H' := Aside0.mk H
                                      clear H
                                      have p41 : 0 ≤ (x15_4 : Int) := of_decide_eq_true (by first | (with_reducible assumption) | assumption)
                                      have q41 : x15_4 < (a0.size : Int) := of_decide_eq_true (by first | (with_reducible assumption) | assumption)
                                      have hx41 := bt_at a0 x15_4
                                      replace p41 := eq_true p41
                                      replace q41 := eq_true q41
                                      have p43 : 0 ≤ (x15_4 : Int) := of_decide_eq_true (by first | (with_reducible assumption) | assumption)
                                      have q43 : x15_4 < (a0.size : Int) := of_decide_eq_true (by first | (with_reducible assumption) | assumption)
                                      have hx43 := bt_at a0 x15_4
                                      replace p43 := eq_true p43
                                      replace q43 := eq_true q43
                                      go_wp2
                                      go_roundg k4
                                      case measure => have := HJ11.out; have := HJ21.out; have := HJ33.out; have := HK4.out; omega
                                      case rel => exact ⟨(wrap64 (x15_4 + 1)), (by first | rfl | (simp; done) | (simp [*]; done)), (by first | exact H' | (simp only [hji10]; exact H') | (simp only [hji8]; exact H') | (simp only [hji8, hji10]; exact H') | (simp only [hji10] at H' ⊢; exact H') | (simp only [hji8] at H' ⊢; exact H')), ⟨by have := HJ11.out; have := HJ21.out; have := HJ33.out; have := HK4.out; omega⟩, ⟨by (with_reducible repeat (first | refine blk_drewN ?_ _ | refine blk_drew ?_ | refine blk_alloc ?_ _)); exact BK116.out⟩, ⟨by repeat (first | (with_reducible first | exact HB.out | apply below_alloc | apply pw_below_drewN | apply below_drew1 | refine below_set ?_ GE116.out) | exact HB.out | exact Below.refl _ _)⟩⟩
                                · rw [if_neg c40] at H
                                  exact absurd H (by simp)
                              · rw [if_neg c39] at H
                                exact absurd H (by simp)
                            · rw [if_neg c38] at H
                              have c38b0 : decide (x15_4 < (wrap64 (Int.tmod a1_0 (IntKind.u64.wrap (wrap64 ((a0.size : Int) + 1)))))) = false := decide_eq_false c38
                              clear c38
                              replace H := Option.bind_eq_some_iff.mp H
                              obtain ⟨t127, A450, H⟩ := H
                              replace H : (some t127) = some r := H
                              have A45 := Aside0.mk A450
                              clear A450
                              obtain rfl := Option.some.inj H
                              go_wp2_with (first | ((with_reducible refine gate_callee (f := 5) rfl ?_); refine goesL_ (some 126) rfl rfl Try.func5 (by kernel_rfl) rfl #[] rfl (by (try simp only [List.map_toArray, List.map_cons, List.map_nil]); first | done | rfl | (simp only [List.length_drop, List.length_take]; rfl) | (simp [*] <;> (repeat' (first | rfl | apply And.intro)))) ?_; (with_reducible refine (rifflelaw39_lives.calls k4  t127 _ (GL.below HG.out (by repeat (first | (with_reducible first | exact HB.out | apply below_alloc | apply pw_below_drewN | apply below_drew1 | refine below_set ?_ GE116.out) | exact HB.out | exact Below.refl _ _))) A45.out).mono ?_); rintro e w46 ⟨rfl, hb⟩; refine ⟨_, rfl, ?_⟩; have n0_ := Aside0.mk (blk_below (g := gb116) (o := .cells #[.int .u64 a1_0, .int .u64 a1_1] 23 (0, 0)) (by (with_reducible repeat (first | refine blk_drewN ?_ _ | refine blk_drew ?_ | refine blk_alloc ?_ _)); exact BK116.out) hb); have n1_ := Aside0.mk (below_step (by repeat (first | (with_reducible first | exact HB.out | apply below_alloc | apply pw_below_drewN | apply below_drew1 | refine below_set ?_ GE116.out) | exact HB.out | exact Below.refl _ _)) hb); clear BK116; clear HB; have BK116 := n0_; have HB := n1_; clear n0_ n1_; (try clear hb); (try clear hb2); (try clear hk); (try clear hi)))
                              go_ret
                              exact ⟨by first | rfl | (simp [errW_none, errW_some] <;> rfl) | (simp only [← hji8, ← hji10]; first | rfl | (simp [errW_none, errW_some] <;> rfl)) | (simp [*, errW_none, errW_some] <;> rfl), by repeat (first | (with_reducible first | exact HB.out | apply below_alloc | apply pw_below_drewN | apply below_drew1 | refine below_set ?_ GE116.out) | exact HB.out | exact Below.refl _ _)⟩

end Go.Proofs.Ytpaeefnepfppfaa.Xa
