-- Printed by a driver of this session around the kit's print (wip/tools/xprint.py): functions and contracts.
import Derived.Test.YtpaeefnepfppfaaXb0
import Derived.Test.YtpaeefnepfppfaaXb1
import Derived.Test.YtpaeefnepfppfaaXb2
import Derived.Test.YtpaeefnepfppfaaXb4
namespace Go.Proofs.Ytpaeefnepfppfaa.Xb
open Go.RowKit Go.Proofs.YtpaeefnepfppfaaW.PrintWords Go.Proofs.YtpaeefnepfppfaaW.PrintLast Go.Proofs.YtpaeefnepfppfaaW.PrintMore
attribute [local go_sem] max2_int min2_int max_two min_two max_three min_three max_four min_four   -- for this text's walks alone
set_option linter.unusedVariables false
set_option linter.unusedSimpArgs false

/-! ### rifflelaw39_PlaceTells: function 4 -/
def rifflelaw39_PlaceTells.f (k : Nat) (a0 : ByteArray) (a1 : Int) (a2_0 : Int) (a2_1 : Int) : Option (Bool) := if (a0.size : Int) > 300 then ((rifflelaw39_lives.f k).bind fun t144 => (some t144)) else ((place_Of.f k a0 a1).bind fun bt145 => ((riffleref39_Of.f k a0 a1).bind fun bt147 => ((place_At.f k a0 a2_0 a2_1).bind fun bt149 => ((riffleref39_At.f k a0 a2_0 a2_1).bind fun t151 => ((place_Line.f k a0 a2_0).bind fun bt152 => ((riffleref39_Lines.f k a0).bind fun t154 => (if a2_0 ≥ 1 then (if a2_0 ≤ (t154.length : Int) then (if 0 ≤ (wrap64 (a2_0 - 1)) then (if (wrap64 (a2_0 - 1)) < (t154.length : Int) then (if bt145.1 = bt147.1 then (if bt145.2 = bt147.2 then (if bt149.1 = (mx t151 0) then (if bt149.2 = true then (if t151 ≥ 0 then (if bt152.1.toList = (rdOf ByteArray.empty t154 (wrap64 (a2_0 - 1))).toList then (if bt152.2 = true then ((rifflelaw39_lives.f k).bind fun t158 => (some t158)) else (some false)) else (some false)) else (some false)) else (if t151 ≥ 0 then (some false) else (if bt152.1.toList = (rdOf ByteArray.empty t154 (wrap64 (a2_0 - 1))).toList then (if bt152.2 = true then ((rifflelaw39_lives.f k).bind fun t159 => (some t159)) else (some false)) else (some false)))) else (some false)) else (some false)) else (some false)) else (none)) else (none)) else (if bt145.1 = bt147.1 then (if bt145.2 = bt147.2 then (if bt149.1 = (mx t151 0) then (if bt149.2 = true then (if t151 ≥ 0 then (if bt152.1.toList = ([] : List UInt8) then (if bt152.2 = true then (some false) else ((rifflelaw39_lives.f k).bind fun t160 => (some t160))) else (some false)) else (some false)) else (if t151 ≥ 0 then (some false) else (if bt152.1.toList = ([] : List UInt8) then (if bt152.2 = true then (some false) else ((rifflelaw39_lives.f k).bind fun t161 => (some t161))) else (some false)))) else (some false)) else (some false)) else (some false))) else (if bt145.1 = bt147.1 then (if bt145.2 = bt147.2 then (if bt149.1 = (mx t151 0) then (if bt149.2 = true then (if t151 ≥ 0 then (if bt152.1.toList = ([] : List UInt8) then (if bt152.2 = true then (some false) else ((rifflelaw39_lives.f k).bind fun t162 => (some t162))) else (some false)) else (some false)) else (if t151 ≥ 0 then (some false) else (if bt152.1.toList = ([] : List UInt8) then (if bt152.2 = true then (some false) else ((rifflelaw39_lives.f k).bind fun t163 => (some t163))) else (some false)))) else (some false)) else (some false)) else (some false)))))))))
theorem rifflelaw39_PlaceTells.mono : ∀ a0 a1 a2 a3 k, LeO (rifflelaw39_PlaceTells.f k a0 a1 a2 a3) (rifflelaw39_PlaceTells.f (k + 1) a0 a1 a2 a3) := by
  intro a0 a1 a2 a3 k
  unfold rifflelaw39_PlaceTells.f
  repeat' first
      | (with_reducible exact place_At.mono _ _ _ _)
      | (with_reducible exact place_Line.mono _ _ _)
      | (with_reducible exact place_Of.mono _ _ _)
      | (with_reducible exact rifflelaw39_lives.mono _)
      | (with_reducible exact riffleref39_At.mono _ _ _ _)
      | (with_reducible exact riffleref39_Lines.mono _ _)
      | (with_reducible exact riffleref39_Of.mono _ _ _)
      | (with_reducible exact LeO.refl _)
      | (with_reducible exact LeO.none _)
      | (with_reducible refine LeO.ite ?_ ?_)
      | (with_reducible refine LeO.bind ?_ (fun _ => ?_))
      | exact place_At.mono _ _ _ _
      | exact place_Line.mono _ _ _
      | exact place_Of.mono _ _ _
      | exact rifflelaw39_lives.mono _
      | exact riffleref39_At.mono _ _ _ _
      | exact riffleref39_Lines.mono _ _
      | exact riffleref39_Of.mono _ _ _
      | exact LeO.none _
      | refine LeO.ite ?_ ?_
      | refine LeO.bind ?_ (fun _ => ?_)
set_option maxHeartbeats 8000000 in
set_option maxRecDepth 100000 in
theorem rifflelaw39_PlaceTells.calls (k : Nat) (a0 : ByteArray) (a1 : Int) (a2_0 : Int) (a2_1 : Int) (r : Bool) (w : World) (hG : GL w) (hrt : r = true) (h : rifflelaw39_PlaceTells.f k a0 a1 a2_0 a2_1 = some r) :
    Calls Try.prog 4 #[.string a0, .int .i64 a1, .agg #[.int .i64 a2_0, .int .i64 a2_1]] w fun e w' => e = .returned (.bool r) ∧ Below w.heap.size w w' := by
  have HG := Aside0.mk hG
  clear hG
  have HRT := Aside0.mk hrt
  clear hrt
  have hu30 := Try.underlying30
  have HB := Aside0.mk (Below.refl w.heap.size w)
  have H : (if (a0.size : Int) > 300 then ((rifflelaw39_lives.f k).bind fun t144 => (some t144)) else ((place_Of.f k a0 a1).bind fun bt145 => ((riffleref39_Of.f k a0 a1).bind fun bt147 => ((place_At.f k a0 a2_0 a2_1).bind fun bt149 => ((riffleref39_At.f k a0 a2_0 a2_1).bind fun t151 => ((place_Line.f k a0 a2_0).bind fun bt152 => ((riffleref39_Lines.f k a0).bind fun t154 => (if a2_0 ≥ 1 then (if a2_0 ≤ (t154.length : Int) then (if 0 ≤ (wrap64 (a2_0 - 1)) then (if (wrap64 (a2_0 - 1)) < (t154.length : Int) then (if bt145.1 = bt147.1 then (if bt145.2 = bt147.2 then (if bt149.1 = (mx t151 0) then (if bt149.2 = true then (if t151 ≥ 0 then (if bt152.1.toList = (rdOf ByteArray.empty t154 (wrap64 (a2_0 - 1))).toList then (if bt152.2 = true then ((rifflelaw39_lives.f k).bind fun t158 => (some t158)) else (some false)) else (some false)) else (some false)) else (if t151 ≥ 0 then (some false) else (if bt152.1.toList = (rdOf ByteArray.empty t154 (wrap64 (a2_0 - 1))).toList then (if bt152.2 = true then ((rifflelaw39_lives.f k).bind fun t159 => (some t159)) else (some false)) else (some false)))) else (some false)) else (some false)) else (some false)) else (none)) else (none)) else (if bt145.1 = bt147.1 then (if bt145.2 = bt147.2 then (if bt149.1 = (mx t151 0) then (if bt149.2 = true then (if t151 ≥ 0 then (if bt152.1.toList = ([] : List UInt8) then (if bt152.2 = true then (some false) else ((rifflelaw39_lives.f k).bind fun t160 => (some t160))) else (some false)) else (some false)) else (if t151 ≥ 0 then (some false) else (if bt152.1.toList = ([] : List UInt8) then (if bt152.2 = true then (some false) else ((rifflelaw39_lives.f k).bind fun t161 => (some t161))) else (some false)))) else (some false)) else (some false)) else (some false))) else (if bt145.1 = bt147.1 then (if bt145.2 = bt147.2 then (if bt149.1 = (mx t151 0) then (if bt149.2 = true then (if t151 ≥ 0 then (if bt152.1.toList = ([] : List UInt8) then (if bt152.2 = true then (some false) else ((rifflelaw39_lives.f k).bind fun t162 => (some t162))) else (some false)) else (some false)) else (if t151 ≥ 0 then (some false) else (if bt152.1.toList = ([] : List UInt8) then (if bt152.2 = true then (some false) else ((rifflelaw39_lives.f k).bind fun t163 => (some t163))) else (some false)))) else (some false)) else (some false)) else (some false)))))))))) = some r := h
  clear h
  by_cases c4 : (a0.size : Int) > 300
  · rw [if_pos c4] at H
    have c4b0 : decide (300 < (a0.size : Int)) = true := decide_eq_true c4
    have c4b1 : decide (300 < a0.size) = true := decide_eq_true (by omega)
    clear c4
    replace H := Option.bind_eq_some_iff.mp H
    obtain ⟨t144, A50, H⟩ := H
    replace H : (some t144) = some r := H
    have A5 := Aside0.mk A50
    clear A50
    obtain rfl := Option.some.inj H
    go_enter Try.func4, Try.ntmps4
    go_wp2_with (first | ((with_reducible refine gate_dst (N := 5) rfl ?_); (try (refine gate_guard (by rfl) ?_; dsimp only)); refine box_event ?hg (N := 5) ?hd (cs := #[.int .i64 a2_0, .int .i64 a2_1]) (t := 30) ?hr ?_; (case hd => rfl); (case hg => rfl); (case hr => first | (go_simp; done) | (go_simp; rfl)); intro gb143 hg w6 hbox hb; have n0_ := Aside0.mk (below_step (by repeat (first | (with_reducible first | exact HB.out | apply below_alloc | apply pw_below_drewN | apply below_drew1) | exact HB.out | exact Below.refl _ _)) hb); have n1_ := Aside0.mk (hbox); have n2_ := Aside0.mk ((by rw [hg]; exact (below_size (by repeat (first | (with_reducible first | exact HB.out | apply below_alloc | apply pw_below_drewN | apply below_drew1) | exact HB.out | exact Below.refl _ _))) : w.heap.size ≤ gb143)); have n3_ := Aside0.mk ((by rw [hg]; exact (below_size (by repeat (first | (with_reducible first | exact HB.out | apply below_alloc | apply pw_below_drewN | apply below_drew1) | exact HB.out | exact Below.refl _ _))) : w.heap.size ≤ gb143)); clear HB; have HB := n0_; have BK143 := n1_; have GW143 := n2_; have GE143 := n3_; clear n0_ n1_ n2_ n3_; clear hb hbox hg) | ((with_reducible refine gate_callee (f := 5) rfl ?_); refine goesL_ (some 22) rfl rfl Try.func5 (by kernel_rfl) rfl #[] rfl (by (try simp only [List.map_toArray, List.map_cons, List.map_nil]); first | done | rfl | (simp only [List.length_drop, List.length_take]; rfl) | (simp [*] <;> (repeat' (first | rfl | apply And.intro)))) ?_; (with_reducible refine (rifflelaw39_lives.calls k  t144 _ (GL.below HG.out (by repeat (first | (with_reducible first | exact HB.out | apply below_alloc | apply pw_below_drewN | apply below_drew1 | refine below_set ?_ GE143.out) | exact HB.out | exact Below.refl _ _))) A5.out).mono ?_); rintro e w7 ⟨rfl, hb⟩; refine ⟨_, rfl, ?_⟩; have n0_ := Aside0.mk (blk_below (g := gb143) (o := .cells #[.int .i64 a2_0, .int .i64 a2_1] 30 (0, 0)) (by (with_reducible repeat (first | refine blk_drewN ?_ _ | refine blk_drew ?_ | refine blk_alloc ?_ _)); exact BK143.out) hb); have n1_ := Aside0.mk (below_step (by repeat (first | (with_reducible first | exact HB.out | apply below_alloc | apply pw_below_drewN | apply below_drew1 | refine below_set ?_ GE143.out) | exact HB.out | exact Below.refl _ _)) hb); clear BK143; clear HB; have BK143 := n0_; have HB := n1_; clear n0_ n1_; (try clear hb); (try clear hb2); (try clear hk); (try clear hi)))
    go_ret
    exact ⟨by first | rfl | (simp [errW_none, errW_some] <;> rfl) | (simp [*, errW_none, errW_some] <;> rfl), by repeat (first | (with_reducible first | exact HB.out | apply below_alloc | apply pw_below_drewN | apply below_drew1 | refine below_set ?_ GE143.out) | exact HB.out | exact Below.refl _ _)⟩
  · rw [if_neg c4] at H
    have c4b0 : decide (300 < (a0.size : Int)) = false := decide_eq_false c4
    have c4b1 : decide (300 < a0.size) = false := decide_eq_false (by omega)
    clear c4
    replace H := Option.bind_eq_some_iff.mp H
    obtain ⟨⟨t145, t146⟩, A80, H⟩ := H
    replace H : ((riffleref39_Of.f k a0 a1).bind fun bt147 => ((place_At.f k a0 a2_0 a2_1).bind fun bt149 => ((riffleref39_At.f k a0 a2_0 a2_1).bind fun t151 => ((place_Line.f k a0 a2_0).bind fun bt152 => ((riffleref39_Lines.f k a0).bind fun t154 => (if a2_0 ≥ 1 then (if a2_0 ≤ (t154.length : Int) then (if 0 ≤ (wrap64 (a2_0 - 1)) then (if (wrap64 (a2_0 - 1)) < (t154.length : Int) then (if t145 = bt147.1 then (if t146 = bt147.2 then (if bt149.1 = (mx t151 0) then (if bt149.2 = true then (if t151 ≥ 0 then (if bt152.1.toList = (rdOf ByteArray.empty t154 (wrap64 (a2_0 - 1))).toList then (if bt152.2 = true then ((rifflelaw39_lives.f k).bind fun t158 => (some t158)) else (some false)) else (some false)) else (some false)) else (if t151 ≥ 0 then (some false) else (if bt152.1.toList = (rdOf ByteArray.empty t154 (wrap64 (a2_0 - 1))).toList then (if bt152.2 = true then ((rifflelaw39_lives.f k).bind fun t159 => (some t159)) else (some false)) else (some false)))) else (some false)) else (some false)) else (some false)) else (none)) else (none)) else (if t145 = bt147.1 then (if t146 = bt147.2 then (if bt149.1 = (mx t151 0) then (if bt149.2 = true then (if t151 ≥ 0 then (if bt152.1.toList = ([] : List UInt8) then (if bt152.2 = true then (some false) else ((rifflelaw39_lives.f k).bind fun t160 => (some t160))) else (some false)) else (some false)) else (if t151 ≥ 0 then (some false) else (if bt152.1.toList = ([] : List UInt8) then (if bt152.2 = true then (some false) else ((rifflelaw39_lives.f k).bind fun t161 => (some t161))) else (some false)))) else (some false)) else (some false)) else (some false))) else (if t145 = bt147.1 then (if t146 = bt147.2 then (if bt149.1 = (mx t151 0) then (if bt149.2 = true then (if t151 ≥ 0 then (if bt152.1.toList = ([] : List UInt8) then (if bt152.2 = true then (some false) else ((rifflelaw39_lives.f k).bind fun t162 => (some t162))) else (some false)) else (some false)) else (if t151 ≥ 0 then (some false) else (if bt152.1.toList = ([] : List UInt8) then (if bt152.2 = true then (some false) else ((rifflelaw39_lives.f k).bind fun t163 => (some t163))) else (some false)))) else (some false)) else (some false)) else (some false)))))))) = some r := H
    have A8 := Aside0.mk A80
    clear A80
    replace H := Option.bind_eq_some_iff.mp H
    obtain ⟨⟨t147, t148⟩, A90, H⟩ := H
    replace H : ((place_At.f k a0 a2_0 a2_1).bind fun bt149 => ((riffleref39_At.f k a0 a2_0 a2_1).bind fun t151 => ((place_Line.f k a0 a2_0).bind fun bt152 => ((riffleref39_Lines.f k a0).bind fun t154 => (if a2_0 ≥ 1 then (if a2_0 ≤ (t154.length : Int) then (if 0 ≤ (wrap64 (a2_0 - 1)) then (if (wrap64 (a2_0 - 1)) < (t154.length : Int) then (if t145 = t147 then (if t146 = t148 then (if bt149.1 = (mx t151 0) then (if bt149.2 = true then (if t151 ≥ 0 then (if bt152.1.toList = (rdOf ByteArray.empty t154 (wrap64 (a2_0 - 1))).toList then (if bt152.2 = true then ((rifflelaw39_lives.f k).bind fun t158 => (some t158)) else (some false)) else (some false)) else (some false)) else (if t151 ≥ 0 then (some false) else (if bt152.1.toList = (rdOf ByteArray.empty t154 (wrap64 (a2_0 - 1))).toList then (if bt152.2 = true then ((rifflelaw39_lives.f k).bind fun t159 => (some t159)) else (some false)) else (some false)))) else (some false)) else (some false)) else (some false)) else (none)) else (none)) else (if t145 = t147 then (if t146 = t148 then (if bt149.1 = (mx t151 0) then (if bt149.2 = true then (if t151 ≥ 0 then (if bt152.1.toList = ([] : List UInt8) then (if bt152.2 = true then (some false) else ((rifflelaw39_lives.f k).bind fun t160 => (some t160))) else (some false)) else (some false)) else (if t151 ≥ 0 then (some false) else (if bt152.1.toList = ([] : List UInt8) then (if bt152.2 = true then (some false) else ((rifflelaw39_lives.f k).bind fun t161 => (some t161))) else (some false)))) else (some false)) else (some false)) else (some false))) else (if t145 = t147 then (if t146 = t148 then (if bt149.1 = (mx t151 0) then (if bt149.2 = true then (if t151 ≥ 0 then (if bt152.1.toList = ([] : List UInt8) then (if bt152.2 = true then (some false) else ((rifflelaw39_lives.f k).bind fun t162 => (some t162))) else (some false)) else (some false)) else (if t151 ≥ 0 then (some false) else (if bt152.1.toList = ([] : List UInt8) then (if bt152.2 = true then (some false) else ((rifflelaw39_lives.f k).bind fun t163 => (some t163))) else (some false)))) else (some false)) else (some false)) else (some false))))))) = some r := H
    have A9 := Aside0.mk A90
    clear A90
    replace H := Option.bind_eq_some_iff.mp H
    obtain ⟨⟨t149, t150⟩, A100, H⟩ := H
    replace H : ((riffleref39_At.f k a0 a2_0 a2_1).bind fun t151 => ((place_Line.f k a0 a2_0).bind fun bt152 => ((riffleref39_Lines.f k a0).bind fun t154 => (if a2_0 ≥ 1 then (if a2_0 ≤ (t154.length : Int) then (if 0 ≤ (wrap64 (a2_0 - 1)) then (if (wrap64 (a2_0 - 1)) < (t154.length : Int) then (if t145 = t147 then (if t146 = t148 then (if t149 = (mx t151 0) then (if t150 = true then (if t151 ≥ 0 then (if bt152.1.toList = (rdOf ByteArray.empty t154 (wrap64 (a2_0 - 1))).toList then (if bt152.2 = true then ((rifflelaw39_lives.f k).bind fun t158 => (some t158)) else (some false)) else (some false)) else (some false)) else (if t151 ≥ 0 then (some false) else (if bt152.1.toList = (rdOf ByteArray.empty t154 (wrap64 (a2_0 - 1))).toList then (if bt152.2 = true then ((rifflelaw39_lives.f k).bind fun t159 => (some t159)) else (some false)) else (some false)))) else (some false)) else (some false)) else (some false)) else (none)) else (none)) else (if t145 = t147 then (if t146 = t148 then (if t149 = (mx t151 0) then (if t150 = true then (if t151 ≥ 0 then (if bt152.1.toList = ([] : List UInt8) then (if bt152.2 = true then (some false) else ((rifflelaw39_lives.f k).bind fun t160 => (some t160))) else (some false)) else (some false)) else (if t151 ≥ 0 then (some false) else (if bt152.1.toList = ([] : List UInt8) then (if bt152.2 = true then (some false) else ((rifflelaw39_lives.f k).bind fun t161 => (some t161))) else (some false)))) else (some false)) else (some false)) else (some false))) else (if t145 = t147 then (if t146 = t148 then (if t149 = (mx t151 0) then (if t150 = true then (if t151 ≥ 0 then (if bt152.1.toList = ([] : List UInt8) then (if bt152.2 = true then (some false) else ((rifflelaw39_lives.f k).bind fun t162 => (some t162))) else (some false)) else (some false)) else (if t151 ≥ 0 then (some false) else (if bt152.1.toList = ([] : List UInt8) then (if bt152.2 = true then (some false) else ((rifflelaw39_lives.f k).bind fun t163 => (some t163))) else (some false)))) else (some false)) else (some false)) else (some false)))))) = some r := H
    have A10 := Aside0.mk A100
    clear A100
    replace H := Option.bind_eq_some_iff.mp H
    obtain ⟨t151, A110, H⟩ := H
    replace H : ((place_Line.f k a0 a2_0).bind fun bt152 => ((riffleref39_Lines.f k a0).bind fun t154 => (if a2_0 ≥ 1 then (if a2_0 ≤ (t154.length : Int) then (if 0 ≤ (wrap64 (a2_0 - 1)) then (if (wrap64 (a2_0 - 1)) < (t154.length : Int) then (if t145 = t147 then (if t146 = t148 then (if t149 = (mx t151 0) then (if t150 = true then (if t151 ≥ 0 then (if bt152.1.toList = (rdOf ByteArray.empty t154 (wrap64 (a2_0 - 1))).toList then (if bt152.2 = true then ((rifflelaw39_lives.f k).bind fun t158 => (some t158)) else (some false)) else (some false)) else (some false)) else (if t151 ≥ 0 then (some false) else (if bt152.1.toList = (rdOf ByteArray.empty t154 (wrap64 (a2_0 - 1))).toList then (if bt152.2 = true then ((rifflelaw39_lives.f k).bind fun t159 => (some t159)) else (some false)) else (some false)))) else (some false)) else (some false)) else (some false)) else (none)) else (none)) else (if t145 = t147 then (if t146 = t148 then (if t149 = (mx t151 0) then (if t150 = true then (if t151 ≥ 0 then (if bt152.1.toList = ([] : List UInt8) then (if bt152.2 = true then (some false) else ((rifflelaw39_lives.f k).bind fun t160 => (some t160))) else (some false)) else (some false)) else (if t151 ≥ 0 then (some false) else (if bt152.1.toList = ([] : List UInt8) then (if bt152.2 = true then (some false) else ((rifflelaw39_lives.f k).bind fun t161 => (some t161))) else (some false)))) else (some false)) else (some false)) else (some false))) else (if t145 = t147 then (if t146 = t148 then (if t149 = (mx t151 0) then (if t150 = true then (if t151 ≥ 0 then (if bt152.1.toList = ([] : List UInt8) then (if bt152.2 = true then (some false) else ((rifflelaw39_lives.f k).bind fun t162 => (some t162))) else (some false)) else (some false)) else (if t151 ≥ 0 then (some false) else (if bt152.1.toList = ([] : List UInt8) then (if bt152.2 = true then (some false) else ((rifflelaw39_lives.f k).bind fun t163 => (some t163))) else (some false)))) else (some false)) else (some false)) else (some false))))) = some r := H
    have A11 := Aside0.mk A110
    clear A110
    replace H := Option.bind_eq_some_iff.mp H
    obtain ⟨⟨t152, t153⟩, A120, H⟩ := H
    replace H : ((riffleref39_Lines.f k a0).bind fun t154 => (if a2_0 ≥ 1 then (if a2_0 ≤ (t154.length : Int) then (if 0 ≤ (wrap64 (a2_0 - 1)) then (if (wrap64 (a2_0 - 1)) < (t154.length : Int) then (if t145 = t147 then (if t146 = t148 then (if t149 = (mx t151 0) then (if t150 = true then (if t151 ≥ 0 then (if t152.toList = (rdOf ByteArray.empty t154 (wrap64 (a2_0 - 1))).toList then (if t153 = true then ((rifflelaw39_lives.f k).bind fun t158 => (some t158)) else (some false)) else (some false)) else (some false)) else (if t151 ≥ 0 then (some false) else (if t152.toList = (rdOf ByteArray.empty t154 (wrap64 (a2_0 - 1))).toList then (if t153 = true then ((rifflelaw39_lives.f k).bind fun t159 => (some t159)) else (some false)) else (some false)))) else (some false)) else (some false)) else (some false)) else (none)) else (none)) else (if t145 = t147 then (if t146 = t148 then (if t149 = (mx t151 0) then (if t150 = true then (if t151 ≥ 0 then (if t152.toList = ([] : List UInt8) then (if t153 = true then (some false) else ((rifflelaw39_lives.f k).bind fun t160 => (some t160))) else (some false)) else (some false)) else (if t151 ≥ 0 then (some false) else (if t152.toList = ([] : List UInt8) then (if t153 = true then (some false) else ((rifflelaw39_lives.f k).bind fun t161 => (some t161))) else (some false)))) else (some false)) else (some false)) else (some false))) else (if t145 = t147 then (if t146 = t148 then (if t149 = (mx t151 0) then (if t150 = true then (if t151 ≥ 0 then (if t152.toList = ([] : List UInt8) then (if t153 = true then (some false) else ((rifflelaw39_lives.f k).bind fun t162 => (some t162))) else (some false)) else (some false)) else (if t151 ≥ 0 then (some false) else (if t152.toList = ([] : List UInt8) then (if t153 = true then (some false) else ((rifflelaw39_lives.f k).bind fun t163 => (some t163))) else (some false)))) else (some false)) else (some false)) else (some false)))) = some r := H
    have A12 := Aside0.mk A120
    clear A120
    replace H := Option.bind_eq_some_iff.mp H
    obtain ⟨t154, A130, H⟩ := H
    replace H : (if a2_0 ≥ 1 then (if a2_0 ≤ (t154.length : Int) then (if 0 ≤ (wrap64 (a2_0 - 1)) then (if (wrap64 (a2_0 - 1)) < (t154.length : Int) then (if t145 = t147 then (if t146 = t148 then (if t149 = (mx t151 0) then (if t150 = true then (if t151 ≥ 0 then (if t152.toList = (rdOf ByteArray.empty t154 (wrap64 (a2_0 - 1))).toList then (if t153 = true then ((rifflelaw39_lives.f k).bind fun t158 => (some t158)) else (some false)) else (some false)) else (some false)) else (if t151 ≥ 0 then (some false) else (if t152.toList = (rdOf ByteArray.empty t154 (wrap64 (a2_0 - 1))).toList then (if t153 = true then ((rifflelaw39_lives.f k).bind fun t159 => (some t159)) else (some false)) else (some false)))) else (some false)) else (some false)) else (some false)) else (none)) else (none)) else (if t145 = t147 then (if t146 = t148 then (if t149 = (mx t151 0) then (if t150 = true then (if t151 ≥ 0 then (if t152.toList = ([] : List UInt8) then (if t153 = true then (some false) else ((rifflelaw39_lives.f k).bind fun t160 => (some t160))) else (some false)) else (some false)) else (if t151 ≥ 0 then (some false) else (if t152.toList = ([] : List UInt8) then (if t153 = true then (some false) else ((rifflelaw39_lives.f k).bind fun t161 => (some t161))) else (some false)))) else (some false)) else (some false)) else (some false))) else (if t145 = t147 then (if t146 = t148 then (if t149 = (mx t151 0) then (if t150 = true then (if t151 ≥ 0 then (if t152.toList = ([] : List UInt8) then (if t153 = true then (some false) else ((rifflelaw39_lives.f k).bind fun t162 => (some t162))) else (some false)) else (some false)) else (if t151 ≥ 0 then (some false) else (if t152.toList = ([] : List UInt8) then (if t153 = true then (some false) else ((rifflelaw39_lives.f k).bind fun t163 => (some t163))) else (some false)))) else (some false)) else (some false)) else (some false))) = some r := H
    have A13 := Aside0.mk A130
    clear A130
    by_cases c14 : a2_0 ≥ 1
    · rw [if_pos c14] at H
      have c14b0 : decide (1 ≤ a2_0) = true := decide_eq_true c14
      clear c14
      by_cases c15 : a2_0 ≤ (t154.length : Int)
      · rw [if_pos c15] at H
        have c15b0 : decide (a2_0 ≤ (t154.length : Int)) = true := decide_eq_true c15
        clear c15
        obtain ⟨ji16, hji16⟩ : ∃ j_ : Int, (wrap64 (a2_0 - 1)) = j_ := ⟨_, rfl⟩
        replace H : (if 0 ≤ (ji16) then (if (ji16) < (t154.length : Int) then (if t145 = t147 then (if t146 = t148 then (if t149 = (mx t151 0) then (if t150 = true then (if t151 ≥ 0 then (if t152.toList = (rdOf ByteArray.empty t154 (ji16)).toList then (if t153 = true then ((rifflelaw39_lives.f k).bind fun t158 => (some t158)) else (some false)) else (some false)) else (some false)) else (if t151 ≥ 0 then (some false) else (if t152.toList = (rdOf ByteArray.empty t154 (ji16)).toList then (if t153 = true then ((rifflelaw39_lives.f k).bind fun t159 => (some t159)) else (some false)) else (some false)))) else (some false)) else (some false)) else (some false)) else (none)) else (none)) = some r := by first | (rw [hji16] at H; exact H) | (simp only [hji16] at H ⊢; exact H)
        (try rw [hji16] at A8)
        (try rw [hji16] at A9)
        (try rw [hji16] at A10)
        (try rw [hji16] at A11)
        (try rw [hji16] at A12)
        (try rw [hji16] at A13)
        have hji16w : (IntKind.i64.wrap (a2_0 - 1)) = ji16 := (i64_w _).trans hji16
        by_cases c17 : 0 ≤ (ji16)
        · rw [if_pos c17] at H
          have c17b0 : decide (0 ≤ (ji16)) = true := decide_eq_true c17
          clear c17
          by_cases c18 : (ji16) < (t154.length : Int)
          · rw [if_pos c18] at H
            have c18b0 : decide ((ji16) < (t154.length : Int)) = true := decide_eq_true c18
            clear c18
            by_cases c19 : t145 = t147
            · rw [if_pos c19] at H
              have c19b0 : (t145 == t147) = true := beq_iff_eq.mpr c19
              have c19b1 : (t145 != t147) = false := bne_eq_false_iff_eq.mpr c19
              clear c19
              by_cases c20 : t146 = t148
              · rw [if_pos c20] at H
                have c20b0 : (t146 == t148) = true := beq_iff_eq.mpr c20
                have c20b1 : (t146 != t148) = false := bne_eq_false_iff_eq.mpr c20
                clear c20
                obtain ⟨ji21, hji21⟩ : ∃ j_ : Int, (mx t151 0) = j_ := ⟨_, rfl⟩
                replace H : (if t149 = (ji21) then (if t150 = true then (if t151 ≥ 0 then (if t152.toList = (rdOf ByteArray.empty t154 (ji16)).toList then (if t153 = true then ((rifflelaw39_lives.f k).bind fun t158 => (some t158)) else (some false)) else (some false)) else (some false)) else (if t151 ≥ 0 then (some false) else (if t152.toList = (rdOf ByteArray.empty t154 (ji16)).toList then (if t153 = true then ((rifflelaw39_lives.f k).bind fun t159 => (some t159)) else (some false)) else (some false)))) else (some false)) = some r := by first | (rw [hji21] at H; exact H) | (simp only [hji21] at H ⊢; exact H)
                (try rw [hji21] at A8)
                (try rw [hji21] at A9)
                (try rw [hji21] at A10)
                (try rw [hji21] at A11)
                (try rw [hji21] at A12)
                (try rw [hji21] at A13)
                (try (have hji21l : 0 ≤ ji21 := by (rw [← hji21]; unfold mx; (repeat' split) <;> omega)))
                (try (have hji21m : 0 ≤ ji21 := by omega))
                have hji21_ : (if t151 < 0 then 0 else t151) = ji21 := hji21
                by_cases c22 : t149 = (ji21)
                · rw [if_pos c22] at H
                  have c22b0 : (t149 == (ji21)) = true := beq_iff_eq.mpr c22
                  have c22b1 : (t149 != (ji21)) = false := bne_eq_false_iff_eq.mpr c22
                  clear c22
                  by_cases c23 : t150 = true
                  · subst c23
                    have H1 : (if t151 ≥ 0 then (if t152.toList = (rdOf ByteArray.empty t154 (ji16)).toList then (if t153 = true then ((rifflelaw39_lives.f k).bind fun t158 => (some t158)) else (some false)) else (some false)) else (some false)) = some r := by rw [if_pos rfl] at H; exact H
                    clear H
                    have H := H1
                    clear H1
                    by_cases c24 : t151 ≥ 0
                    · rw [if_pos c24] at H
                      have c24b0 : decide (0 ≤ t151) = true := decide_eq_true c24
                      clear c24
                      by_cases c25 : t152.toList = (rdOf ByteArray.empty t154 (ji16)).toList
                      · rw [if_pos c25] at H
                        have c25b0 : (t152.toList == (rdOf ByteArray.empty t154 (ji16)).toList) = true := beq_iff_eq.mpr c25
                        have c25b1 : (t152.toList != (rdOf ByteArray.empty t154 (ji16)).toList) = false := bne_eq_false_iff_eq.mpr c25
                        clear c25
                        by_cases c26 : t153 = true
                        · subst c26
                          have H1 : ((rifflelaw39_lives.f k).bind fun t158 => (some t158)) = some r := by rw [if_pos rfl] at H; exact H
                          clear H
                          have H := H1
                          clear H1
                          replace H := Option.bind_eq_some_iff.mp H
                          obtain ⟨t158, A270, H⟩ := H
                          replace H : (some t158) = some r := H
                          have A27 := Aside0.mk A270
                          clear A270
                          obtain rfl := Option.some.inj H
                          go_enter Try.func4, Try.ntmps4
                          go_wp2_with (first | ((with_reducible refine gate_dst (N := 5) rfl ?_); (try (refine gate_guard (by rfl) ?_; dsimp only)); refine box_event ?hg (N := 5) ?hd (cs := #[.int .i64 a2_0, .int .i64 a2_1]) (t := 30) ?hr ?_; (case hd => rfl); (case hg => rfl); (case hr => first | (go_simp; done) | (go_simp; rfl)); intro gb143 hg w28 hbox hb; have n0_ := Aside0.mk (below_step (by repeat (first | (with_reducible first | exact HB.out | apply below_alloc | apply pw_below_drewN | apply below_drew1) | exact HB.out | exact Below.refl _ _)) hb); have n1_ := Aside0.mk (hbox); have n2_ := Aside0.mk ((by rw [hg]; exact (below_size (by repeat (first | (with_reducible first | exact HB.out | apply below_alloc | apply pw_below_drewN | apply below_drew1) | exact HB.out | exact Below.refl _ _))) : w.heap.size ≤ gb143)); have n3_ := Aside0.mk ((by rw [hg]; exact (below_size (by repeat (first | (with_reducible first | exact HB.out | apply below_alloc | apply pw_below_drewN | apply below_drew1) | exact HB.out | exact Below.refl _ _))) : w.heap.size ≤ gb143)); clear HB; have HB := n0_; have BK143 := n1_; have GW143 := n2_; have GE143 := n3_; clear n0_ n1_ n2_ n3_; clear hb hbox hg) | ((with_reducible refine gate_callee (f := 6) rfl ?_); refine goesL_ (some 26) rfl rfl Try.func6 (by kernel_rfl) rfl #[.string a0, .int .i64 a1] rfl (by (try simp only [List.map_toArray, List.map_cons, List.map_nil]); first | done | rfl | (simp only [List.length_drop, List.length_take]; rfl) | (simp [*] <;> (repeat' (first | rfl | apply And.intro)))) ?_; (with_reducible refine (place_Of.calls k a0 a1 t145 t146 _ (GL.below HG.out (by repeat (first | (with_reducible first | exact HB.out | apply below_alloc | apply pw_below_drewN | apply below_drew1 | refine below_set ?_ GE143.out) | exact HB.out | exact Below.refl _ _))) A8.out).mono ?_); rintro e w29 ⟨rfl, hb⟩; refine ⟨_, rfl, ?_⟩; have n0_ := Aside0.mk (blk_below (g := gb143) (o := .cells #[.int .i64 a2_0, .int .i64 a2_1] 30 (0, 0)) (by (with_reducible repeat (first | refine blk_drewN ?_ _ | refine blk_drew ?_ | refine blk_alloc ?_ _)); exact BK143.out) hb); have n1_ := Aside0.mk (below_step (by repeat (first | (with_reducible first | exact HB.out | apply below_alloc | apply pw_below_drewN | apply below_drew1 | refine below_set ?_ GE143.out) | exact HB.out | exact Below.refl _ _)) hb); clear BK143; clear HB; have BK143 := n0_; have HB := n1_; clear n0_ n1_; (try clear hb); (try clear hb2); (try clear hk); (try clear hi)) | ((with_reducible refine gate_callee (f := 8) rfl ?_); refine goesL_ (some 32) rfl rfl Try.func8 (by kernel_rfl) rfl #[.string a0, .int .i64 a1] rfl (by (try simp only [List.map_toArray, List.map_cons, List.map_nil]); first | done | rfl | (simp only [List.length_drop, List.length_take]; rfl) | (simp [*] <;> (repeat' (first | rfl | apply And.intro)))) ?_; (with_reducible refine (riffleref39_Of.calls k a0 a1 t147 t148 _ (GL.below HG.out (by repeat (first | (with_reducible first | exact HB.out | apply below_alloc | apply pw_below_drewN | apply below_drew1 | refine below_set ?_ GE143.out) | exact HB.out | exact Below.refl _ _))) A9.out).mono ?_); rintro e w' ⟨rfl, ⟨nd, rfl⟩⟩; refine ⟨_, rfl, ?_⟩; have hcz30_0 : w29.cell? ⟨gb143, 0, none⟩ = some (.int .i64 a2_0) := (blk_cell BK143.out 0).trans rfl; have hcz30_1 : w29.cell? ⟨gb143, 1, none⟩ = some (.int .i64 a2_1) := (blk_cell BK143.out 1).trans rfl; have hfz30_0 := blk_frozen BK143.out 0; have hfz30_1 := blk_frozen BK143.out 1) | ((with_reducible refine gate_callee (f := 7) rfl ?_); refine goesL_ (some 41) rfl rfl Try.func7 (by kernel_rfl) rfl #[.string a0, .int .i64 a2_0, .int .i64 a2_1] rfl (by (try simp only [List.map_toArray, List.map_cons, List.map_nil]); first | done | rfl | (simp only [List.length_drop, List.length_take]; rfl) | (simp [*] <;> (repeat' (first | rfl | apply And.intro)))) ?_; (with_reducible refine (place_At.calls k a0 a2_0 a2_1 t149 true _ (GL.below HG.out (by repeat (first | (with_reducible first | exact HB.out | apply below_alloc | apply pw_below_drewN | apply below_drew1 | refine below_set ?_ GE143.out) | exact HB.out | exact Below.refl _ _))) A10.out).mono ?_); rintro e w' ⟨rfl, ⟨nd, rfl⟩⟩; refine ⟨_, rfl, ?_⟩) | ((with_reducible refine gate_callee (f := 9) rfl ?_); refine goesL_ (some 49) rfl rfl Try.func9 (by kernel_rfl) rfl #[.string a0, .int .i64 a2_0, .int .i64 a2_1] rfl (by (try simp only [List.map_toArray, List.map_cons, List.map_nil]); first | done | rfl | (simp only [List.length_drop, List.length_take]; rfl) | (simp [*] <;> (repeat' (first | rfl | apply And.intro)))) ?_; (with_reducible refine (riffleref39_At.calls k a0 a2_0 a2_1 t151 _ (GL.below HG.out (by repeat (first | (with_reducible first | exact HB.out | apply below_alloc | apply pw_below_drewN | apply below_drew1 | refine below_set ?_ GE143.out) | exact HB.out | exact Below.refl _ _))) A11.out).mono ?_); rintro e w' ⟨rfl, ⟨nd, rfl⟩⟩; refine ⟨_, rfl, ?_⟩) | ((with_reducible refine gate_callee (f := 10) rfl ?_); refine goesL_ (some 54) rfl rfl Try.func10 (by kernel_rfl) rfl #[.string a0, .int .i64 a2_0] rfl (by (try simp only [List.map_toArray, List.map_cons, List.map_nil]); first | done | rfl | (simp only [List.length_drop, List.length_take]; rfl) | (simp [*] <;> (repeat' (first | rfl | apply And.intro)))) ?_; (with_reducible refine (place_Line.calls k a0 a2_0 t152 true _ (GL.below HG.out (by repeat (first | (with_reducible first | exact HB.out | apply below_alloc | apply pw_below_drewN | apply below_drew1 | refine below_set ?_ GE143.out) | exact HB.out | exact Below.refl _ _))) A12.out).mono ?_); rintro e w' ⟨rfl, ⟨nd, rfl⟩⟩; refine ⟨_, rfl, ?_⟩) | ((with_reducible refine gate_callee (f := 11) rfl ?_); refine goesL_ (some 58) rfl rfl Try.func11 (by kernel_rfl) rfl #[.string a0] rfl (by (try simp only [List.map_toArray, List.map_cons, List.map_nil]); first | done | rfl | (simp only [List.length_drop, List.length_take]; rfl) | (simp [*] <;> (repeat' (first | rfl | apply And.intro)))) ?_; (with_reducible refine (riffleref39_Lines.calls k a0 t154 _ (GL.below HG.out (by repeat (first | (with_reducible first | exact HB.out | apply below_alloc | apply pw_below_drewN | apply below_drew1 | refine below_set ?_ GE143.out) | exact HB.out | exact Below.refl _ _))) A13.out).mono ?_); rintro e w31 ⟨v155, rfl, ho0, hb⟩; refine ⟨_, rfl, ?_⟩; have n0_ := Aside0.mk (Kd.R_lower ho0 (below_size (by repeat (first | (with_reducible first | exact HB.out | apply below_alloc | apply pw_below_drewN | apply below_drew1 | refine below_set ?_ GE143.out) | exact HB.out | exact Below.refl _ _)))); have n1_ := Aside0.mk (blk_below (g := gb143) (o := .cells #[.int .i64 a2_0, .int .i64 a2_1] 30 (0, 0)) (by (with_reducible repeat (first | refine blk_drewN ?_ _ | refine blk_drew ?_ | refine blk_alloc ?_ _)); exact BK143.out) hb); have n2_ := Aside0.mk (below_step (by repeat (first | (with_reducible first | exact HB.out | apply below_alloc | apply pw_below_drewN | apply below_drew1 | refine below_set ?_ GE143.out) | exact HB.out | exact Below.refl _ _)) hb); clear BK143; clear HB; have HO156 := n0_; have BK143 := n1_; have HB := n2_; clear n0_ n1_ n2_; (try clear hb); (try clear hb2); (try clear hk); (try clear hi); (try clear ho0); have hcz32_0 : w31.cell? ⟨gb143, 0, none⟩ = some (.int .i64 a2_0) := (blk_cell BK143.out 0).trans rfl; have hcz32_1 : w31.cell? ⟨gb143, 1, none⟩ = some (.int .i64 a2_1) := (blk_cell BK143.out 1).trans rfl; have hfz32_0 := blk_frozen BK143.out 0; have hfz32_1 := blk_frozen BK143.out 1; obtain ⟨Ao33, co33, eo33⟩ := Kd.R_slice HO156.out; subst eo33; have p157 : 0 ≤ ((ji16) : Int) := of_decide_eq_true (by first | (with_reducible assumption) | assumption); have q157 : (ji16) < (t154.length : Int) := of_decide_eq_true (by first | (with_reducible assumption) | assumption); obtain ⟨ad157, e157, hx157_0⟩ := Kd.at_string (Kd.R_reads' HO156.out).2.2 (ji16) p157 q157; cases e157; replace p157 := eq_true p157; replace q157 := eq_true q157) | (go_at_call 5; (with_reducible refine (rifflelaw39_lives.calls k  t158 _ (GL.below HG.out (by repeat (first | (with_reducible first | exact HB.out | apply below_alloc | apply pw_below_drewN | apply below_drew1 | refine below_set ?_ GE143.out) | exact HB.out | exact Below.refl _ _))) A27.out).mono ?_); rintro e w34 ⟨rfl, hb⟩; have n0_ := Aside0.mk (Kd.R_below (by (with_reducible repeat (first | apply Kd.R_alloc | apply Kd.R_drewN | apply Kd.R_drew)); exact HO156.out) hb); have n1_ := Aside0.mk (blk_below (g := gb143) (o := .cells #[.int .i64 a2_0, .int .i64 a2_1] 30 (0, 0)) (by (with_reducible repeat (first | refine blk_drewN ?_ _ | refine blk_drew ?_ | refine blk_alloc ?_ _)); exact BK143.out) hb); have n2_ := Aside0.mk (below_step (by repeat (first | (with_reducible first | exact HB.out | apply below_alloc | apply pw_below_drewN | apply below_drew1 | refine below_set ?_ GE143.out) | exact HB.out | exact Below.refl _ _)) hb); clear HO156; clear BK143; clear HB; have HO156 := n0_; have BK143 := n1_; have HB := n2_; clear n0_ n1_ n2_; (try clear hb); (try clear hb2); (try clear hk); (try clear hi)))
                          go_ret
                          exact ⟨by first | rfl | (simp [errW_none, errW_some] <;> rfl) | (simp only [← hji16, ← hji21]; first | rfl | (simp [errW_none, errW_some] <;> rfl)) | (simp [*, errW_none, errW_some] <;> rfl), by repeat (first | (with_reducible first | exact HB.out | apply below_alloc | apply pw_below_drewN | apply below_drew1 | refine below_set ?_ GE143.out) | exact HB.out | exact Below.refl _ _)⟩
                        · replace c26 := Bool.eq_false_iff.mpr c26
                          subst c26
                          have H1 : (some false) = some r := by rw [if_neg (show ¬ (false = true) by decide)] at H; exact H
                          clear H
                          have H := H1
                          clear H1
                          exact absurd (H.trans (congrArg some HRT.out)) (by simp)
                      · rw [if_neg c25] at H
                        have c25b0 : (t152.toList == (rdOf ByteArray.empty t154 (ji16)).toList) = false := beq_eq_false_iff_ne.mpr c25
                        have c25b1 : (t152.toList != (rdOf ByteArray.empty t154 (ji16)).toList) = true := bne_iff_ne.mpr c25
                        exact absurd (H.trans (congrArg some HRT.out)) (by simp)
                    · rw [if_neg c24] at H
                      have c24b0 : decide (0 ≤ t151) = false := decide_eq_false c24
                      clear c24
                      exact absurd (H.trans (congrArg some HRT.out)) (by simp)
                  · replace c23 := Bool.eq_false_iff.mpr c23
                    subst c23
                    have H1 : (if t151 ≥ 0 then (some false) else (if t152.toList = (rdOf ByteArray.empty t154 (ji16)).toList then (if t153 = true then ((rifflelaw39_lives.f k).bind fun t159 => (some t159)) else (some false)) else (some false))) = some r := by rw [if_neg (show ¬ (false = true) by decide)] at H; exact H
                    clear H
                    have H := H1
                    clear H1
                    by_cases c35 : t151 ≥ 0
                    · rw [if_pos c35] at H
                      have c35b0 : decide (0 ≤ t151) = true := decide_eq_true c35
                      clear c35
                      exact absurd (H.trans (congrArg some HRT.out)) (by simp)
                    · rw [if_neg c35] at H
                      have c35b0 : decide (0 ≤ t151) = false := decide_eq_false c35
                      clear c35
                      by_cases c36 : t152.toList = (rdOf ByteArray.empty t154 (ji16)).toList
                      · rw [if_pos c36] at H
                        have c36b0 : (t152.toList == (rdOf ByteArray.empty t154 (ji16)).toList) = true := beq_iff_eq.mpr c36
                        have c36b1 : (t152.toList != (rdOf ByteArray.empty t154 (ji16)).toList) = false := bne_eq_false_iff_eq.mpr c36
                        clear c36
                        by_cases c37 : t153 = true
                        · subst c37
                          have H1 : ((rifflelaw39_lives.f k).bind fun t159 => (some t159)) = some r := by rw [if_pos rfl] at H; exact H
                          clear H
                          have H := H1
                          clear H1
                          replace H := Option.bind_eq_some_iff.mp H
                          obtain ⟨t159, A380, H⟩ := H
                          replace H : (some t159) = some r := H
                          have A38 := Aside0.mk A380
                          clear A380
                          obtain rfl := Option.some.inj H
                          go_enter Try.func4, Try.ntmps4
                          go_wp2_with (first | ((with_reducible refine gate_dst (N := 5) rfl ?_); (try (refine gate_guard (by rfl) ?_; dsimp only)); refine box_event ?hg (N := 5) ?hd (cs := #[.int .i64 a2_0, .int .i64 a2_1]) (t := 30) ?hr ?_; (case hd => rfl); (case hg => rfl); (case hr => first | (go_simp; done) | (go_simp; rfl)); intro gb143 hg w39 hbox hb; have n0_ := Aside0.mk (below_step (by repeat (first | (with_reducible first | exact HB.out | apply below_alloc | apply pw_below_drewN | apply below_drew1) | exact HB.out | exact Below.refl _ _)) hb); have n1_ := Aside0.mk (hbox); have n2_ := Aside0.mk ((by rw [hg]; exact (below_size (by repeat (first | (with_reducible first | exact HB.out | apply below_alloc | apply pw_below_drewN | apply below_drew1) | exact HB.out | exact Below.refl _ _))) : w.heap.size ≤ gb143)); have n3_ := Aside0.mk ((by rw [hg]; exact (below_size (by repeat (first | (with_reducible first | exact HB.out | apply below_alloc | apply pw_below_drewN | apply below_drew1) | exact HB.out | exact Below.refl _ _))) : w.heap.size ≤ gb143)); clear HB; have HB := n0_; have BK143 := n1_; have GW143 := n2_; have GE143 := n3_; clear n0_ n1_ n2_ n3_; clear hb hbox hg) | ((with_reducible refine gate_callee (f := 6) rfl ?_); refine goesL_ (some 26) rfl rfl Try.func6 (by kernel_rfl) rfl #[.string a0, .int .i64 a1] rfl (by (try simp only [List.map_toArray, List.map_cons, List.map_nil]); first | done | rfl | (simp only [List.length_drop, List.length_take]; rfl) | (simp [*] <;> (repeat' (first | rfl | apply And.intro)))) ?_; (with_reducible refine (place_Of.calls k a0 a1 t145 t146 _ (GL.below HG.out (by repeat (first | (with_reducible first | exact HB.out | apply below_alloc | apply pw_below_drewN | apply below_drew1 | refine below_set ?_ GE143.out) | exact HB.out | exact Below.refl _ _))) A8.out).mono ?_); rintro e w40 ⟨rfl, hb⟩; refine ⟨_, rfl, ?_⟩; have n0_ := Aside0.mk (blk_below (g := gb143) (o := .cells #[.int .i64 a2_0, .int .i64 a2_1] 30 (0, 0)) (by (with_reducible repeat (first | refine blk_drewN ?_ _ | refine blk_drew ?_ | refine blk_alloc ?_ _)); exact BK143.out) hb); have n1_ := Aside0.mk (below_step (by repeat (first | (with_reducible first | exact HB.out | apply below_alloc | apply pw_below_drewN | apply below_drew1 | refine below_set ?_ GE143.out) | exact HB.out | exact Below.refl _ _)) hb); clear BK143; clear HB; have BK143 := n0_; have HB := n1_; clear n0_ n1_; (try clear hb); (try clear hb2); (try clear hk); (try clear hi)) | ((with_reducible refine gate_callee (f := 8) rfl ?_); refine goesL_ (some 32) rfl rfl Try.func8 (by kernel_rfl) rfl #[.string a0, .int .i64 a1] rfl (by (try simp only [List.map_toArray, List.map_cons, List.map_nil]); first | done | rfl | (simp only [List.length_drop, List.length_take]; rfl) | (simp [*] <;> (repeat' (first | rfl | apply And.intro)))) ?_; (with_reducible refine (riffleref39_Of.calls k a0 a1 t147 t148 _ (GL.below HG.out (by repeat (first | (with_reducible first | exact HB.out | apply below_alloc | apply pw_below_drewN | apply below_drew1 | refine below_set ?_ GE143.out) | exact HB.out | exact Below.refl _ _))) A9.out).mono ?_); rintro e w' ⟨rfl, ⟨nd, rfl⟩⟩; refine ⟨_, rfl, ?_⟩; have hcz41_0 : w40.cell? ⟨gb143, 0, none⟩ = some (.int .i64 a2_0) := (blk_cell BK143.out 0).trans rfl; have hcz41_1 : w40.cell? ⟨gb143, 1, none⟩ = some (.int .i64 a2_1) := (blk_cell BK143.out 1).trans rfl; have hfz41_0 := blk_frozen BK143.out 0; have hfz41_1 := blk_frozen BK143.out 1) | ((with_reducible refine gate_callee (f := 7) rfl ?_); refine goesL_ (some 41) rfl rfl Try.func7 (by kernel_rfl) rfl #[.string a0, .int .i64 a2_0, .int .i64 a2_1] rfl (by (try simp only [List.map_toArray, List.map_cons, List.map_nil]); first | done | rfl | (simp only [List.length_drop, List.length_take]; rfl) | (simp [*] <;> (repeat' (first | rfl | apply And.intro)))) ?_; (with_reducible refine (place_At.calls k a0 a2_0 a2_1 t149 false _ (GL.below HG.out (by repeat (first | (with_reducible first | exact HB.out | apply below_alloc | apply pw_below_drewN | apply below_drew1 | refine below_set ?_ GE143.out) | exact HB.out | exact Below.refl _ _))) A10.out).mono ?_); rintro e w' ⟨rfl, ⟨nd, rfl⟩⟩; refine ⟨_, rfl, ?_⟩) | ((with_reducible refine gate_callee (f := 9) rfl ?_); refine goesL_ (some 49) rfl rfl Try.func9 (by kernel_rfl) rfl #[.string a0, .int .i64 a2_0, .int .i64 a2_1] rfl (by (try simp only [List.map_toArray, List.map_cons, List.map_nil]); first | done | rfl | (simp only [List.length_drop, List.length_take]; rfl) | (simp [*] <;> (repeat' (first | rfl | apply And.intro)))) ?_; (with_reducible refine (riffleref39_At.calls k a0 a2_0 a2_1 t151 _ (GL.below HG.out (by repeat (first | (with_reducible first | exact HB.out | apply below_alloc | apply pw_below_drewN | apply below_drew1 | refine below_set ?_ GE143.out) | exact HB.out | exact Below.refl _ _))) A11.out).mono ?_); rintro e w' ⟨rfl, ⟨nd, rfl⟩⟩; refine ⟨_, rfl, ?_⟩) | ((with_reducible refine gate_callee (f := 10) rfl ?_); refine goesL_ (some 54) rfl rfl Try.func10 (by kernel_rfl) rfl #[.string a0, .int .i64 a2_0] rfl (by (try simp only [List.map_toArray, List.map_cons, List.map_nil]); first | done | rfl | (simp only [List.length_drop, List.length_take]; rfl) | (simp [*] <;> (repeat' (first | rfl | apply And.intro)))) ?_; (with_reducible refine (place_Line.calls k a0 a2_0 t152 true _ (GL.below HG.out (by repeat (first | (with_reducible first | exact HB.out | apply below_alloc | apply pw_below_drewN | apply below_drew1 | refine below_set ?_ GE143.out) | exact HB.out | exact Below.refl _ _))) A12.out).mono ?_); rintro e w' ⟨rfl, ⟨nd, rfl⟩⟩; refine ⟨_, rfl, ?_⟩) | ((with_reducible refine gate_callee (f := 11) rfl ?_); refine goesL_ (some 58) rfl rfl Try.func11 (by kernel_rfl) rfl #[.string a0] rfl (by (try simp only [List.map_toArray, List.map_cons, List.map_nil]); first | done | rfl | (simp only [List.length_drop, List.length_take]; rfl) | (simp [*] <;> (repeat' (first | rfl | apply And.intro)))) ?_; (with_reducible refine (riffleref39_Lines.calls k a0 t154 _ (GL.below HG.out (by repeat (first | (with_reducible first | exact HB.out | apply below_alloc | apply pw_below_drewN | apply below_drew1 | refine below_set ?_ GE143.out) | exact HB.out | exact Below.refl _ _))) A13.out).mono ?_); rintro e w42 ⟨v155, rfl, ho0, hb⟩; refine ⟨_, rfl, ?_⟩; have n0_ := Aside0.mk (Kd.R_lower ho0 (below_size (by repeat (first | (with_reducible first | exact HB.out | apply below_alloc | apply pw_below_drewN | apply below_drew1 | refine below_set ?_ GE143.out) | exact HB.out | exact Below.refl _ _)))); have n1_ := Aside0.mk (blk_below (g := gb143) (o := .cells #[.int .i64 a2_0, .int .i64 a2_1] 30 (0, 0)) (by (with_reducible repeat (first | refine blk_drewN ?_ _ | refine blk_drew ?_ | refine blk_alloc ?_ _)); exact BK143.out) hb); have n2_ := Aside0.mk (below_step (by repeat (first | (with_reducible first | exact HB.out | apply below_alloc | apply pw_below_drewN | apply below_drew1 | refine below_set ?_ GE143.out) | exact HB.out | exact Below.refl _ _)) hb); clear BK143; clear HB; have HO156 := n0_; have BK143 := n1_; have HB := n2_; clear n0_ n1_ n2_; (try clear hb); (try clear hb2); (try clear hk); (try clear hi); (try clear ho0); have hcz43_0 : w42.cell? ⟨gb143, 0, none⟩ = some (.int .i64 a2_0) := (blk_cell BK143.out 0).trans rfl; have hcz43_1 : w42.cell? ⟨gb143, 1, none⟩ = some (.int .i64 a2_1) := (blk_cell BK143.out 1).trans rfl; have hfz43_0 := blk_frozen BK143.out 0; have hfz43_1 := blk_frozen BK143.out 1; obtain ⟨Ao44, co44, eo44⟩ := Kd.R_slice HO156.out; subst eo44; have p157 : 0 ≤ ((ji16) : Int) := of_decide_eq_true (by first | (with_reducible assumption) | assumption); have q157 : (ji16) < (t154.length : Int) := of_decide_eq_true (by first | (with_reducible assumption) | assumption); obtain ⟨ad157, e157, hx157_0⟩ := Kd.at_string (Kd.R_reads' HO156.out).2.2 (ji16) p157 q157; cases e157; replace p157 := eq_true p157; replace q157 := eq_true q157) | (go_at_call 5; (with_reducible refine (rifflelaw39_lives.calls k  t159 _ (GL.below HG.out (by repeat (first | (with_reducible first | exact HB.out | apply below_alloc | apply pw_below_drewN | apply below_drew1 | refine below_set ?_ GE143.out) | exact HB.out | exact Below.refl _ _))) A38.out).mono ?_); rintro e w45 ⟨rfl, hb⟩; have n0_ := Aside0.mk (Kd.R_below (by (with_reducible repeat (first | apply Kd.R_alloc | apply Kd.R_drewN | apply Kd.R_drew)); exact HO156.out) hb); have n1_ := Aside0.mk (blk_below (g := gb143) (o := .cells #[.int .i64 a2_0, .int .i64 a2_1] 30 (0, 0)) (by (with_reducible repeat (first | refine blk_drewN ?_ _ | refine blk_drew ?_ | refine blk_alloc ?_ _)); exact BK143.out) hb); have n2_ := Aside0.mk (below_step (by repeat (first | (with_reducible first | exact HB.out | apply below_alloc | apply pw_below_drewN | apply below_drew1 | refine below_set ?_ GE143.out) | exact HB.out | exact Below.refl _ _)) hb); clear HO156; clear BK143; clear HB; have HO156 := n0_; have BK143 := n1_; have HB := n2_; clear n0_ n1_ n2_; (try clear hb); (try clear hb2); (try clear hk); (try clear hi)))
                          go_ret
                          exact ⟨by first | rfl | (simp [errW_none, errW_some] <;> rfl) | (simp only [← hji16, ← hji21]; first | rfl | (simp [errW_none, errW_some] <;> rfl)) | (simp [*, errW_none, errW_some] <;> rfl), by repeat (first | (with_reducible first | exact HB.out | apply below_alloc | apply pw_below_drewN | apply below_drew1 | refine below_set ?_ GE143.out) | exact HB.out | exact Below.refl _ _)⟩
                        · replace c37 := Bool.eq_false_iff.mpr c37
                          subst c37
                          have H1 : (some false) = some r := by rw [if_neg (show ¬ (false = true) by decide)] at H; exact H
                          clear H
                          have H := H1
                          clear H1
                          exact absurd (H.trans (congrArg some HRT.out)) (by simp)
                      · rw [if_neg c36] at H
                        have c36b0 : (t152.toList == (rdOf ByteArray.empty t154 (ji16)).toList) = false := beq_eq_false_iff_ne.mpr c36
                        have c36b1 : (t152.toList != (rdOf ByteArray.empty t154 (ji16)).toList) = true := bne_iff_ne.mpr c36
                        exact absurd (H.trans (congrArg some HRT.out)) (by simp)
                · rw [if_neg c22] at H
                  have c22b0 : (t149 == (ji21)) = false := beq_eq_false_iff_ne.mpr c22
                  have c22b1 : (t149 != (ji21)) = true := bne_iff_ne.mpr c22
                  exact absurd (H.trans (congrArg some HRT.out)) (by simp)
              · rw [if_neg c20] at H
                have c20b0 : (t146 == t148) = false := beq_eq_false_iff_ne.mpr c20
                have c20b1 : (t146 != t148) = true := bne_iff_ne.mpr c20
                exact absurd (H.trans (congrArg some HRT.out)) (by simp)
            · rw [if_neg c19] at H
              have c19b0 : (t145 == t147) = false := beq_eq_false_iff_ne.mpr c19
              have c19b1 : (t145 != t147) = true := bne_iff_ne.mpr c19
              exact absurd (H.trans (congrArg some HRT.out)) (by simp)
          · rw [if_neg c18] at H
            exact absurd H (by simp)
        · rw [if_neg c17] at H
          exact absurd H (by simp)
      · rw [if_neg c15] at H
        have c15b0 : decide (a2_0 ≤ (t154.length : Int)) = false := decide_eq_false c15
        clear c15
        by_cases c46 : t145 = t147
        · rw [if_pos c46] at H
          have c46b0 : (t145 == t147) = true := beq_iff_eq.mpr c46
          have c46b1 : (t145 != t147) = false := bne_eq_false_iff_eq.mpr c46
          clear c46
          by_cases c47 : t146 = t148
          · rw [if_pos c47] at H
            have c47b0 : (t146 == t148) = true := beq_iff_eq.mpr c47
            have c47b1 : (t146 != t148) = false := bne_eq_false_iff_eq.mpr c47
            clear c47
            obtain ⟨ji48, hji48⟩ : ∃ j_ : Int, (mx t151 0) = j_ := ⟨_, rfl⟩
            replace H : (if t149 = (ji48) then (if t150 = true then (if t151 ≥ 0 then (if t152.toList = ([] : List UInt8) then (if t153 = true then (some false) else ((rifflelaw39_lives.f k).bind fun t160 => (some t160))) else (some false)) else (some false)) else (if t151 ≥ 0 then (some false) else (if t152.toList = ([] : List UInt8) then (if t153 = true then (some false) else ((rifflelaw39_lives.f k).bind fun t161 => (some t161))) else (some false)))) else (some false)) = some r := by first | (rw [hji48] at H; exact H) | (simp only [hji48] at H ⊢; exact H)
            (try rw [hji48] at A8)
            (try rw [hji48] at A9)
            (try rw [hji48] at A10)
            (try rw [hji48] at A11)
            (try rw [hji48] at A12)
            (try rw [hji48] at A13)
            (try (have hji48l : 0 ≤ ji48 := by (rw [← hji48]; unfold mx; (repeat' split) <;> omega)))
            (try (have hji48m : 0 ≤ ji48 := by omega))
            have hji48_ : (if t151 < 0 then 0 else t151) = ji48 := hji48
            by_cases c49 : t149 = (ji48)
            · rw [if_pos c49] at H
              have c49b0 : (t149 == (ji48)) = true := beq_iff_eq.mpr c49
              have c49b1 : (t149 != (ji48)) = false := bne_eq_false_iff_eq.mpr c49
              clear c49
              by_cases c50 : t150 = true
              · subst c50
                have H1 : (if t151 ≥ 0 then (if t152.toList = ([] : List UInt8) then (if t153 = true then (some false) else ((rifflelaw39_lives.f k).bind fun t160 => (some t160))) else (some false)) else (some false)) = some r := by rw [if_pos rfl] at H; exact H
                clear H
                have H := H1
                clear H1
                by_cases c51 : t151 ≥ 0
                · rw [if_pos c51] at H
                  have c51b0 : decide (0 ≤ t151) = true := decide_eq_true c51
                  clear c51
                  by_cases c52 : t152.toList = ([] : List UInt8)
                  · rw [if_pos c52] at H
                    have c52b0 : (t152.toList == ([] : List UInt8)) = true := beq_iff_eq.mpr c52
                    have c52b1 : (t152.toList != ([] : List UInt8)) = false := bne_eq_false_iff_eq.mpr c52
                    clear c52
                    by_cases c53 : t153 = true
                    · subst c53
                      have H1 : (some false) = some r := by rw [if_pos rfl] at H; exact H
                      clear H
                      have H := H1
                      clear H1
                      exact absurd (H.trans (congrArg some HRT.out)) (by simp)
                    · replace c53 := Bool.eq_false_iff.mpr c53
                      subst c53
                      have H1 : ((rifflelaw39_lives.f k).bind fun t160 => (some t160)) = some r := by rw [if_neg (show ¬ (false = true) by decide)] at H; exact H
                      clear H
                      have H := H1
                      clear H1
                      replace H := Option.bind_eq_some_iff.mp H
                      obtain ⟨t160, A540, H⟩ := H
                      replace H : (some t160) = some r := H
                      have A54 := Aside0.mk A540
                      clear A540
                      obtain rfl := Option.some.inj H
                      go_enter Try.func4, Try.ntmps4
                      go_wp2_with (first | ((with_reducible refine gate_dst (N := 5) rfl ?_); (try (refine gate_guard (by rfl) ?_; dsimp only)); refine box_event ?hg (N := 5) ?hd (cs := #[.int .i64 a2_0, .int .i64 a2_1]) (t := 30) ?hr ?_; (case hd => rfl); (case hg => rfl); (case hr => first | (go_simp; done) | (go_simp; rfl)); intro gb143 hg w55 hbox hb; have n0_ := Aside0.mk (below_step (by repeat (first | (with_reducible first | exact HB.out | apply below_alloc | apply pw_below_drewN | apply below_drew1) | exact HB.out | exact Below.refl _ _)) hb); have n1_ := Aside0.mk (hbox); have n2_ := Aside0.mk ((by rw [hg]; exact (below_size (by repeat (first | (with_reducible first | exact HB.out | apply below_alloc | apply pw_below_drewN | apply below_drew1) | exact HB.out | exact Below.refl _ _))) : w.heap.size ≤ gb143)); have n3_ := Aside0.mk ((by rw [hg]; exact (below_size (by repeat (first | (with_reducible first | exact HB.out | apply below_alloc | apply pw_below_drewN | apply below_drew1) | exact HB.out | exact Below.refl _ _))) : w.heap.size ≤ gb143)); clear HB; have HB := n0_; have BK143 := n1_; have GW143 := n2_; have GE143 := n3_; clear n0_ n1_ n2_ n3_; clear hb hbox hg) | ((with_reducible refine gate_callee (f := 6) rfl ?_); refine goesL_ (some 26) rfl rfl Try.func6 (by kernel_rfl) rfl #[.string a0, .int .i64 a1] rfl (by (try simp only [List.map_toArray, List.map_cons, List.map_nil]); first | done | rfl | (simp only [List.length_drop, List.length_take]; rfl) | (simp [*] <;> (repeat' (first | rfl | apply And.intro)))) ?_; (with_reducible refine (place_Of.calls k a0 a1 t145 t146 _ (GL.below HG.out (by repeat (first | (with_reducible first | exact HB.out | apply below_alloc | apply pw_below_drewN | apply below_drew1 | refine below_set ?_ GE143.out) | exact HB.out | exact Below.refl _ _))) A8.out).mono ?_); rintro e w56 ⟨rfl, hb⟩; refine ⟨_, rfl, ?_⟩; have n0_ := Aside0.mk (blk_below (g := gb143) (o := .cells #[.int .i64 a2_0, .int .i64 a2_1] 30 (0, 0)) (by (with_reducible repeat (first | refine blk_drewN ?_ _ | refine blk_drew ?_ | refine blk_alloc ?_ _)); exact BK143.out) hb); have n1_ := Aside0.mk (below_step (by repeat (first | (with_reducible first | exact HB.out | apply below_alloc | apply pw_below_drewN | apply below_drew1 | refine below_set ?_ GE143.out) | exact HB.out | exact Below.refl _ _)) hb); clear BK143; clear HB; have BK143 := n0_; have HB := n1_; clear n0_ n1_; (try clear hb); (try clear hb2); (try clear hk); (try clear hi)) | ((with_reducible refine gate_callee (f := 8) rfl ?_); refine goesL_ (some 32) rfl rfl Try.func8 (by kernel_rfl) rfl #[.string a0, .int .i64 a1] rfl (by (try simp only [List.map_toArray, List.map_cons, List.map_nil]); first | done | rfl | (simp only [List.length_drop, List.length_take]; rfl) | (simp [*] <;> (repeat' (first | rfl | apply And.intro)))) ?_; (with_reducible refine (riffleref39_Of.calls k a0 a1 t147 t148 _ (GL.below HG.out (by repeat (first | (with_reducible first | exact HB.out | apply below_alloc | apply pw_below_drewN | apply below_drew1 | refine below_set ?_ GE143.out) | exact HB.out | exact Below.refl _ _))) A9.out).mono ?_); rintro e w' ⟨rfl, ⟨nd, rfl⟩⟩; refine ⟨_, rfl, ?_⟩; have hcz57_0 : w56.cell? ⟨gb143, 0, none⟩ = some (.int .i64 a2_0) := (blk_cell BK143.out 0).trans rfl; have hcz57_1 : w56.cell? ⟨gb143, 1, none⟩ = some (.int .i64 a2_1) := (blk_cell BK143.out 1).trans rfl; have hfz57_0 := blk_frozen BK143.out 0; have hfz57_1 := blk_frozen BK143.out 1) | ((with_reducible refine gate_callee (f := 7) rfl ?_); refine goesL_ (some 41) rfl rfl Try.func7 (by kernel_rfl) rfl #[.string a0, .int .i64 a2_0, .int .i64 a2_1] rfl (by (try simp only [List.map_toArray, List.map_cons, List.map_nil]); first | done | rfl | (simp only [List.length_drop, List.length_take]; rfl) | (simp [*] <;> (repeat' (first | rfl | apply And.intro)))) ?_; (with_reducible refine (place_At.calls k a0 a2_0 a2_1 t149 true _ (GL.below HG.out (by repeat (first | (with_reducible first | exact HB.out | apply below_alloc | apply pw_below_drewN | apply below_drew1 | refine below_set ?_ GE143.out) | exact HB.out | exact Below.refl _ _))) A10.out).mono ?_); rintro e w' ⟨rfl, ⟨nd, rfl⟩⟩; refine ⟨_, rfl, ?_⟩) | ((with_reducible refine gate_callee (f := 9) rfl ?_); refine goesL_ (some 49) rfl rfl Try.func9 (by kernel_rfl) rfl #[.string a0, .int .i64 a2_0, .int .i64 a2_1] rfl (by (try simp only [List.map_toArray, List.map_cons, List.map_nil]); first | done | rfl | (simp only [List.length_drop, List.length_take]; rfl) | (simp [*] <;> (repeat' (first | rfl | apply And.intro)))) ?_; (with_reducible refine (riffleref39_At.calls k a0 a2_0 a2_1 t151 _ (GL.below HG.out (by repeat (first | (with_reducible first | exact HB.out | apply below_alloc | apply pw_below_drewN | apply below_drew1 | refine below_set ?_ GE143.out) | exact HB.out | exact Below.refl _ _))) A11.out).mono ?_); rintro e w' ⟨rfl, ⟨nd, rfl⟩⟩; refine ⟨_, rfl, ?_⟩) | ((with_reducible refine gate_callee (f := 10) rfl ?_); refine goesL_ (some 54) rfl rfl Try.func10 (by kernel_rfl) rfl #[.string a0, .int .i64 a2_0] rfl (by (try simp only [List.map_toArray, List.map_cons, List.map_nil]); first | done | rfl | (simp only [List.length_drop, List.length_take]; rfl) | (simp [*] <;> (repeat' (first | rfl | apply And.intro)))) ?_; (with_reducible refine (place_Line.calls k a0 a2_0 t152 false _ (GL.below HG.out (by repeat (first | (with_reducible first | exact HB.out | apply below_alloc | apply pw_below_drewN | apply below_drew1 | refine below_set ?_ GE143.out) | exact HB.out | exact Below.refl _ _))) A12.out).mono ?_); rintro e w' ⟨rfl, ⟨nd, rfl⟩⟩; refine ⟨_, rfl, ?_⟩) | ((with_reducible refine gate_callee (f := 11) rfl ?_); refine goesL_ (some 58) rfl rfl Try.func11 (by kernel_rfl) rfl #[.string a0] rfl (by (try simp only [List.map_toArray, List.map_cons, List.map_nil]); first | done | rfl | (simp only [List.length_drop, List.length_take]; rfl) | (simp [*] <;> (repeat' (first | rfl | apply And.intro)))) ?_; (with_reducible refine (riffleref39_Lines.calls k a0 t154 _ (GL.below HG.out (by repeat (first | (with_reducible first | exact HB.out | apply below_alloc | apply pw_below_drewN | apply below_drew1 | refine below_set ?_ GE143.out) | exact HB.out | exact Below.refl _ _))) A13.out).mono ?_); rintro e w58 ⟨v155, rfl, ho0, hb⟩; refine ⟨_, rfl, ?_⟩; have n0_ := Aside0.mk (Kd.R_lower ho0 (below_size (by repeat (first | (with_reducible first | exact HB.out | apply below_alloc | apply pw_below_drewN | apply below_drew1 | refine below_set ?_ GE143.out) | exact HB.out | exact Below.refl _ _)))); have n1_ := Aside0.mk (blk_below (g := gb143) (o := .cells #[.int .i64 a2_0, .int .i64 a2_1] 30 (0, 0)) (by (with_reducible repeat (first | refine blk_drewN ?_ _ | refine blk_drew ?_ | refine blk_alloc ?_ _)); exact BK143.out) hb); have n2_ := Aside0.mk (below_step (by repeat (first | (with_reducible first | exact HB.out | apply below_alloc | apply pw_below_drewN | apply below_drew1 | refine below_set ?_ GE143.out) | exact HB.out | exact Below.refl _ _)) hb); clear BK143; clear HB; have HO156 := n0_; have BK143 := n1_; have HB := n2_; clear n0_ n1_ n2_; (try clear hb); (try clear hb2); (try clear hk); (try clear hi); (try clear ho0); have hcz59_0 : w58.cell? ⟨gb143, 0, none⟩ = some (.int .i64 a2_0) := (blk_cell BK143.out 0).trans rfl; have hcz59_1 : w58.cell? ⟨gb143, 1, none⟩ = some (.int .i64 a2_1) := (blk_cell BK143.out 1).trans rfl; have hfz59_0 := blk_frozen BK143.out 0; have hfz59_1 := blk_frozen BK143.out 1; obtain ⟨Ao60, co60, eo60⟩ := Kd.R_slice HO156.out; subst eo60) | (go_at_call 5; (with_reducible refine (rifflelaw39_lives.calls k  t160 _ (GL.below HG.out (by repeat (first | (with_reducible first | exact HB.out | apply below_alloc | apply pw_below_drewN | apply below_drew1 | refine below_set ?_ GE143.out) | exact HB.out | exact Below.refl _ _))) A54.out).mono ?_); rintro e w61 ⟨rfl, hb⟩; have n0_ := Aside0.mk (Kd.R_below (by (with_reducible repeat (first | apply Kd.R_alloc | apply Kd.R_drewN | apply Kd.R_drew)); exact HO156.out) hb); have n1_ := Aside0.mk (blk_below (g := gb143) (o := .cells #[.int .i64 a2_0, .int .i64 a2_1] 30 (0, 0)) (by (with_reducible repeat (first | refine blk_drewN ?_ _ | refine blk_drew ?_ | refine blk_alloc ?_ _)); exact BK143.out) hb); have n2_ := Aside0.mk (below_step (by repeat (first | (with_reducible first | exact HB.out | apply below_alloc | apply pw_below_drewN | apply below_drew1 | refine below_set ?_ GE143.out) | exact HB.out | exact Below.refl _ _)) hb); clear HO156; clear BK143; clear HB; have HO156 := n0_; have BK143 := n1_; have HB := n2_; clear n0_ n1_ n2_; (try clear hb); (try clear hb2); (try clear hk); (try clear hi)))
                      go_ret
                      exact ⟨by first | rfl | (simp [errW_none, errW_some] <;> rfl) | (simp only [← hji48]; first | rfl | (simp [errW_none, errW_some] <;> rfl)) | (simp [*, errW_none, errW_some] <;> rfl), by repeat (first | (with_reducible first | exact HB.out | apply below_alloc | apply pw_below_drewN | apply below_drew1 | refine below_set ?_ GE143.out) | exact HB.out | exact Below.refl _ _)⟩
                  · rw [if_neg c52] at H
                    have c52b0 : (t152.toList == ([] : List UInt8)) = false := beq_eq_false_iff_ne.mpr c52
                    have c52b1 : (t152.toList != ([] : List UInt8)) = true := bne_iff_ne.mpr c52
                    exact absurd (H.trans (congrArg some HRT.out)) (by simp)
                · rw [if_neg c51] at H
                  have c51b0 : decide (0 ≤ t151) = false := decide_eq_false c51
                  clear c51
                  exact absurd (H.trans (congrArg some HRT.out)) (by simp)
              · replace c50 := Bool.eq_false_iff.mpr c50
                subst c50
                have H1 : (if t151 ≥ 0 then (some false) else (if t152.toList = ([] : List UInt8) then (if t153 = true then (some false) else ((rifflelaw39_lives.f k).bind fun t161 => (some t161))) else (some false))) = some r := by rw [if_neg (show ¬ (false = true) by decide)] at H; exact H
                clear H
                have H := H1
                clear H1
                by_cases c62 : t151 ≥ 0
                · rw [if_pos c62] at H
                  have c62b0 : decide (0 ≤ t151) = true := decide_eq_true c62
                  clear c62
                  exact absurd (H.trans (congrArg some HRT.out)) (by simp)
                · rw [if_neg c62] at H
                  have c62b0 : decide (0 ≤ t151) = false := decide_eq_false c62
                  clear c62
                  by_cases c63 : t152.toList = ([] : List UInt8)
                  · rw [if_pos c63] at H
                    have c63b0 : (t152.toList == ([] : List UInt8)) = true := beq_iff_eq.mpr c63
                    have c63b1 : (t152.toList != ([] : List UInt8)) = false := bne_eq_false_iff_eq.mpr c63
                    clear c63
                    by_cases c64 : t153 = true
                    · subst c64
                      have H1 : (some false) = some r := by rw [if_pos rfl] at H; exact H
                      clear H
                      have H := H1
                      clear H1
                      exact absurd (H.trans (congrArg some HRT.out)) (by simp)
                    · replace c64 := Bool.eq_false_iff.mpr c64
                      subst c64
                      have H1 : ((rifflelaw39_lives.f k).bind fun t161 => (some t161)) = some r := by rw [if_neg (show ¬ (false = true) by decide)] at H; exact H
                      clear H
                      have H := H1
                      clear H1
                      replace H := Option.bind_eq_some_iff.mp H
                      obtain ⟨t161, A650, H⟩ := H
                      replace H : (some t161) = some r := H
                      have A65 := Aside0.mk A650
                      clear A650
                      obtain rfl := Option.some.inj H
                      go_enter Try.func4, Try.ntmps4
                      go_wp2_with (first | ((with_reducible refine gate_dst (N := 5) rfl ?_); (try (refine gate_guard (by rfl) ?_; dsimp only)); refine box_event ?hg (N := 5) ?hd (cs := #[.int .i64 a2_0, .int .i64 a2_1]) (t := 30) ?hr ?_; (case hd => rfl); (case hg => rfl); (case hr => first | (go_simp; done) | (go_simp; rfl)); intro gb143 hg w66 hbox hb; have n0_ := Aside0.mk (below_step (by repeat (first | (with_reducible first | exact HB.out | apply below_alloc | apply pw_below_drewN | apply below_drew1) | exact HB.out | exact Below.refl _ _)) hb); have n1_ := Aside0.mk (hbox); have n2_ := Aside0.mk ((by rw [hg]; exact (below_size (by repeat (first | (with_reducible first | exact HB.out | apply below_alloc | apply pw_below_drewN | apply below_drew1) | exact HB.out | exact Below.refl _ _))) : w.heap.size ≤ gb143)); have n3_ := Aside0.mk ((by rw [hg]; exact (below_size (by repeat (first | (with_reducible first | exact HB.out | apply below_alloc | apply pw_below_drewN | apply below_drew1) | exact HB.out | exact Below.refl _ _))) : w.heap.size ≤ gb143)); clear HB; have HB := n0_; have BK143 := n1_; have GW143 := n2_; have GE143 := n3_; clear n0_ n1_ n2_ n3_; clear hb hbox hg) | ((with_reducible refine gate_callee (f := 6) rfl ?_); refine goesL_ (some 26) rfl rfl Try.func6 (by kernel_rfl) rfl #[.string a0, .int .i64 a1] rfl (by (try simp only [List.map_toArray, List.map_cons, List.map_nil]); first | done | rfl | (simp only [List.length_drop, List.length_take]; rfl) | (simp [*] <;> (repeat' (first | rfl | apply And.intro)))) ?_; (with_reducible refine (place_Of.calls k a0 a1 t145 t146 _ (GL.below HG.out (by repeat (first | (with_reducible first | exact HB.out | apply below_alloc | apply pw_below_drewN | apply below_drew1 | refine below_set ?_ GE143.out) | exact HB.out | exact Below.refl _ _))) A8.out).mono ?_); rintro e w67 ⟨rfl, hb⟩; refine ⟨_, rfl, ?_⟩; have n0_ := Aside0.mk (blk_below (g := gb143) (o := .cells #[.int .i64 a2_0, .int .i64 a2_1] 30 (0, 0)) (by (with_reducible repeat (first | refine blk_drewN ?_ _ | refine blk_drew ?_ | refine blk_alloc ?_ _)); exact BK143.out) hb); have n1_ := Aside0.mk (below_step (by repeat (first | (with_reducible first | exact HB.out | apply below_alloc | apply pw_below_drewN | apply below_drew1 | refine below_set ?_ GE143.out) | exact HB.out | exact Below.refl _ _)) hb); clear BK143; clear HB; have BK143 := n0_; have HB := n1_; clear n0_ n1_; (try clear hb); (try clear hb2); (try clear hk); (try clear hi)) | ((with_reducible refine gate_callee (f := 8) rfl ?_); refine goesL_ (some 32) rfl rfl Try.func8 (by kernel_rfl) rfl #[.string a0, .int .i64 a1] rfl (by (try simp only [List.map_toArray, List.map_cons, List.map_nil]); first | done | rfl | (simp only [List.length_drop, List.length_take]; rfl) | (simp [*] <;> (repeat' (first | rfl | apply And.intro)))) ?_; (with_reducible refine (riffleref39_Of.calls k a0 a1 t147 t148 _ (GL.below HG.out (by repeat (first | (with_reducible first | exact HB.out | apply below_alloc | apply pw_below_drewN | apply below_drew1 | refine below_set ?_ GE143.out) | exact HB.out | exact Below.refl _ _))) A9.out).mono ?_); rintro e w' ⟨rfl, ⟨nd, rfl⟩⟩; refine ⟨_, rfl, ?_⟩; have hcz68_0 : w67.cell? ⟨gb143, 0, none⟩ = some (.int .i64 a2_0) := (blk_cell BK143.out 0).trans rfl; have hcz68_1 : w67.cell? ⟨gb143, 1, none⟩ = some (.int .i64 a2_1) := (blk_cell BK143.out 1).trans rfl; have hfz68_0 := blk_frozen BK143.out 0; have hfz68_1 := blk_frozen BK143.out 1) | ((with_reducible refine gate_callee (f := 7) rfl ?_); refine goesL_ (some 41) rfl rfl Try.func7 (by kernel_rfl) rfl #[.string a0, .int .i64 a2_0, .int .i64 a2_1] rfl (by (try simp only [List.map_toArray, List.map_cons, List.map_nil]); first | done | rfl | (simp only [List.length_drop, List.length_take]; rfl) | (simp [*] <;> (repeat' (first | rfl | apply And.intro)))) ?_; (with_reducible refine (place_At.calls k a0 a2_0 a2_1 t149 false _ (GL.below HG.out (by repeat (first | (with_reducible first | exact HB.out | apply below_alloc | apply pw_below_drewN | apply below_drew1 | refine below_set ?_ GE143.out) | exact HB.out | exact Below.refl _ _))) A10.out).mono ?_); rintro e w' ⟨rfl, ⟨nd, rfl⟩⟩; refine ⟨_, rfl, ?_⟩) | ((with_reducible refine gate_callee (f := 9) rfl ?_); refine goesL_ (some 49) rfl rfl Try.func9 (by kernel_rfl) rfl #[.string a0, .int .i64 a2_0, .int .i64 a2_1] rfl (by (try simp only [List.map_toArray, List.map_cons, List.map_nil]); first | done | rfl | (simp only [List.length_drop, List.length_take]; rfl) | (simp [*] <;> (repeat' (first | rfl | apply And.intro)))) ?_; (with_reducible refine (riffleref39_At.calls k a0 a2_0 a2_1 t151 _ (GL.below HG.out (by repeat (first | (with_reducible first | exact HB.out | apply below_alloc | apply pw_below_drewN | apply below_drew1 | refine below_set ?_ GE143.out) | exact HB.out | exact Below.refl _ _))) A11.out).mono ?_); rintro e w' ⟨rfl, ⟨nd, rfl⟩⟩; refine ⟨_, rfl, ?_⟩) | ((with_reducible refine gate_callee (f := 10) rfl ?_); refine goesL_ (some 54) rfl rfl Try.func10 (by kernel_rfl) rfl #[.string a0, .int .i64 a2_0] rfl (by (try simp only [List.map_toArray, List.map_cons, List.map_nil]); first | done | rfl | (simp only [List.length_drop, List.length_take]; rfl) | (simp [*] <;> (repeat' (first | rfl | apply And.intro)))) ?_; (with_reducible refine (place_Line.calls k a0 a2_0 t152 false _ (GL.below HG.out (by repeat (first | (with_reducible first | exact HB.out | apply below_alloc | apply pw_below_drewN | apply below_drew1 | refine below_set ?_ GE143.out) | exact HB.out | exact Below.refl _ _))) A12.out).mono ?_); rintro e w' ⟨rfl, ⟨nd, rfl⟩⟩; refine ⟨_, rfl, ?_⟩) | ((with_reducible refine gate_callee (f := 11) rfl ?_); refine goesL_ (some 58) rfl rfl Try.func11 (by kernel_rfl) rfl #[.string a0] rfl (by (try simp only [List.map_toArray, List.map_cons, List.map_nil]); first | done | rfl | (simp only [List.length_drop, List.length_take]; rfl) | (simp [*] <;> (repeat' (first | rfl | apply And.intro)))) ?_; (with_reducible refine (riffleref39_Lines.calls k a0 t154 _ (GL.below HG.out (by repeat (first | (with_reducible first | exact HB.out | apply below_alloc | apply pw_below_drewN | apply below_drew1 | refine below_set ?_ GE143.out) | exact HB.out | exact Below.refl _ _))) A13.out).mono ?_); rintro e w69 ⟨v155, rfl, ho0, hb⟩; refine ⟨_, rfl, ?_⟩; have n0_ := Aside0.mk (Kd.R_lower ho0 (below_size (by repeat (first | (with_reducible first | exact HB.out | apply below_alloc | apply pw_below_drewN | apply below_drew1 | refine below_set ?_ GE143.out) | exact HB.out | exact Below.refl _ _)))); have n1_ := Aside0.mk (blk_below (g := gb143) (o := .cells #[.int .i64 a2_0, .int .i64 a2_1] 30 (0, 0)) (by (with_reducible repeat (first | refine blk_drewN ?_ _ | refine blk_drew ?_ | refine blk_alloc ?_ _)); exact BK143.out) hb); have n2_ := Aside0.mk (below_step (by repeat (first | (with_reducible first | exact HB.out | apply below_alloc | apply pw_below_drewN | apply below_drew1 | refine below_set ?_ GE143.out) | exact HB.out | exact Below.refl _ _)) hb); clear BK143; clear HB; have HO156 := n0_; have BK143 := n1_; have HB := n2_; clear n0_ n1_ n2_; (try clear hb); (try clear hb2); (try clear hk); (try clear hi); (try clear ho0); have hcz70_0 : w69.cell? ⟨gb143, 0, none⟩ = some (.int .i64 a2_0) := (blk_cell BK143.out 0).trans rfl; have hcz70_1 : w69.cell? ⟨gb143, 1, none⟩ = some (.int .i64 a2_1) := (blk_cell BK143.out 1).trans rfl; have hfz70_0 := blk_frozen BK143.out 0; have hfz70_1 := blk_frozen BK143.out 1; obtain ⟨Ao71, co71, eo71⟩ := Kd.R_slice HO156.out; subst eo71) | (go_at_call 5; (with_reducible refine (rifflelaw39_lives.calls k  t161 _ (GL.below HG.out (by repeat (first | (with_reducible first | exact HB.out | apply below_alloc | apply pw_below_drewN | apply below_drew1 | refine below_set ?_ GE143.out) | exact HB.out | exact Below.refl _ _))) A65.out).mono ?_); rintro e w72 ⟨rfl, hb⟩; have n0_ := Aside0.mk (Kd.R_below (by (with_reducible repeat (first | apply Kd.R_alloc | apply Kd.R_drewN | apply Kd.R_drew)); exact HO156.out) hb); have n1_ := Aside0.mk (blk_below (g := gb143) (o := .cells #[.int .i64 a2_0, .int .i64 a2_1] 30 (0, 0)) (by (with_reducible repeat (first | refine blk_drewN ?_ _ | refine blk_drew ?_ | refine blk_alloc ?_ _)); exact BK143.out) hb); have n2_ := Aside0.mk (below_step (by repeat (first | (with_reducible first | exact HB.out | apply below_alloc | apply pw_below_drewN | apply below_drew1 | refine below_set ?_ GE143.out) | exact HB.out | exact Below.refl _ _)) hb); clear HO156; clear BK143; clear HB; have HO156 := n0_; have BK143 := n1_; have HB := n2_; clear n0_ n1_ n2_; (try clear hb); (try clear hb2); (try clear hk); (try clear hi)))
                      go_ret
                      exact ⟨by first | rfl | (simp [errW_none, errW_some] <;> rfl) | (simp only [← hji48]; first | rfl | (simp [errW_none, errW_some] <;> rfl)) | (simp [*, errW_none, errW_some] <;> rfl), by repeat (first | (with_reducible first | exact HB.out | apply below_alloc | apply pw_below_drewN | apply below_drew1 | refine below_set ?_ GE143.out) | exact HB.out | exact Below.refl _ _)⟩
                  · rw [if_neg c63] at H
                    have c63b0 : (t152.toList == ([] : List UInt8)) = false := beq_eq_false_iff_ne.mpr c63
                    have c63b1 : (t152.toList != ([] : List UInt8)) = true := bne_iff_ne.mpr c63
                    exact absurd (H.trans (congrArg some HRT.out)) (by simp)
            · rw [if_neg c49] at H
              have c49b0 : (t149 == (ji48)) = false := beq_eq_false_iff_ne.mpr c49
              have c49b1 : (t149 != (ji48)) = true := bne_iff_ne.mpr c49
              exact absurd (H.trans (congrArg some HRT.out)) (by simp)
          · rw [if_neg c47] at H
            have c47b0 : (t146 == t148) = false := beq_eq_false_iff_ne.mpr c47
            have c47b1 : (t146 != t148) = true := bne_iff_ne.mpr c47
            exact absurd (H.trans (congrArg some HRT.out)) (by simp)
        · rw [if_neg c46] at H
          have c46b0 : (t145 == t147) = false := beq_eq_false_iff_ne.mpr c46
          have c46b1 : (t145 != t147) = true := bne_iff_ne.mpr c46
          exact absurd (H.trans (congrArg some HRT.out)) (by simp)
    · rw [if_neg c14] at H
      have c14b0 : decide (1 ≤ a2_0) = false := decide_eq_false c14
      clear c14
      by_cases c73 : t145 = t147
      · rw [if_pos c73] at H
        have c73b0 : (t145 == t147) = true := beq_iff_eq.mpr c73
        have c73b1 : (t145 != t147) = false := bne_eq_false_iff_eq.mpr c73
        clear c73
        by_cases c74 : t146 = t148
        · rw [if_pos c74] at H
          have c74b0 : (t146 == t148) = true := beq_iff_eq.mpr c74
          have c74b1 : (t146 != t148) = false := bne_eq_false_iff_eq.mpr c74
          clear c74
          obtain ⟨ji75, hji75⟩ : ∃ j_ : Int, (mx t151 0) = j_ := ⟨_, rfl⟩
          replace H : (if t149 = (ji75) then (if t150 = true then (if t151 ≥ 0 then (if t152.toList = ([] : List UInt8) then (if t153 = true then (some false) else ((rifflelaw39_lives.f k).bind fun t162 => (some t162))) else (some false)) else (some false)) else (if t151 ≥ 0 then (some false) else (if t152.toList = ([] : List UInt8) then (if t153 = true then (some false) else ((rifflelaw39_lives.f k).bind fun t163 => (some t163))) else (some false)))) else (some false)) = some r := by first | (rw [hji75] at H; exact H) | (simp only [hji75] at H ⊢; exact H)
          (try rw [hji75] at A8)
          (try rw [hji75] at A9)
          (try rw [hji75] at A10)
          (try rw [hji75] at A11)
          (try rw [hji75] at A12)
          (try rw [hji75] at A13)
          (try (have hji75l : 0 ≤ ji75 := by (rw [← hji75]; unfold mx; (repeat' split) <;> omega)))
          (try (have hji75m : 0 ≤ ji75 := by omega))
          have hji75_ : (if t151 < 0 then 0 else t151) = ji75 := hji75
          by_cases c76 : t149 = (ji75)
          · rw [if_pos c76] at H
            have c76b0 : (t149 == (ji75)) = true := beq_iff_eq.mpr c76
            have c76b1 : (t149 != (ji75)) = false := bne_eq_false_iff_eq.mpr c76
            clear c76
            by_cases c77 : t150 = true
            · subst c77
              have H1 : (if t151 ≥ 0 then (if t152.toList = ([] : List UInt8) then (if t153 = true then (some false) else ((rifflelaw39_lives.f k).bind fun t162 => (some t162))) else (some false)) else (some false)) = some r := by rw [if_pos rfl] at H; exact H
              clear H
              have H := H1
              clear H1
              by_cases c78 : t151 ≥ 0
              · rw [if_pos c78] at H
                have c78b0 : decide (0 ≤ t151) = true := decide_eq_true c78
                clear c78
                by_cases c79 : t152.toList = ([] : List UInt8)
                · rw [if_pos c79] at H
                  have c79b0 : (t152.toList == ([] : List UInt8)) = true := beq_iff_eq.mpr c79
                  have c79b1 : (t152.toList != ([] : List UInt8)) = false := bne_eq_false_iff_eq.mpr c79
                  clear c79
                  by_cases c80 : t153 = true
                  · subst c80
                    have H1 : (some false) = some r := by rw [if_pos rfl] at H; exact H
                    clear H
                    have H := H1
                    clear H1
                    exact absurd (H.trans (congrArg some HRT.out)) (by simp)
                  · replace c80 := Bool.eq_false_iff.mpr c80
                    subst c80
                    have H1 : ((rifflelaw39_lives.f k).bind fun t162 => (some t162)) = some r := by rw [if_neg (show ¬ (false = true) by decide)] at H; exact H
                    clear H
                    have H := H1
                    clear H1
                    replace H := Option.bind_eq_some_iff.mp H
                    obtain ⟨t162, A810, H⟩ := H
                    replace H : (some t162) = some r := H
                    have A81 := Aside0.mk A810
                    clear A810
                    obtain rfl := Option.some.inj H
                    go_enter Try.func4, Try.ntmps4
                    go_wp2_with (first | ((with_reducible refine gate_dst (N := 5) rfl ?_); (try (refine gate_guard (by rfl) ?_; dsimp only)); refine box_event ?hg (N := 5) ?hd (cs := #[.int .i64 a2_0, .int .i64 a2_1]) (t := 30) ?hr ?_; (case hd => rfl); (case hg => rfl); (case hr => first | (go_simp; done) | (go_simp; rfl)); intro gb143 hg w82 hbox hb; have n0_ := Aside0.mk (below_step (by repeat (first | (with_reducible first | exact HB.out | apply below_alloc | apply pw_below_drewN | apply below_drew1) | exact HB.out | exact Below.refl _ _)) hb); have n1_ := Aside0.mk (hbox); have n2_ := Aside0.mk ((by rw [hg]; exact (below_size (by repeat (first | (with_reducible first | exact HB.out | apply below_alloc | apply pw_below_drewN | apply below_drew1) | exact HB.out | exact Below.refl _ _))) : w.heap.size ≤ gb143)); have n3_ := Aside0.mk ((by rw [hg]; exact (below_size (by repeat (first | (with_reducible first | exact HB.out | apply below_alloc | apply pw_below_drewN | apply below_drew1) | exact HB.out | exact Below.refl _ _))) : w.heap.size ≤ gb143)); clear HB; have HB := n0_; have BK143 := n1_; have GW143 := n2_; have GE143 := n3_; clear n0_ n1_ n2_ n3_; clear hb hbox hg) | ((with_reducible refine gate_callee (f := 6) rfl ?_); refine goesL_ (some 26) rfl rfl Try.func6 (by kernel_rfl) rfl #[.string a0, .int .i64 a1] rfl (by (try simp only [List.map_toArray, List.map_cons, List.map_nil]); first | done | rfl | (simp only [List.length_drop, List.length_take]; rfl) | (simp [*] <;> (repeat' (first | rfl | apply And.intro)))) ?_; (with_reducible refine (place_Of.calls k a0 a1 t145 t146 _ (GL.below HG.out (by repeat (first | (with_reducible first | exact HB.out | apply below_alloc | apply pw_below_drewN | apply below_drew1 | refine below_set ?_ GE143.out) | exact HB.out | exact Below.refl _ _))) A8.out).mono ?_); rintro e w83 ⟨rfl, hb⟩; refine ⟨_, rfl, ?_⟩; have n0_ := Aside0.mk (blk_below (g := gb143) (o := .cells #[.int .i64 a2_0, .int .i64 a2_1] 30 (0, 0)) (by (with_reducible repeat (first | refine blk_drewN ?_ _ | refine blk_drew ?_ | refine blk_alloc ?_ _)); exact BK143.out) hb); have n1_ := Aside0.mk (below_step (by repeat (first | (with_reducible first | exact HB.out | apply below_alloc | apply pw_below_drewN | apply below_drew1 | refine below_set ?_ GE143.out) | exact HB.out | exact Below.refl _ _)) hb); clear BK143; clear HB; have BK143 := n0_; have HB := n1_; clear n0_ n1_; (try clear hb); (try clear hb2); (try clear hk); (try clear hi)) | ((with_reducible refine gate_callee (f := 8) rfl ?_); refine goesL_ (some 32) rfl rfl Try.func8 (by kernel_rfl) rfl #[.string a0, .int .i64 a1] rfl (by (try simp only [List.map_toArray, List.map_cons, List.map_nil]); first | done | rfl | (simp only [List.length_drop, List.length_take]; rfl) | (simp [*] <;> (repeat' (first | rfl | apply And.intro)))) ?_; (with_reducible refine (riffleref39_Of.calls k a0 a1 t147 t148 _ (GL.below HG.out (by repeat (first | (with_reducible first | exact HB.out | apply below_alloc | apply pw_below_drewN | apply below_drew1 | refine below_set ?_ GE143.out) | exact HB.out | exact Below.refl _ _))) A9.out).mono ?_); rintro e w' ⟨rfl, ⟨nd, rfl⟩⟩; refine ⟨_, rfl, ?_⟩; have hcz84_0 : w83.cell? ⟨gb143, 0, none⟩ = some (.int .i64 a2_0) := (blk_cell BK143.out 0).trans rfl; have hcz84_1 : w83.cell? ⟨gb143, 1, none⟩ = some (.int .i64 a2_1) := (blk_cell BK143.out 1).trans rfl; have hfz84_0 := blk_frozen BK143.out 0; have hfz84_1 := blk_frozen BK143.out 1) | ((with_reducible refine gate_callee (f := 7) rfl ?_); refine goesL_ (some 41) rfl rfl Try.func7 (by kernel_rfl) rfl #[.string a0, .int .i64 a2_0, .int .i64 a2_1] rfl (by (try simp only [List.map_toArray, List.map_cons, List.map_nil]); first | done | rfl | (simp only [List.length_drop, List.length_take]; rfl) | (simp [*] <;> (repeat' (first | rfl | apply And.intro)))) ?_; (with_reducible refine (place_At.calls k a0 a2_0 a2_1 t149 true _ (GL.below HG.out (by repeat (first | (with_reducible first | exact HB.out | apply below_alloc | apply pw_below_drewN | apply below_drew1 | refine below_set ?_ GE143.out) | exact HB.out | exact Below.refl _ _))) A10.out).mono ?_); rintro e w' ⟨rfl, ⟨nd, rfl⟩⟩; refine ⟨_, rfl, ?_⟩) | ((with_reducible refine gate_callee (f := 9) rfl ?_); refine goesL_ (some 49) rfl rfl Try.func9 (by kernel_rfl) rfl #[.string a0, .int .i64 a2_0, .int .i64 a2_1] rfl (by (try simp only [List.map_toArray, List.map_cons, List.map_nil]); first | done | rfl | (simp only [List.length_drop, List.length_take]; rfl) | (simp [*] <;> (repeat' (first | rfl | apply And.intro)))) ?_; (with_reducible refine (riffleref39_At.calls k a0 a2_0 a2_1 t151 _ (GL.below HG.out (by repeat (first | (with_reducible first | exact HB.out | apply below_alloc | apply pw_below_drewN | apply below_drew1 | refine below_set ?_ GE143.out) | exact HB.out | exact Below.refl _ _))) A11.out).mono ?_); rintro e w' ⟨rfl, ⟨nd, rfl⟩⟩; refine ⟨_, rfl, ?_⟩) | ((with_reducible refine gate_callee (f := 10) rfl ?_); refine goesL_ (some 54) rfl rfl Try.func10 (by kernel_rfl) rfl #[.string a0, .int .i64 a2_0] rfl (by (try simp only [List.map_toArray, List.map_cons, List.map_nil]); first | done | rfl | (simp only [List.length_drop, List.length_take]; rfl) | (simp [*] <;> (repeat' (first | rfl | apply And.intro)))) ?_; (with_reducible refine (place_Line.calls k a0 a2_0 t152 false _ (GL.below HG.out (by repeat (first | (with_reducible first | exact HB.out | apply below_alloc | apply pw_below_drewN | apply below_drew1 | refine below_set ?_ GE143.out) | exact HB.out | exact Below.refl _ _))) A12.out).mono ?_); rintro e w' ⟨rfl, ⟨nd, rfl⟩⟩; refine ⟨_, rfl, ?_⟩) | ((with_reducible refine gate_callee (f := 11) rfl ?_); refine goesL_ (some 58) rfl rfl Try.func11 (by kernel_rfl) rfl #[.string a0] rfl (by (try simp only [List.map_toArray, List.map_cons, List.map_nil]); first | done | rfl | (simp only [List.length_drop, List.length_take]; rfl) | (simp [*] <;> (repeat' (first | rfl | apply And.intro)))) ?_; (with_reducible refine (riffleref39_Lines.calls k a0 t154 _ (GL.below HG.out (by repeat (first | (with_reducible first | exact HB.out | apply below_alloc | apply pw_below_drewN | apply below_drew1 | refine below_set ?_ GE143.out) | exact HB.out | exact Below.refl _ _))) A13.out).mono ?_); rintro e w85 ⟨v155, rfl, ho0, hb⟩; refine ⟨_, rfl, ?_⟩; have n0_ := Aside0.mk (Kd.R_lower ho0 (below_size (by repeat (first | (with_reducible first | exact HB.out | apply below_alloc | apply pw_below_drewN | apply below_drew1 | refine below_set ?_ GE143.out) | exact HB.out | exact Below.refl _ _)))); have n1_ := Aside0.mk (blk_below (g := gb143) (o := .cells #[.int .i64 a2_0, .int .i64 a2_1] 30 (0, 0)) (by (with_reducible repeat (first | refine blk_drewN ?_ _ | refine blk_drew ?_ | refine blk_alloc ?_ _)); exact BK143.out) hb); have n2_ := Aside0.mk (below_step (by repeat (first | (with_reducible first | exact HB.out | apply below_alloc | apply pw_below_drewN | apply below_drew1 | refine below_set ?_ GE143.out) | exact HB.out | exact Below.refl _ _)) hb); clear BK143; clear HB; have HO156 := n0_; have BK143 := n1_; have HB := n2_; clear n0_ n1_ n2_; (try clear hb); (try clear hb2); (try clear hk); (try clear hi); (try clear ho0); have hcz86_0 : w85.cell? ⟨gb143, 0, none⟩ = some (.int .i64 a2_0) := (blk_cell BK143.out 0).trans rfl; have hcz86_1 : w85.cell? ⟨gb143, 1, none⟩ = some (.int .i64 a2_1) := (blk_cell BK143.out 1).trans rfl; have hfz86_0 := blk_frozen BK143.out 0; have hfz86_1 := blk_frozen BK143.out 1) | (go_at_call 5; (with_reducible refine (rifflelaw39_lives.calls k  t162 _ (GL.below HG.out (by repeat (first | (with_reducible first | exact HB.out | apply below_alloc | apply pw_below_drewN | apply below_drew1 | refine below_set ?_ GE143.out) | exact HB.out | exact Below.refl _ _))) A81.out).mono ?_); rintro e w87 ⟨rfl, hb⟩; have n0_ := Aside0.mk (Kd.R_below (by (with_reducible repeat (first | apply Kd.R_alloc | apply Kd.R_drewN | apply Kd.R_drew)); exact HO156.out) hb); have n1_ := Aside0.mk (blk_below (g := gb143) (o := .cells #[.int .i64 a2_0, .int .i64 a2_1] 30 (0, 0)) (by (with_reducible repeat (first | refine blk_drewN ?_ _ | refine blk_drew ?_ | refine blk_alloc ?_ _)); exact BK143.out) hb); have n2_ := Aside0.mk (below_step (by repeat (first | (with_reducible first | exact HB.out | apply below_alloc | apply pw_below_drewN | apply below_drew1 | refine below_set ?_ GE143.out) | exact HB.out | exact Below.refl _ _)) hb); clear HO156; clear BK143; clear HB; have HO156 := n0_; have BK143 := n1_; have HB := n2_; clear n0_ n1_ n2_; (try clear hb); (try clear hb2); (try clear hk); (try clear hi)))
                    go_ret
                    exact ⟨by first | rfl | (simp [errW_none, errW_some] <;> rfl) | (simp only [← hji75]; first | rfl | (simp [errW_none, errW_some] <;> rfl)) | (simp [*, errW_none, errW_some] <;> rfl), by repeat (first | (with_reducible first | exact HB.out | apply below_alloc | apply pw_below_drewN | apply below_drew1 | refine below_set ?_ GE143.out) | exact HB.out | exact Below.refl _ _)⟩
                · rw [if_neg c79] at H
                  have c79b0 : (t152.toList == ([] : List UInt8)) = false := beq_eq_false_iff_ne.mpr c79
                  have c79b1 : (t152.toList != ([] : List UInt8)) = true := bne_iff_ne.mpr c79
                  exact absurd (H.trans (congrArg some HRT.out)) (by simp)
              · rw [if_neg c78] at H
                have c78b0 : decide (0 ≤ t151) = false := decide_eq_false c78
                clear c78
                exact absurd (H.trans (congrArg some HRT.out)) (by simp)
            · replace c77 := Bool.eq_false_iff.mpr c77
              subst c77
              have H1 : (if t151 ≥ 0 then (some false) else (if t152.toList = ([] : List UInt8) then (if t153 = true then (some false) else ((rifflelaw39_lives.f k).bind fun t163 => (some t163))) else (some false))) = some r := by rw [if_neg (show ¬ (false = true) by decide)] at H; exact H
              clear H
              have H := H1
              clear H1
              by_cases c88 : t151 ≥ 0
              · rw [if_pos c88] at H
                have c88b0 : decide (0 ≤ t151) = true := decide_eq_true c88
                clear c88
                exact absurd (H.trans (congrArg some HRT.out)) (by simp)
              · rw [if_neg c88] at H
                have c88b0 : decide (0 ≤ t151) = false := decide_eq_false c88
                clear c88
                by_cases c89 : t152.toList = ([] : List UInt8)
                · rw [if_pos c89] at H
                  have c89b0 : (t152.toList == ([] : List UInt8)) = true := beq_iff_eq.mpr c89
                  have c89b1 : (t152.toList != ([] : List UInt8)) = false := bne_eq_false_iff_eq.mpr c89
                  clear c89
                  by_cases c90 : t153 = true
                  · subst c90
                    have H1 : (some false) = some r := by rw [if_pos rfl] at H; exact H
                    clear H
                    have H := H1
                    clear H1
                    exact absurd (H.trans (congrArg some HRT.out)) (by simp)
                  · replace c90 := Bool.eq_false_iff.mpr c90
                    subst c90
                    have H1 : ((rifflelaw39_lives.f k).bind fun t163 => (some t163)) = some r := by rw [if_neg (show ¬ (false = true) by decide)] at H; exact H
                    clear H
                    have H := H1
                    clear H1
                    replace H := Option.bind_eq_some_iff.mp H
                    obtain ⟨t163, A910, H⟩ := H
                    replace H : (some t163) = some r := H
                    have A91 := Aside0.mk A910
                    clear A910
                    obtain rfl := Option.some.inj H
                    go_enter Try.func4, Try.ntmps4
                    go_wp2_with (first | ((with_reducible refine gate_dst (N := 5) rfl ?_); (try (refine gate_guard (by rfl) ?_; dsimp only)); refine box_event ?hg (N := 5) ?hd (cs := #[.int .i64 a2_0, .int .i64 a2_1]) (t := 30) ?hr ?_; (case hd => rfl); (case hg => rfl); (case hr => first | (go_simp; done) | (go_simp; rfl)); intro gb143 hg w92 hbox hb; have n0_ := Aside0.mk (below_step (by repeat (first | (with_reducible first | exact HB.out | apply below_alloc | apply pw_below_drewN | apply below_drew1) | exact HB.out | exact Below.refl _ _)) hb); have n1_ := Aside0.mk (hbox); have n2_ := Aside0.mk ((by rw [hg]; exact (below_size (by repeat (first | (with_reducible first | exact HB.out | apply below_alloc | apply pw_below_drewN | apply below_drew1) | exact HB.out | exact Below.refl _ _))) : w.heap.size ≤ gb143)); have n3_ := Aside0.mk ((by rw [hg]; exact (below_size (by repeat (first | (with_reducible first | exact HB.out | apply below_alloc | apply pw_below_drewN | apply below_drew1) | exact HB.out | exact Below.refl _ _))) : w.heap.size ≤ gb143)); clear HB; have HB := n0_; have BK143 := n1_; have GW143 := n2_; have GE143 := n3_; clear n0_ n1_ n2_ n3_; clear hb hbox hg) | ((with_reducible refine gate_callee (f := 6) rfl ?_); refine goesL_ (some 26) rfl rfl Try.func6 (by kernel_rfl) rfl #[.string a0, .int .i64 a1] rfl (by (try simp only [List.map_toArray, List.map_cons, List.map_nil]); first | done | rfl | (simp only [List.length_drop, List.length_take]; rfl) | (simp [*] <;> (repeat' (first | rfl | apply And.intro)))) ?_; (with_reducible refine (place_Of.calls k a0 a1 t145 t146 _ (GL.below HG.out (by repeat (first | (with_reducible first | exact HB.out | apply below_alloc | apply pw_below_drewN | apply below_drew1 | refine below_set ?_ GE143.out) | exact HB.out | exact Below.refl _ _))) A8.out).mono ?_); rintro e w93 ⟨rfl, hb⟩; refine ⟨_, rfl, ?_⟩; have n0_ := Aside0.mk (blk_below (g := gb143) (o := .cells #[.int .i64 a2_0, .int .i64 a2_1] 30 (0, 0)) (by (with_reducible repeat (first | refine blk_drewN ?_ _ | refine blk_drew ?_ | refine blk_alloc ?_ _)); exact BK143.out) hb); have n1_ := Aside0.mk (below_step (by repeat (first | (with_reducible first | exact HB.out | apply below_alloc | apply pw_below_drewN | apply below_drew1 | refine below_set ?_ GE143.out) | exact HB.out | exact Below.refl _ _)) hb); clear BK143; clear HB; have BK143 := n0_; have HB := n1_; clear n0_ n1_; (try clear hb); (try clear hb2); (try clear hk); (try clear hi)) | ((with_reducible refine gate_callee (f := 8) rfl ?_); refine goesL_ (some 32) rfl rfl Try.func8 (by kernel_rfl) rfl #[.string a0, .int .i64 a1] rfl (by (try simp only [List.map_toArray, List.map_cons, List.map_nil]); first | done | rfl | (simp only [List.length_drop, List.length_take]; rfl) | (simp [*] <;> (repeat' (first | rfl | apply And.intro)))) ?_; (with_reducible refine (riffleref39_Of.calls k a0 a1 t147 t148 _ (GL.below HG.out (by repeat (first | (with_reducible first | exact HB.out | apply below_alloc | apply pw_below_drewN | apply below_drew1 | refine below_set ?_ GE143.out) | exact HB.out | exact Below.refl _ _))) A9.out).mono ?_); rintro e w' ⟨rfl, ⟨nd, rfl⟩⟩; refine ⟨_, rfl, ?_⟩; have hcz94_0 : w93.cell? ⟨gb143, 0, none⟩ = some (.int .i64 a2_0) := (blk_cell BK143.out 0).trans rfl; have hcz94_1 : w93.cell? ⟨gb143, 1, none⟩ = some (.int .i64 a2_1) := (blk_cell BK143.out 1).trans rfl; have hfz94_0 := blk_frozen BK143.out 0; have hfz94_1 := blk_frozen BK143.out 1) | ((with_reducible refine gate_callee (f := 7) rfl ?_); refine goesL_ (some 41) rfl rfl Try.func7 (by kernel_rfl) rfl #[.string a0, .int .i64 a2_0, .int .i64 a2_1] rfl (by (try simp only [List.map_toArray, List.map_cons, List.map_nil]); first | done | rfl | (simp only [List.length_drop, List.length_take]; rfl) | (simp [*] <;> (repeat' (first | rfl | apply And.intro)))) ?_; (with_reducible refine (place_At.calls k a0 a2_0 a2_1 t149 false _ (GL.below HG.out (by repeat (first | (with_reducible first | exact HB.out | apply below_alloc | apply pw_below_drewN | apply below_drew1 | refine below_set ?_ GE143.out) | exact HB.out | exact Below.refl _ _))) A10.out).mono ?_); rintro e w' ⟨rfl, ⟨nd, rfl⟩⟩; refine ⟨_, rfl, ?_⟩) | ((with_reducible refine gate_callee (f := 9) rfl ?_); refine goesL_ (some 49) rfl rfl Try.func9 (by kernel_rfl) rfl #[.string a0, .int .i64 a2_0, .int .i64 a2_1] rfl (by (try simp only [List.map_toArray, List.map_cons, List.map_nil]); first | done | rfl | (simp only [List.length_drop, List.length_take]; rfl) | (simp [*] <;> (repeat' (first | rfl | apply And.intro)))) ?_; (with_reducible refine (riffleref39_At.calls k a0 a2_0 a2_1 t151 _ (GL.below HG.out (by repeat (first | (with_reducible first | exact HB.out | apply below_alloc | apply pw_below_drewN | apply below_drew1 | refine below_set ?_ GE143.out) | exact HB.out | exact Below.refl _ _))) A11.out).mono ?_); rintro e w' ⟨rfl, ⟨nd, rfl⟩⟩; refine ⟨_, rfl, ?_⟩) | ((with_reducible refine gate_callee (f := 10) rfl ?_); refine goesL_ (some 54) rfl rfl Try.func10 (by kernel_rfl) rfl #[.string a0, .int .i64 a2_0] rfl (by (try simp only [List.map_toArray, List.map_cons, List.map_nil]); first | done | rfl | (simp only [List.length_drop, List.length_take]; rfl) | (simp [*] <;> (repeat' (first | rfl | apply And.intro)))) ?_; (with_reducible refine (place_Line.calls k a0 a2_0 t152 false _ (GL.below HG.out (by repeat (first | (with_reducible first | exact HB.out | apply below_alloc | apply pw_below_drewN | apply below_drew1 | refine below_set ?_ GE143.out) | exact HB.out | exact Below.refl _ _))) A12.out).mono ?_); rintro e w' ⟨rfl, ⟨nd, rfl⟩⟩; refine ⟨_, rfl, ?_⟩) | ((with_reducible refine gate_callee (f := 11) rfl ?_); refine goesL_ (some 58) rfl rfl Try.func11 (by kernel_rfl) rfl #[.string a0] rfl (by (try simp only [List.map_toArray, List.map_cons, List.map_nil]); first | done | rfl | (simp only [List.length_drop, List.length_take]; rfl) | (simp [*] <;> (repeat' (first | rfl | apply And.intro)))) ?_; (with_reducible refine (riffleref39_Lines.calls k a0 t154 _ (GL.below HG.out (by repeat (first | (with_reducible first | exact HB.out | apply below_alloc | apply pw_below_drewN | apply below_drew1 | refine below_set ?_ GE143.out) | exact HB.out | exact Below.refl _ _))) A13.out).mono ?_); rintro e w95 ⟨v155, rfl, ho0, hb⟩; refine ⟨_, rfl, ?_⟩; have n0_ := Aside0.mk (Kd.R_lower ho0 (below_size (by repeat (first | (with_reducible first | exact HB.out | apply below_alloc | apply pw_below_drewN | apply below_drew1 | refine below_set ?_ GE143.out) | exact HB.out | exact Below.refl _ _)))); have n1_ := Aside0.mk (blk_below (g := gb143) (o := .cells #[.int .i64 a2_0, .int .i64 a2_1] 30 (0, 0)) (by (with_reducible repeat (first | refine blk_drewN ?_ _ | refine blk_drew ?_ | refine blk_alloc ?_ _)); exact BK143.out) hb); have n2_ := Aside0.mk (below_step (by repeat (first | (with_reducible first | exact HB.out | apply below_alloc | apply pw_below_drewN | apply below_drew1 | refine below_set ?_ GE143.out) | exact HB.out | exact Below.refl _ _)) hb); clear BK143; clear HB; have HO156 := n0_; have BK143 := n1_; have HB := n2_; clear n0_ n1_ n2_; (try clear hb); (try clear hb2); (try clear hk); (try clear hi); (try clear ho0); have hcz96_0 : w95.cell? ⟨gb143, 0, none⟩ = some (.int .i64 a2_0) := (blk_cell BK143.out 0).trans rfl; have hcz96_1 : w95.cell? ⟨gb143, 1, none⟩ = some (.int .i64 a2_1) := (blk_cell BK143.out 1).trans rfl; have hfz96_0 := blk_frozen BK143.out 0; have hfz96_1 := blk_frozen BK143.out 1) | (go_at_call 5; (with_reducible refine (rifflelaw39_lives.calls k  t163 _ (GL.below HG.out (by repeat (first | (with_reducible first | exact HB.out | apply below_alloc | apply pw_below_drewN | apply below_drew1 | refine below_set ?_ GE143.out) | exact HB.out | exact Below.refl _ _))) A91.out).mono ?_); rintro e w97 ⟨rfl, hb⟩; have n0_ := Aside0.mk (Kd.R_below (by (with_reducible repeat (first | apply Kd.R_alloc | apply Kd.R_drewN | apply Kd.R_drew)); exact HO156.out) hb); have n1_ := Aside0.mk (blk_below (g := gb143) (o := .cells #[.int .i64 a2_0, .int .i64 a2_1] 30 (0, 0)) (by (with_reducible repeat (first | refine blk_drewN ?_ _ | refine blk_drew ?_ | refine blk_alloc ?_ _)); exact BK143.out) hb); have n2_ := Aside0.mk (below_step (by repeat (first | (with_reducible first | exact HB.out | apply below_alloc | apply pw_below_drewN | apply below_drew1 | refine below_set ?_ GE143.out) | exact HB.out | exact Below.refl _ _)) hb); clear HO156; clear BK143; clear HB; have HO156 := n0_; have BK143 := n1_; have HB := n2_; clear n0_ n1_ n2_; (try clear hb); (try clear hb2); (try clear hk); (try clear hi)))
                    go_ret
                    exact ⟨by first | rfl | (simp [errW_none, errW_some] <;> rfl) | (simp only [← hji75]; first | rfl | (simp [errW_none, errW_some] <;> rfl)) | (simp [*, errW_none, errW_some] <;> rfl), by repeat (first | (with_reducible first | exact HB.out | apply below_alloc | apply pw_below_drewN | apply below_drew1 | refine below_set ?_ GE143.out) | exact HB.out | exact Below.refl _ _)⟩
                · rw [if_neg c89] at H
                  have c89b0 : (t152.toList == ([] : List UInt8)) = false := beq_eq_false_iff_ne.mpr c89
                  have c89b1 : (t152.toList != ([] : List UInt8)) = true := bne_iff_ne.mpr c89
                  exact absurd (H.trans (congrArg some HRT.out)) (by simp)
          · rw [if_neg c76] at H
            have c76b0 : (t149 == (ji75)) = false := beq_eq_false_iff_ne.mpr c76
            have c76b1 : (t149 != (ji75)) = true := bne_iff_ne.mpr c76
            exact absurd (H.trans (congrArg some HRT.out)) (by simp)
        · rw [if_neg c74] at H
          have c74b0 : (t146 == t148) = false := beq_eq_false_iff_ne.mpr c74
          have c74b1 : (t146 != t148) = true := bne_iff_ne.mpr c74
          exact absurd (H.trans (congrArg some HRT.out)) (by simp)
      · rw [if_neg c73] at H
        have c73b0 : (t145 == t147) = false := beq_eq_false_iff_ne.mpr c73
        have c73b1 : (t145 != t147) = true := bne_iff_ne.mpr c73
        exact absurd (H.trans (congrArg some HRT.out)) (by simp)

end Go.Proofs.Ytpaeefnepfppfaa.Xb
