-- Printed by a driver of this session around the kit's print (wip/tools/xprint.py): functions and contracts.
import Derived.Test.YtpaeefnepfppfaaDoorXg0
import Derived.Test.YtpaeefnepfppfaaDoorXg1
import Derived.Test.YtpaeefnepfppfaaDoorXg2
import Derived.Test.YtpaeefnepfppfaaDoorXg3
namespace Go.Proofs.YtpaeefnepfppfaaDoor.Xg
open Go.RowKit Go.Proofs.YtpaeefnepfppfaaDoorW.PrintWords Go.Proofs.YtpaeefnepfppfaaDoorW.PrintLast Go.Proofs.YtpaeefnepfppfaaDoorW.PrintMore
attribute [local go_sem] max2_int min2_int max_two min_two max_three min_three max_four min_four   -- for this text's walks alone
set_option linter.unusedVariables false
set_option linter.unusedSimpArgs false

/-! ### rifflelaw02_GlyphBack: function 6 -/
def rifflelaw02_GlyphBack.j0 : Nat → Int → Int → ByteArray → ByteArray → Bool → Option (Bool)
  | 0, _, _, _, _, _ => none
  | k + 1, x0, x1, x2, x8, x77 => if x77 = true then (some false) else (if x8.toList = ([] : List UInt8) then ((rifflelaw02_lives.f k).bind fun t206 => (some t206)) else (if 1 + x8.size ≤ 9223372036854775807 then (if ((⟨#[96]⟩ : ByteArray) ++ x8).size + 1 ≤ 9223372036854775807 then (if (((⟨#[96]⟩ : ByteArray) ++ x8) ++ (⟨#[32]⟩ : ByteArray)).size + x2.size ≤ 9223372036854775807 then ((glyph_First.f k ((((⟨#[96]⟩ : ByteArray) ++ x8) ++ (⟨#[32]⟩ : ByteArray)) ++ x2)).bind fun bt207 => ((glyph_Named.f k x8).bind fun bt209 => (if bt207.1 = x0 then (if bt207.2 = (wrap64 ((x8.size : Int) + 1)) then (if bt209.1 = x0 then (if bt209.2 = true then ((glyph_Word.f x1).bind fun t211 => (if t211.toList = x8.toList then (if x1 = x0 then ((rifflelaw02_lives.f k).bind fun t212 => (some t212)) else (some false)) else ((rifflelaw02_lives.f k).bind fun t213 => (some t213)))) else (some false)) else (some false)) else (some false)) else (some false)))) else (none)) else (none)) else (none)))
def rifflelaw02_GlyphBack.f (k : Nat) (a0 : Int) (a1 : Int) (a2 : ByteArray) : Option (Bool) := (glyph_Sign.f a0).bind fun t197 => ((glyph_Word.f a0).bind fun t198 => ((glyph_Class.f a0).bind fun t199 => (if t199 = 0 then (if t197.toList = ([] : List UInt8) then (if t198.toList = ([] : List UInt8) then ((rifflelaw02_lives.f k).bind fun t200 => (some t200)) else (some false)) else (some false)) else (if t197.size + a2.size ≤ 9223372036854775807 then ((glyph_First.f k (t197 ++ a2)).bind fun bt201 => ((glyph_Of.f k t197).bind fun bt203 => (if t197.toList = ([] : List UInt8) then (rifflelaw02_GlyphBack.j0 k a0 a1 a2 t198 true) else (if bt201.1 = a0 then (if bt201.2 = (t197.size : Int) then (if bt203.1 = a0 then (if bt203.2 = true then ((glyph_Sign.f a1).bind fun t205 => (if t205.toList = t197.toList then (rifflelaw02_GlyphBack.j0 k a0 a1 a2 t198 (a1 != a0)) else (rifflelaw02_GlyphBack.j0 k a0 a1 a2 t198 false))) else (rifflelaw02_GlyphBack.j0 k a0 a1 a2 t198 true)) else (rifflelaw02_GlyphBack.j0 k a0 a1 a2 t198 true)) else (rifflelaw02_GlyphBack.j0 k a0 a1 a2 t198 true)) else (rifflelaw02_GlyphBack.j0 k a0 a1 a2 t198 true))))) else (none)))))
theorem rifflelaw02_GlyphBack.mono_l : ∀ k, (∀ y0 y1 y2 y3 y4, LeO (rifflelaw02_GlyphBack.j0 k y0 y1 y2 y3 y4) (rifflelaw02_GlyphBack.j0 (k + 1) y0 y1 y2 y3 y4))
  | 0 => fun _ _ _ _ _ r h => by simp [rifflelaw02_GlyphBack.j0] at h
  | k + 1 => by
    have ih0 := rifflelaw02_GlyphBack.mono_l k
    · intro y0 y1 y2 y3 y4
      unfold rifflelaw02_GlyphBack.j0
      repeat' first
      | (with_reducible exact ih0 _ _ _ _ _)
      | (with_reducible exact glyph_First.mono _ _)
      | (with_reducible exact glyph_Named.mono _ _)
      | (with_reducible exact glyph_Of.mono _ _)
      | (with_reducible exact rifflelaw02_lives.mono _)
      | (with_reducible exact LeO.refl _)
      | (with_reducible exact LeO.none _)
      | (with_reducible refine LeO.ite ?_ ?_)
      | (with_reducible refine LeO.bind ?_ (fun _ => ?_))
      | exact ih0 _ _ _ _ _
      | exact glyph_First.mono _ _
      | exact glyph_Named.mono _ _
      | exact glyph_Of.mono _ _
      | exact rifflelaw02_lives.mono _
      | exact LeO.none _
      | refine LeO.ite ?_ ?_
      | refine LeO.bind ?_ (fun _ => ?_)
theorem rifflelaw02_GlyphBack.mono : ∀ a0 a1 a2 k, LeO (rifflelaw02_GlyphBack.f k a0 a1 a2) (rifflelaw02_GlyphBack.f (k + 1) a0 a1 a2) := by
  intro a0 a1 a2 k
  have ih0 := rifflelaw02_GlyphBack.mono_l k
  unfold rifflelaw02_GlyphBack.f
  repeat' first
      | (with_reducible exact ih0 _ _ _ _ _)
      | (with_reducible exact glyph_First.mono _ _)
      | (with_reducible exact glyph_Named.mono _ _)
      | (with_reducible exact glyph_Of.mono _ _)
      | (with_reducible exact rifflelaw02_lives.mono _)
      | (with_reducible exact LeO.refl _)
      | (with_reducible exact LeO.none _)
      | (with_reducible refine LeO.ite ?_ ?_)
      | (with_reducible refine LeO.bind ?_ (fun _ => ?_))
      | exact ih0 _ _ _ _ _
      | exact glyph_First.mono _ _
      | exact glyph_Named.mono _ _
      | exact glyph_Of.mono _ _
      | exact rifflelaw02_lives.mono _
      | exact LeO.none _
      | refine LeO.ite ?_ ?_
      | refine LeO.bind ?_ (fun _ => ?_)
set_option maxHeartbeats 8000000 in
set_option maxRecDepth 100000 in
theorem rifflelaw02_GlyphBack.calls (k : Nat) (a0 : Int) (a1 : Int) (a2 : ByteArray) (r : Bool) (w : World) (hG : GL w) (hrt : r = true) (h : rifflelaw02_GlyphBack.f k a0 a1 a2 = some r) :
    Calls Tryd.prog 6 #[.int .i64 a0, .int .i64 a1, .string a2] w fun e w' => e = .returned (.bool r) ∧ Below w.heap.size w w' := by
  have HG := Aside0.mk hG
  clear hG
  have HRT := Aside0.mk hrt
  clear hrt
  have HB := Aside0.mk (Below.refl w.heap.size w)
  have H : ((glyph_Sign.f a0).bind fun t197 => ((glyph_Word.f a0).bind fun t198 => ((glyph_Class.f a0).bind fun t199 => (if t199 = 0 then (if t197.toList = ([] : List UInt8) then (if t198.toList = ([] : List UInt8) then ((rifflelaw02_lives.f k).bind fun t200 => (some t200)) else (some false)) else (some false)) else (if t197.size + a2.size ≤ 9223372036854775807 then ((glyph_First.f k (t197 ++ a2)).bind fun bt201 => ((glyph_Of.f k t197).bind fun bt203 => (if t197.toList = ([] : List UInt8) then (rifflelaw02_GlyphBack.j0 k a0 a1 a2 t198 true) else (if bt201.1 = a0 then (if bt201.2 = (t197.size : Int) then (if bt203.1 = a0 then (if bt203.2 = true then ((glyph_Sign.f a1).bind fun t205 => (if t205.toList = t197.toList then (rifflelaw02_GlyphBack.j0 k a0 a1 a2 t198 (a1 != a0)) else (rifflelaw02_GlyphBack.j0 k a0 a1 a2 t198 false))) else (rifflelaw02_GlyphBack.j0 k a0 a1 a2 t198 true)) else (rifflelaw02_GlyphBack.j0 k a0 a1 a2 t198 true)) else (rifflelaw02_GlyphBack.j0 k a0 a1 a2 t198 true)) else (rifflelaw02_GlyphBack.j0 k a0 a1 a2 t198 true))))) else (none)))))) = some r := h
  clear h
  replace H := Option.bind_eq_some_iff.mp H
  obtain ⟨t197, A40, H⟩ := H
  replace H : ((glyph_Word.f a0).bind fun t198 => ((glyph_Class.f a0).bind fun t199 => (if t199 = 0 then (if t197.toList = ([] : List UInt8) then (if t198.toList = ([] : List UInt8) then ((rifflelaw02_lives.f k).bind fun t200 => (some t200)) else (some false)) else (some false)) else (if t197.size + a2.size ≤ 9223372036854775807 then ((glyph_First.f k (t197 ++ a2)).bind fun bt201 => ((glyph_Of.f k t197).bind fun bt203 => (if t197.toList = ([] : List UInt8) then (rifflelaw02_GlyphBack.j0 k a0 a1 a2 t198 true) else (if bt201.1 = a0 then (if bt201.2 = (t197.size : Int) then (if bt203.1 = a0 then (if bt203.2 = true then ((glyph_Sign.f a1).bind fun t205 => (if t205.toList = t197.toList then (rifflelaw02_GlyphBack.j0 k a0 a1 a2 t198 (a1 != a0)) else (rifflelaw02_GlyphBack.j0 k a0 a1 a2 t198 false))) else (rifflelaw02_GlyphBack.j0 k a0 a1 a2 t198 true)) else (rifflelaw02_GlyphBack.j0 k a0 a1 a2 t198 true)) else (rifflelaw02_GlyphBack.j0 k a0 a1 a2 t198 true)) else (rifflelaw02_GlyphBack.j0 k a0 a1 a2 t198 true))))) else (none))))) = some r := H
  have A4 := Aside0.mk A40
  clear A40
  replace H := Option.bind_eq_some_iff.mp H
  obtain ⟨t198, A50, H⟩ := H
  replace H : ((glyph_Class.f a0).bind fun t199 => (if t199 = 0 then (if t197.toList = ([] : List UInt8) then (if t198.toList = ([] : List UInt8) then ((rifflelaw02_lives.f k).bind fun t200 => (some t200)) else (some false)) else (some false)) else (if t197.size + a2.size ≤ 9223372036854775807 then ((glyph_First.f k (t197 ++ a2)).bind fun bt201 => ((glyph_Of.f k t197).bind fun bt203 => (if t197.toList = ([] : List UInt8) then (rifflelaw02_GlyphBack.j0 k a0 a1 a2 t198 true) else (if bt201.1 = a0 then (if bt201.2 = (t197.size : Int) then (if bt203.1 = a0 then (if bt203.2 = true then ((glyph_Sign.f a1).bind fun t205 => (if t205.toList = t197.toList then (rifflelaw02_GlyphBack.j0 k a0 a1 a2 t198 (a1 != a0)) else (rifflelaw02_GlyphBack.j0 k a0 a1 a2 t198 false))) else (rifflelaw02_GlyphBack.j0 k a0 a1 a2 t198 true)) else (rifflelaw02_GlyphBack.j0 k a0 a1 a2 t198 true)) else (rifflelaw02_GlyphBack.j0 k a0 a1 a2 t198 true)) else (rifflelaw02_GlyphBack.j0 k a0 a1 a2 t198 true))))) else (none)))) = some r := H
  have A5 := Aside0.mk A50
  clear A50
  replace H := Option.bind_eq_some_iff.mp H
  obtain ⟨t199, A60, H⟩ := H
  replace H : (if t199 = 0 then (if t197.toList = ([] : List UInt8) then (if t198.toList = ([] : List UInt8) then ((rifflelaw02_lives.f k).bind fun t200 => (some t200)) else (some false)) else (some false)) else (if t197.size + a2.size ≤ 9223372036854775807 then ((glyph_First.f k (t197 ++ a2)).bind fun bt201 => ((glyph_Of.f k t197).bind fun bt203 => (if t197.toList = ([] : List UInt8) then (rifflelaw02_GlyphBack.j0 k a0 a1 a2 t198 true) else (if bt201.1 = a0 then (if bt201.2 = (t197.size : Int) then (if bt203.1 = a0 then (if bt203.2 = true then ((glyph_Sign.f a1).bind fun t205 => (if t205.toList = t197.toList then (rifflelaw02_GlyphBack.j0 k a0 a1 a2 t198 (a1 != a0)) else (rifflelaw02_GlyphBack.j0 k a0 a1 a2 t198 false))) else (rifflelaw02_GlyphBack.j0 k a0 a1 a2 t198 true)) else (rifflelaw02_GlyphBack.j0 k a0 a1 a2 t198 true)) else (rifflelaw02_GlyphBack.j0 k a0 a1 a2 t198 true)) else (rifflelaw02_GlyphBack.j0 k a0 a1 a2 t198 true))))) else (none))) = some r := H
  have A6 := Aside0.mk A60
  clear A60
  by_cases c7 : t199 = 0
  · rw [if_pos c7] at H
    have c7b0 : (t199 == 0) = true := beq_iff_eq.mpr c7
    have c7b1 : (t199 != 0) = false := bne_eq_false_iff_eq.mpr c7
    clear c7
    by_cases c8 : t197.toList = ([] : List UInt8)
    · rw [if_pos c8] at H
      have c8b0 : (t197.toList == ([] : List UInt8)) = true := beq_iff_eq.mpr c8
      have c8b1 : (t197.toList != ([] : List UInt8)) = false := bne_eq_false_iff_eq.mpr c8
      clear c8
      by_cases c9 : t198.toList = ([] : List UInt8)
      · rw [if_pos c9] at H
        have c9b0 : (t198.toList == ([] : List UInt8)) = true := beq_iff_eq.mpr c9
        have c9b1 : (t198.toList != ([] : List UInt8)) = false := bne_eq_false_iff_eq.mpr c9
        clear c9
        replace H := Option.bind_eq_some_iff.mp H
        obtain ⟨t200, A100, H⟩ := H
        replace H : (some t200) = some r := H
        have A10 := Aside0.mk A100
        clear A100
        obtain rfl := Option.some.inj H
        go_enter Tryd.func6, Tryd.ntmps6
        go_wp2_with (first | ((with_reducible refine gate_callee (f := 19) rfl ?_); refine goesL_ (some 18) rfl rfl Tryd.func19 (by kernel_rfl) rfl #[.int .i64 a0] rfl (by (try simp only [List.map_toArray, List.map_cons, List.map_nil]); first | done | rfl | (simp only [List.length_drop, List.length_take]; rfl) | (simp [*] <;> (repeat' (first | rfl | apply And.intro)))) ?_; (with_reducible refine (glyph_Sign.calls a0 t197 _ (GL.below HG.out (by repeat (first | (with_reducible first | exact HB.out | apply below_alloc | apply pw_below_drewN | apply below_drew1) | exact HB.out | exact Below.refl _ _))) A4.out).mono ?_); rintro e w11 ⟨rfl, hb⟩; refine ⟨_, rfl, ?_⟩; have n0_ := Aside0.mk (below_step (by repeat (first | (with_reducible first | exact HB.out | apply below_alloc | apply pw_below_drewN | apply below_drew1) | exact HB.out | exact Below.refl _ _)) hb); clear HB; have HB := n0_; clear n0_; (try clear hb); (try clear hb2); (try clear hk); (try clear hi)) | ((with_reducible refine gate_callee (f := 21) rfl ?_); refine goesL_ (some 20) rfl rfl Tryd.func21 (by kernel_rfl) rfl #[.int .i64 a0] rfl (by (try simp only [List.map_toArray, List.map_cons, List.map_nil]); first | done | rfl | (simp only [List.length_drop, List.length_take]; rfl) | (simp [*] <;> (repeat' (first | rfl | apply And.intro)))) ?_; (with_reducible refine (glyph_Word.calls a0 t198 _ (GL.below HG.out (by repeat (first | (with_reducible first | exact HB.out | apply below_alloc | apply pw_below_drewN | apply below_drew1) | exact HB.out | exact Below.refl _ _))) A5.out).mono ?_); rintro e w12 ⟨rfl, hb⟩; refine ⟨_, rfl, ?_⟩; have n0_ := Aside0.mk (below_step (by repeat (first | (with_reducible first | exact HB.out | apply below_alloc | apply pw_below_drewN | apply below_drew1) | exact HB.out | exact Below.refl _ _)) hb); clear HB; have HB := n0_; clear n0_; (try clear hb); (try clear hb2); (try clear hk); (try clear hi)) | ((with_reducible refine gate_callee (f := 23) rfl ?_); refine goesL_ (some 22) rfl rfl Tryd.func23 (by kernel_rfl) rfl #[.int .i64 a0] rfl (by (try simp only [List.map_toArray, List.map_cons, List.map_nil]); first | done | rfl | (simp only [List.length_drop, List.length_take]; rfl) | (simp [*] <;> (repeat' (first | rfl | apply And.intro)))) ?_; (with_reducible refine (glyph_Class.calls a0 t199 _ (GL.below HG.out (by repeat (first | (with_reducible first | exact HB.out | apply below_alloc | apply pw_below_drewN | apply below_drew1) | exact HB.out | exact Below.refl _ _))) A6.out).mono ?_); rintro e w' ⟨rfl, ⟨nd, rfl⟩⟩; refine ⟨_, rfl, ?_⟩) | (go_at_call 14; (with_reducible refine (rifflelaw02_lives.calls k  t200 _ (GL.below HG.out (by repeat (first | (with_reducible first | exact HB.out | apply below_alloc | apply pw_below_drewN | apply below_drew1) | exact HB.out | exact Below.refl _ _))) A10.out).mono ?_); rintro e w13 ⟨rfl, hb⟩; have n0_ := Aside0.mk (below_step (by repeat (first | (with_reducible first | exact HB.out | apply below_alloc | apply pw_below_drewN | apply below_drew1) | exact HB.out | exact Below.refl _ _)) hb); clear HB; have HB := n0_; clear n0_; (try clear hb); (try clear hb2); (try clear hk); (try clear hi)))
        go_ret
        exact ⟨by first | rfl | (simp [errW_none, errW_some] <;> rfl) | (simp [*, errW_none, errW_some] <;> rfl), by repeat (first | (with_reducible first | exact HB.out | apply below_alloc | apply pw_below_drewN | apply below_drew1) | exact HB.out | exact Below.refl _ _)⟩
      · rw [if_neg c9] at H
        have c9b0 : (t198.toList == ([] : List UInt8)) = false := beq_eq_false_iff_ne.mpr c9
        have c9b1 : (t198.toList != ([] : List UInt8)) = true := bne_iff_ne.mpr c9
        exact absurd (H.trans (congrArg some HRT.out)) (by simp)
    · rw [if_neg c8] at H
      have c8b0 : (t197.toList == ([] : List UInt8)) = false := beq_eq_false_iff_ne.mpr c8
      have c8b1 : (t197.toList != ([] : List UInt8)) = true := bne_iff_ne.mpr c8
      exact absurd (H.trans (congrArg some HRT.out)) (by simp)
  · rw [if_neg c7] at H
    have c7b0 : (t199 == 0) = false := beq_eq_false_iff_ne.mpr c7
    have c7b1 : (t199 != 0) = true := bne_iff_ne.mpr c7
    by_cases c14 : t197.size + a2.size ≤ 9223372036854775807
    · rw [if_pos c14] at H
      have c14b0 := eq_true c14
      have c14b1 : decide (t197.size + a2.size ≤ 9223372036854775807) = true := decide_eq_true c14
      try have c14b2 : (9223372036854775807 < t197.size + a2.size) = False := eq_false (Nat.not_lt.2 c14)
      replace H := Option.bind_eq_some_iff.mp H
      obtain ⟨⟨t201, t202⟩, A150, H⟩ := H
      replace H : ((glyph_Of.f k t197).bind fun bt203 => (if t197.toList = ([] : List UInt8) then (rifflelaw02_GlyphBack.j0 k a0 a1 a2 t198 true) else (if t201 = a0 then (if t202 = (t197.size : Int) then (if bt203.1 = a0 then (if bt203.2 = true then ((glyph_Sign.f a1).bind fun t205 => (if t205.toList = t197.toList then (rifflelaw02_GlyphBack.j0 k a0 a1 a2 t198 (a1 != a0)) else (rifflelaw02_GlyphBack.j0 k a0 a1 a2 t198 false))) else (rifflelaw02_GlyphBack.j0 k a0 a1 a2 t198 true)) else (rifflelaw02_GlyphBack.j0 k a0 a1 a2 t198 true)) else (rifflelaw02_GlyphBack.j0 k a0 a1 a2 t198 true)) else (rifflelaw02_GlyphBack.j0 k a0 a1 a2 t198 true)))) = some r := H
      have A15 := Aside0.mk A150
      clear A150
      replace H := Option.bind_eq_some_iff.mp H
      obtain ⟨⟨t203, t204⟩, A160, H⟩ := H
      replace H : (if t197.toList = ([] : List UInt8) then (rifflelaw02_GlyphBack.j0 k a0 a1 a2 t198 true) else (if t201 = a0 then (if t202 = (t197.size : Int) then (if t203 = a0 then (if t204 = true then ((glyph_Sign.f a1).bind fun t205 => (if t205.toList = t197.toList then (rifflelaw02_GlyphBack.j0 k a0 a1 a2 t198 (a1 != a0)) else (rifflelaw02_GlyphBack.j0 k a0 a1 a2 t198 false))) else (rifflelaw02_GlyphBack.j0 k a0 a1 a2 t198 true)) else (rifflelaw02_GlyphBack.j0 k a0 a1 a2 t198 true)) else (rifflelaw02_GlyphBack.j0 k a0 a1 a2 t198 true)) else (rifflelaw02_GlyphBack.j0 k a0 a1 a2 t198 true))) = some r := H
      have A16 := Aside0.mk A160
      clear A160
      have HC17 := Aside0.mk H
      clear H
      go_enter Tryd.func6, Tryd.ntmps6
      go_upto_region 6 with (first | ((with_reducible refine gate_callee (f := 19) rfl ?_); refine goesL_ (some 18) rfl rfl Tryd.func19 (by kernel_rfl) rfl #[.int .i64 a0] rfl (by (try simp only [List.map_toArray, List.map_cons, List.map_nil]); first | done | rfl | (simp only [List.length_drop, List.length_take]; rfl) | (simp [*] <;> (repeat' (first | rfl | apply And.intro)))) ?_; (with_reducible refine (glyph_Sign.calls a0 t197 _ (GL.below HG.out (by repeat (first | (with_reducible first | exact HB.out | apply below_alloc | apply pw_below_drewN | apply below_drew1) | exact HB.out | exact Below.refl _ _))) A4.out).mono ?_); rintro e w18 ⟨rfl, hb⟩; refine ⟨_, rfl, ?_⟩; have n0_ := Aside0.mk (below_step (by repeat (first | (with_reducible first | exact HB.out | apply below_alloc | apply pw_below_drewN | apply below_drew1) | exact HB.out | exact Below.refl _ _)) hb); clear HB; have HB := n0_; clear n0_; (try clear hb); (try clear hb2); (try clear hk); (try clear hi)) | ((with_reducible refine gate_callee (f := 21) rfl ?_); refine goesL_ (some 20) rfl rfl Tryd.func21 (by kernel_rfl) rfl #[.int .i64 a0] rfl (by (try simp only [List.map_toArray, List.map_cons, List.map_nil]); first | done | rfl | (simp only [List.length_drop, List.length_take]; rfl) | (simp [*] <;> (repeat' (first | rfl | apply And.intro)))) ?_; (with_reducible refine (glyph_Word.calls a0 t198 _ (GL.below HG.out (by repeat (first | (with_reducible first | exact HB.out | apply below_alloc | apply pw_below_drewN | apply below_drew1) | exact HB.out | exact Below.refl _ _))) A5.out).mono ?_); rintro e w19 ⟨rfl, hb⟩; refine ⟨_, rfl, ?_⟩; have n0_ := Aside0.mk (below_step (by repeat (first | (with_reducible first | exact HB.out | apply below_alloc | apply pw_below_drewN | apply below_drew1) | exact HB.out | exact Below.refl _ _)) hb); clear HB; have HB := n0_; clear n0_; (try clear hb); (try clear hb2); (try clear hk); (try clear hi)) | ((with_reducible refine gate_callee (f := 23) rfl ?_); refine goesL_ (some 22) rfl rfl Tryd.func23 (by kernel_rfl) rfl #[.int .i64 a0] rfl (by (try simp only [List.map_toArray, List.map_cons, List.map_nil]); first | done | rfl | (simp only [List.length_drop, List.length_take]; rfl) | (simp [*] <;> (repeat' (first | rfl | apply And.intro)))) ?_; (with_reducible refine (glyph_Class.calls a0 t199 _ (GL.below HG.out (by repeat (first | (with_reducible first | exact HB.out | apply below_alloc | apply pw_below_drewN | apply below_drew1) | exact HB.out | exact Below.refl _ _))) A6.out).mono ?_); rintro e w' ⟨rfl, ⟨nd, rfl⟩⟩; refine ⟨_, rfl, ?_⟩) | ((with_reducible refine gate_callee (f := 12) rfl ?_); refine goesL_ (some 37) rfl rfl Tryd.func12 (by kernel_rfl) rfl #[.string (t197 ++ a2)] rfl (by (try simp only [List.map_toArray, List.map_cons, List.map_nil]); first | done | rfl | (simp only [List.length_drop, List.length_take]; rfl) | (simp [*] <;> (repeat' (first | rfl | apply And.intro)))) ?_; (with_reducible refine (glyph_First.calls k (t197 ++ a2) t201 t202 _ (GL.below HG.out (by repeat (first | (with_reducible first | exact HB.out | apply below_alloc | apply pw_below_drewN | apply below_drew1) | exact HB.out | exact Below.refl _ _))) A15.out).mono ?_); rintro e w20 ⟨rfl, hb⟩; refine ⟨_, rfl, ?_⟩; have n0_ := Aside0.mk (below_step (by repeat (first | (with_reducible first | exact HB.out | apply below_alloc | apply pw_below_drewN | apply below_drew1) | exact HB.out | exact Below.refl _ _)) hb); clear HB; have HB := n0_; clear n0_; (try clear hb); (try clear hb2); (try clear hk); (try clear hi)) | ((with_reducible refine gate_callee (f := 15) rfl ?_); refine goesL_ (some 42) rfl rfl Tryd.func15 (by kernel_rfl) rfl #[.string t197] rfl (by (try simp only [List.map_toArray, List.map_cons, List.map_nil]); first | done | rfl | (simp only [List.length_drop, List.length_take]; rfl) | (simp [*] <;> (repeat' (first | rfl | apply And.intro)))) ?_; (with_reducible refine (glyph_Of.calls k t197 t203 t204 _ (GL.below HG.out (by repeat (first | (with_reducible first | exact HB.out | apply below_alloc | apply pw_below_drewN | apply below_drew1) | exact HB.out | exact Below.refl _ _))) A16.out).mono ?_); rintro e w21 ⟨rfl, hb⟩; refine ⟨_, rfl, ?_⟩; have n0_ := Aside0.mk (below_step (by repeat (first | (with_reducible first | exact HB.out | apply below_alloc | apply pw_below_drewN | apply below_drew1) | exact HB.out | exact Below.refl _ _)) hb); clear HB; have HB := n0_; clear n0_; (try clear hb); (try clear hb2); (try clear hk); (try clear hi)))
      (try simp only [Act.put, List.setIfInBounds_toArray, List.set_cons_zero, List.set_cons_succ])
      go_cut [77] (fun v77 wc => ∃ (kq : Nat) (x77_16 : Bool), v77 = .bool x77_16 ∧ Aside0 (rifflelaw02_GlyphBack.j0 kq a0 a1 a2 t198 x77_16 = some r) ∧ Aside0 (kq ≤ k) ∧ Aside0 (Below w.heap.size w wc))
      case first =>
        have H := HC17.out
        clear HC17
        by_cases c22 : t197.toList = ([] : List UInt8)
        · rw [if_pos c22] at H
          have c22b0 : (t197.toList == ([] : List UInt8)) = true := beq_iff_eq.mpr c22
          have c22b1 : (t197.toList != ([] : List UInt8)) = false := bne_eq_false_iff_eq.mpr c22
          clear c22
          (first | rw [c22b0] | (simp only [i64_w, i32_w]; rw [c22b0]) | skip)
          have H' := Aside0.mk H
          clear H
          go_wp2
          go_meet
          case rel => exact ⟨_, (true), (by first | rfl | (simp; done) | (simp [*]; done)), H', ⟨by first | omega | exact Nat.le_refl _⟩, ⟨by repeat (first | (with_reducible first | exact HB.out | apply below_alloc | apply pw_below_drewN | apply below_drew1) | exact HB.out | exact Below.refl _ _)⟩⟩
        · rw [if_neg c22] at H
          have c22b0 : (t197.toList == ([] : List UInt8)) = false := beq_eq_false_iff_ne.mpr c22
          have c22b1 : (t197.toList != ([] : List UInt8)) = true := bne_iff_ne.mpr c22
          (first | rw [c22b0] | (simp only [i64_w, i32_w]; rw [c22b0]) | skip)
          by_cases c23 : t201 = a0
          · rw [if_pos c23] at H
            have c23b0 : (t201 == a0) = true := beq_iff_eq.mpr c23
            have c23b1 : (t201 != a0) = false := bne_eq_false_iff_eq.mpr c23
            clear c23
            by_cases c24 : t202 = (t197.size : Int)
            · rw [if_pos c24] at H
              have c24b0 : (t202 == (t197.size : Int)) = true := beq_iff_eq.mpr c24
              have c24b1 : (t202 != (t197.size : Int)) = false := bne_eq_false_iff_eq.mpr c24
              clear c24
              by_cases c25 : t203 = a0
              · rw [if_pos c25] at H
                have c25b0 : (t203 == a0) = true := beq_iff_eq.mpr c25
                have c25b1 : (t203 != a0) = false := bne_eq_false_iff_eq.mpr c25
                clear c25
                by_cases c26 : t204 = true
                · subst c26
                  have H1 : ((glyph_Sign.f a1).bind fun t205 => (if t205.toList = t197.toList then (rifflelaw02_GlyphBack.j0 k a0 a1 a2 t198 (a1 != a0)) else (rifflelaw02_GlyphBack.j0 k a0 a1 a2 t198 false))) = some r := by rw [if_pos rfl] at H; exact H
                  clear H
                  have H := H1
                  clear H1
                  replace H := Option.bind_eq_some_iff.mp H
                  obtain ⟨t205, A270, H⟩ := H
                  replace H : (if t205.toList = t197.toList then (rifflelaw02_GlyphBack.j0 k a0 a1 a2 t198 (a1 != a0)) else (rifflelaw02_GlyphBack.j0 k a0 a1 a2 t198 false)) = some r := H
                  have A27 := Aside0.mk A270
                  clear A270
                  by_cases c28 : t205.toList = t197.toList
                  · rw [if_pos c28] at H
                    have c28b0 : (t205.toList == t197.toList) = true := beq_iff_eq.mpr c28
                    have c28b1 : (t205.toList != t197.toList) = false := bne_eq_false_iff_eq.mpr c28
                    clear c28
                    have H' := Aside0.mk H
                    clear H
                    go_wp2_with (first | (go_at_call 19; (with_reducible refine (glyph_Sign.calls a1 t205 _ (GL.below HG.out (by repeat (first | (with_reducible first | exact HB.out | apply below_alloc | apply pw_below_drewN | apply below_drew1) | exact HB.out | exact Below.refl _ _))) A27.out).mono ?_); rintro e w29 ⟨rfl, hb⟩; have n0_ := Aside0.mk (below_step (by repeat (first | (with_reducible first | exact HB.out | apply below_alloc | apply pw_below_drewN | apply below_drew1) | exact HB.out | exact Below.refl _ _)) hb); clear HB; have HB := n0_; clear n0_; (try clear hb); (try clear hb2); (try clear hk); (try clear hi)))
                    go_meet
                    case rel => exact ⟨_, ((a1 != a0)), (by first | rfl | (simp; done) | (simp [*]; done)), H', ⟨by first | omega | exact Nat.le_refl _⟩, ⟨by repeat (first | (with_reducible first | exact HB.out | apply below_alloc | apply pw_below_drewN | apply below_drew1) | exact HB.out | exact Below.refl _ _)⟩⟩
                  · rw [if_neg c28] at H
                    have c28b0 : (t205.toList == t197.toList) = false := beq_eq_false_iff_ne.mpr c28
                    have c28b1 : (t205.toList != t197.toList) = true := bne_iff_ne.mpr c28
                    have H' := Aside0.mk H
                    clear H
                    go_wp2_with (first | (go_at_call 19; (with_reducible refine (glyph_Sign.calls a1 t205 _ (GL.below HG.out (by repeat (first | (with_reducible first | exact HB.out | apply below_alloc | apply pw_below_drewN | apply below_drew1) | exact HB.out | exact Below.refl _ _))) A27.out).mono ?_); rintro e w30 ⟨rfl, hb⟩; have n0_ := Aside0.mk (below_step (by repeat (first | (with_reducible first | exact HB.out | apply below_alloc | apply pw_below_drewN | apply below_drew1) | exact HB.out | exact Below.refl _ _)) hb); clear HB; have HB := n0_; clear n0_; (try clear hb); (try clear hb2); (try clear hk); (try clear hi)))
                    go_meet
                    case rel => exact ⟨_, (false), (by first | rfl | (simp; done) | (simp [*]; done)), H', ⟨by first | omega | exact Nat.le_refl _⟩, ⟨by repeat (first | (with_reducible first | exact HB.out | apply below_alloc | apply pw_below_drewN | apply below_drew1) | exact HB.out | exact Below.refl _ _)⟩⟩
                · replace c26 := Bool.eq_false_iff.mpr c26
                  subst c26
                  have H1 : (rifflelaw02_GlyphBack.j0 k a0 a1 a2 t198 true) = some r := by rw [if_neg (show ¬ (false = true) by decide)] at H; exact H
                  clear H
                  have H := H1
                  clear H1
                  have H' := Aside0.mk H
                  clear H
                  go_wp2
                  go_meet
                  case rel => exact ⟨_, (true), (by first | rfl | (simp; done) | (simp [*]; done)), H', ⟨by first | omega | exact Nat.le_refl _⟩, ⟨by repeat (first | (with_reducible first | exact HB.out | apply below_alloc | apply pw_below_drewN | apply below_drew1) | exact HB.out | exact Below.refl _ _)⟩⟩
              · rw [if_neg c25] at H
                have c25b0 : (t203 == a0) = false := beq_eq_false_iff_ne.mpr c25
                have c25b1 : (t203 != a0) = true := bne_iff_ne.mpr c25
                have H' := Aside0.mk H
                clear H
                go_wp2
                go_meet
                case rel => exact ⟨_, (true), (by first | rfl | (simp; done) | (simp [*]; done)), H', ⟨by first | omega | exact Nat.le_refl _⟩, ⟨by repeat (first | (with_reducible first | exact HB.out | apply below_alloc | apply pw_below_drewN | apply below_drew1) | exact HB.out | exact Below.refl _ _)⟩⟩
            · rw [if_neg c24] at H
              have c24b0 : (t202 == (t197.size : Int)) = false := beq_eq_false_iff_ne.mpr c24
              have c24b1 : (t202 != (t197.size : Int)) = true := bne_iff_ne.mpr c24
              have H' := Aside0.mk H
              clear H
              go_wp2
              go_meet
              case rel => exact ⟨_, (true), (by first | rfl | (simp; done) | (simp [*]; done)), H', ⟨by first | omega | exact Nat.le_refl _⟩, ⟨by repeat (first | (with_reducible first | exact HB.out | apply below_alloc | apply pw_below_drewN | apply below_drew1) | exact HB.out | exact Below.refl _ _)⟩⟩
          · rw [if_neg c23] at H
            have c23b0 : (t201 == a0) = false := beq_eq_false_iff_ne.mpr c23
            have c23b1 : (t201 != a0) = true := bne_iff_ne.mpr c23
            have H' := Aside0.mk H
            clear H
            go_wp2
            go_meet
            case rel => exact ⟨_, (true), (by first | rfl | (simp; done) | (simp [*]; done)), H', ⟨by first | omega | exact Nat.le_refl _⟩, ⟨by repeat (first | (with_reducible first | exact HB.out | apply below_alloc | apply pw_below_drewN | apply below_drew1) | exact HB.out | exact Below.refl _ _)⟩⟩
      case rest =>
        clear HC17
        try clear c1
        try clear c2
        try clear p2
        try clear c6
        try clear c7
        try clear c7b0
        try clear c7b1
        try clear c8
        try clear c8b0
        try clear c8b1
        try clear c9
        try clear c9b0
        try clear c9b1
        try clear c12
        try clear c14
        try clear c14b0
        try clear c14b1
        try clear c14b2
        try clear c15
        try clear c19
        try clear c21
        try clear c22
        try clear c22b0
        try clear c22b1
        try clear c23
        try clear c23b0
        try clear c23b1
        try clear c24
        try clear c24b0
        try clear c24b1
        try clear c25
        try clear c25b0
        try clear c25b1
        try clear c26
        try clear c28
        try clear c28b0
        try clear c28b1
        obtain ⟨kq, x77_16, rfl, HA, HJ16, HB⟩ := hcut
        cases kq with
        | zero => exact absurd HA.out (by simp [rifflelaw02_GlyphBack.j0])
        | succ kj16 =>
          have H := HA.out
          clear HA
          simp only [rifflelaw02_GlyphBack.j0] at H
          by_cases c31 : x77_16 = true
          · subst c31
            have H1 : (some false) = some r := by rw [if_pos rfl] at H; exact H
            clear H
            have H := H1
            clear H1
            exact absurd (H.trans (congrArg some HRT.out)) (by simp)
          · replace c31 := Bool.eq_false_iff.mpr c31
            subst c31
            have H1 : (if t198.toList = ([] : List UInt8) then ((rifflelaw02_lives.f kj16).bind fun t206 => (some t206)) else (if 1 + t198.size ≤ 9223372036854775807 then (if ((⟨#[96]⟩ : ByteArray) ++ t198).size + 1 ≤ 9223372036854775807 then (if (((⟨#[96]⟩ : ByteArray) ++ t198) ++ (⟨#[32]⟩ : ByteArray)).size + a2.size ≤ 9223372036854775807 then ((glyph_First.f kj16 ((((⟨#[96]⟩ : ByteArray) ++ t198) ++ (⟨#[32]⟩ : ByteArray)) ++ a2)).bind fun bt207 => ((glyph_Named.f kj16 t198).bind fun bt209 => (if bt207.1 = a0 then (if bt207.2 = (wrap64 ((t198.size : Int) + 1)) then (if bt209.1 = a0 then (if bt209.2 = true then ((glyph_Word.f a1).bind fun t211 => (if t211.toList = t198.toList then (if a1 = a0 then ((rifflelaw02_lives.f kj16).bind fun t212 => (some t212)) else (some false)) else ((rifflelaw02_lives.f kj16).bind fun t213 => (some t213)))) else (some false)) else (some false)) else (some false)) else (some false)))) else (none)) else (none)) else (none))) = some r := by rw [if_neg (show ¬ (false = true) by decide)] at H; exact H
            clear H
            have H := H1
            clear H1
            by_cases c32 : t198.toList = ([] : List UInt8)
            · rw [if_pos c32] at H
              have c32b0 : (t198.toList == ([] : List UInt8)) = true := beq_iff_eq.mpr c32
              have c32b1 : (t198.toList != ([] : List UInt8)) = false := bne_eq_false_iff_eq.mpr c32
              clear c32
              replace H := Option.bind_eq_some_iff.mp H
              obtain ⟨t206, A330, H⟩ := H
              replace H : (some t206) = some r := H
              have A33 := Aside0.mk A330
              clear A330
              obtain rfl := Option.some.inj H
              go_wp2_with (first | ((with_reducible refine gate_callee (f := 14) rfl ?_); refine goesL_ (some 80) rfl rfl Tryd.func14 (by kernel_rfl) rfl #[] rfl (by (try simp only [List.map_toArray, List.map_cons, List.map_nil]); first | done | rfl | (simp only [List.length_drop, List.length_take]; rfl) | (simp [*] <;> (repeat' (first | rfl | apply And.intro)))) ?_; (with_reducible refine (rifflelaw02_lives.calls kj16  t206 _ (GL.below HG.out (by repeat (first | (with_reducible first | exact HB.out | apply below_alloc | apply pw_below_drewN | apply below_drew1) | exact HB.out | exact Below.refl _ _))) A33.out).mono ?_); rintro e w34 ⟨rfl, hb⟩; refine ⟨_, rfl, ?_⟩; have n0_ := Aside0.mk (below_step (by repeat (first | (with_reducible first | exact HB.out | apply below_alloc | apply pw_below_drewN | apply below_drew1) | exact HB.out | exact Below.refl _ _)) hb); clear HB; have HB := n0_; clear n0_; (try clear hb); (try clear hb2); (try clear hk); (try clear hi)))
              go_ret
              exact ⟨by first | rfl | (simp [errW_none, errW_some] <;> rfl) | (simp [*, errW_none, errW_some] <;> rfl), by repeat (first | (with_reducible first | exact HB.out | apply below_alloc | apply pw_below_drewN | apply below_drew1) | exact HB.out | exact Below.refl _ _)⟩
            · rw [if_neg c32] at H
              have c32b0 : (t198.toList == ([] : List UInt8)) = false := beq_eq_false_iff_ne.mpr c32
              have c32b1 : (t198.toList != ([] : List UInt8)) = true := bne_iff_ne.mpr c32
              by_cases c35 : 1 + t198.size ≤ 9223372036854775807
              · rw [if_pos c35] at H
                have c35b0 := eq_true c35
                have c35b1 : decide (1 + t198.size ≤ 9223372036854775807) = true := decide_eq_true c35
                try have c35b2 : (9223372036854775807 < 1 + t198.size) = False := eq_false (Nat.not_lt.2 c35)
                by_cases c36 : ((⟨#[96]⟩ : ByteArray) ++ t198).size + 1 ≤ 9223372036854775807
                · rw [if_pos c36] at H
                  have c36b0 := eq_true c36
                  have c36b1 : decide (((⟨#[96]⟩ : ByteArray) ++ t198).size + 1 ≤ 9223372036854775807) = true := decide_eq_true c36
                  try have c36b2 : (9223372036854775807 < ((⟨#[96]⟩ : ByteArray) ++ t198).size + 1) = False := eq_false (Nat.not_lt.2 c36)
                  try have c36b4 : (9223372036854775807 < 1 + t198.size + 1) = False := eq_false (by have h_ := c36; simp only [ByteArray.size_append] at h_; have e0_ : (⟨#[96]⟩ : ByteArray).size = 1 := rfl; omega)
                  by_cases c37 : (((⟨#[96]⟩ : ByteArray) ++ t198) ++ (⟨#[32]⟩ : ByteArray)).size + a2.size ≤ 9223372036854775807
                  · rw [if_pos c37] at H
                    have c37b0 := eq_true c37
                    have c37b1 : decide ((((⟨#[96]⟩ : ByteArray) ++ t198) ++ (⟨#[32]⟩ : ByteArray)).size + a2.size ≤ 9223372036854775807) = true := decide_eq_true c37
                    try have c37b2 : (9223372036854775807 < (((⟨#[96]⟩ : ByteArray) ++ t198) ++ (⟨#[32]⟩ : ByteArray)).size + a2.size) = False := eq_false (Nat.not_lt.2 c37)
                    try have c37b4 : (9223372036854775807 < 1 + t198.size + 1 + a2.size) = False := eq_false (by have h_ := c37; simp only [ByteArray.size_append] at h_; have e0_ : (⟨#[96]⟩ : ByteArray).size = 1 := rfl; have e1_ : (⟨#[32]⟩ : ByteArray).size = 1 := rfl; omega)
                    replace H := Option.bind_eq_some_iff.mp H
                    obtain ⟨⟨t207, t208⟩, A380, H⟩ := H
                    replace H : ((glyph_Named.f kj16 t198).bind fun bt209 => (if t207 = a0 then (if t208 = (wrap64 ((t198.size : Int) + 1)) then (if bt209.1 = a0 then (if bt209.2 = true then ((glyph_Word.f a1).bind fun t211 => (if t211.toList = t198.toList then (if a1 = a0 then ((rifflelaw02_lives.f kj16).bind fun t212 => (some t212)) else (some false)) else ((rifflelaw02_lives.f kj16).bind fun t213 => (some t213)))) else (some false)) else (some false)) else (some false)) else (some false))) = some r := H
                    have A38 := Aside0.mk A380
                    clear A380
                    replace H := Option.bind_eq_some_iff.mp H
                    obtain ⟨⟨t209, t210⟩, A390, H⟩ := H
                    replace H : (if t207 = a0 then (if t208 = (wrap64 ((t198.size : Int) + 1)) then (if t209 = a0 then (if t210 = true then ((glyph_Word.f a1).bind fun t211 => (if t211.toList = t198.toList then (if a1 = a0 then ((rifflelaw02_lives.f kj16).bind fun t212 => (some t212)) else (some false)) else ((rifflelaw02_lives.f kj16).bind fun t213 => (some t213)))) else (some false)) else (some false)) else (some false)) else (some false)) = some r := H
                    have A39 := Aside0.mk A390
                    clear A390
                    by_cases c40 : t207 = a0
                    · rw [if_pos c40] at H
                      have c40b0 : (t207 == a0) = true := beq_iff_eq.mpr c40
                      have c40b1 : (t207 != a0) = false := bne_eq_false_iff_eq.mpr c40
                      clear c40
                      by_cases c41 : t208 = (wrap64 ((t198.size : Int) + 1))
                      · rw [if_pos c41] at H
                        have c41b0 : (t208 == (wrap64 ((t198.size : Int) + 1))) = true := beq_iff_eq.mpr c41
                        have c41b1 : (t208 != (wrap64 ((t198.size : Int) + 1))) = false := bne_eq_false_iff_eq.mpr c41
                        (try (have w_c41 : wrap64 ((t198.size : Int) + 1) = (t198.size : Int) + 1 := by unfold wrap64; omega); (try (have c41u0 := c41b0; rw [w_c41] at c41u0)); (try (have c41u1 := c41b1; rw [w_c41] at c41u1)); clear w_c41)
                        clear c41
                        by_cases c42 : t209 = a0
                        · rw [if_pos c42] at H
                          have c42b0 : (t209 == a0) = true := beq_iff_eq.mpr c42
                          have c42b1 : (t209 != a0) = false := bne_eq_false_iff_eq.mpr c42
                          clear c42
                          by_cases c43 : t210 = true
                          · subst c43
                            have H1 : ((glyph_Word.f a1).bind fun t211 => (if t211.toList = t198.toList then (if a1 = a0 then ((rifflelaw02_lives.f kj16).bind fun t212 => (some t212)) else (some false)) else ((rifflelaw02_lives.f kj16).bind fun t213 => (some t213)))) = some r := by rw [if_pos rfl] at H; exact H
                            clear H
                            have H := H1
                            clear H1
                            replace H := Option.bind_eq_some_iff.mp H
                            obtain ⟨t211, A440, H⟩ := H
                            replace H : (if t211.toList = t198.toList then (if a1 = a0 then ((rifflelaw02_lives.f kj16).bind fun t212 => (some t212)) else (some false)) else ((rifflelaw02_lives.f kj16).bind fun t213 => (some t213))) = some r := H
                            have A44 := Aside0.mk A440
                            clear A440
                            by_cases c45 : t211.toList = t198.toList
                            · rw [if_pos c45] at H
                              have c45b0 : (t211.toList == t198.toList) = true := beq_iff_eq.mpr c45
                              have c45b1 : (t211.toList != t198.toList) = false := bne_eq_false_iff_eq.mpr c45
                              clear c45
                              by_cases c46 : a1 = a0
                              · rw [if_pos c46] at H
                                have c46b0 : (a1 == a0) = true := beq_iff_eq.mpr c46
                                have c46b1 : (a1 != a0) = false := bne_eq_false_iff_eq.mpr c46
                                clear c46
                                replace H := Option.bind_eq_some_iff.mp H
                                obtain ⟨t212, A470, H⟩ := H
                                replace H : (some t212) = some r := H
                                have A47 := Aside0.mk A470
                                clear A470
                                obtain rfl := Option.some.inj H
                                go_wp2_with (first | ((with_reducible refine gate_callee (f := 12) rfl ?_); refine goesL_ (some 87) rfl rfl Tryd.func12 (by kernel_rfl) rfl #[.string ((((⟨#[96]⟩ : ByteArray) ++ t198) ++ (⟨#[32]⟩ : ByteArray)) ++ a2)] rfl (by (try simp only [List.map_toArray, List.map_cons, List.map_nil]); first | done | rfl | (simp only [List.length_drop, List.length_take]; rfl) | (simp [*] <;> (repeat' (first | rfl | apply And.intro)))) ?_; (with_reducible refine (glyph_First.calls kj16 ((((⟨#[96]⟩ : ByteArray) ++ t198) ++ (⟨#[32]⟩ : ByteArray)) ++ a2) t207 t208 _ (GL.below HG.out (by repeat (first | (with_reducible first | exact HB.out | apply below_alloc | apply pw_below_drewN | apply below_drew1) | exact HB.out | exact Below.refl _ _))) A38.out).mono ?_); rintro e w48 ⟨rfl, hb⟩; refine ⟨_, rfl, ?_⟩; have n0_ := Aside0.mk (below_step (by repeat (first | (with_reducible first | exact HB.out | apply below_alloc | apply pw_below_drewN | apply below_drew1) | exact HB.out | exact Below.refl _ _)) hb); clear HB; have HB := n0_; clear n0_; (try clear hb); (try clear hb2); (try clear hk); (try clear hi)) | ((with_reducible refine gate_callee (f := 16) rfl ?_); refine goesL_ (some 92) rfl rfl Tryd.func16 (by kernel_rfl) rfl #[.string t198] rfl (by (try simp only [List.map_toArray, List.map_cons, List.map_nil]); first | done | rfl | (simp only [List.length_drop, List.length_take]; rfl) | (simp [*] <;> (repeat' (first | rfl | apply And.intro)))) ?_; (with_reducible refine (glyph_Named.calls kj16 t198 t209 true _ (GL.below HG.out (by repeat (first | (with_reducible first | exact HB.out | apply below_alloc | apply pw_below_drewN | apply below_drew1) | exact HB.out | exact Below.refl _ _))) A39.out).mono ?_); rintro e w49 ⟨rfl, hb⟩; refine ⟨_, rfl, ?_⟩; have n0_ := Aside0.mk (below_step (by repeat (first | (with_reducible first | exact HB.out | apply below_alloc | apply pw_below_drewN | apply below_drew1) | exact HB.out | exact Below.refl _ _)) hb); clear HB; have HB := n0_; clear n0_; (try clear hb); (try clear hb2); (try clear hk); (try clear hi)) | (go_at_call 21; (with_reducible refine (glyph_Word.calls a1 t211 _ (GL.below HG.out (by repeat (first | (with_reducible first | exact HB.out | apply below_alloc | apply pw_below_drewN | apply below_drew1) | exact HB.out | exact Below.refl _ _))) A44.out).mono ?_); rintro e w50 ⟨rfl, hb⟩; have n0_ := Aside0.mk (below_step (by repeat (first | (with_reducible first | exact HB.out | apply below_alloc | apply pw_below_drewN | apply below_drew1) | exact HB.out | exact Below.refl _ _)) hb); clear HB; have HB := n0_; clear n0_; (try clear hb); (try clear hb2); (try clear hk); (try clear hi)) | (go_at_call 14; (with_reducible refine (rifflelaw02_lives.calls kj16  t212 _ (GL.below HG.out (by repeat (first | (with_reducible first | exact HB.out | apply below_alloc | apply pw_below_drewN | apply below_drew1) | exact HB.out | exact Below.refl _ _))) A47.out).mono ?_); rintro e w51 ⟨rfl, hb⟩; have n0_ := Aside0.mk (below_step (by repeat (first | (with_reducible first | exact HB.out | apply below_alloc | apply pw_below_drewN | apply below_drew1) | exact HB.out | exact Below.refl _ _)) hb); clear HB; have HB := n0_; clear n0_; (try clear hb); (try clear hb2); (try clear hk); (try clear hi)))
                                go_ret
                                exact ⟨by first | rfl | (simp [errW_none, errW_some] <;> rfl) | (simp [*, errW_none, errW_some] <;> rfl), by repeat (first | (with_reducible first | exact HB.out | apply below_alloc | apply pw_below_drewN | apply below_drew1) | exact HB.out | exact Below.refl _ _)⟩
                              · rw [if_neg c46] at H
                                have c46b0 : (a1 == a0) = false := beq_eq_false_iff_ne.mpr c46
                                have c46b1 : (a1 != a0) = true := bne_iff_ne.mpr c46
                                exact absurd (H.trans (congrArg some HRT.out)) (by simp)
                            · rw [if_neg c45] at H
                              have c45b0 : (t211.toList == t198.toList) = false := beq_eq_false_iff_ne.mpr c45
                              have c45b1 : (t211.toList != t198.toList) = true := bne_iff_ne.mpr c45
                              replace H := Option.bind_eq_some_iff.mp H
                              obtain ⟨t213, A520, H⟩ := H
                              replace H : (some t213) = some r := H
                              have A52 := Aside0.mk A520
                              clear A520
                              obtain rfl := Option.some.inj H
                              go_wp2_with (first | ((with_reducible refine gate_callee (f := 12) rfl ?_); refine goesL_ (some 87) rfl rfl Tryd.func12 (by kernel_rfl) rfl #[.string ((((⟨#[96]⟩ : ByteArray) ++ t198) ++ (⟨#[32]⟩ : ByteArray)) ++ a2)] rfl (by (try simp only [List.map_toArray, List.map_cons, List.map_nil]); first | done | rfl | (simp only [List.length_drop, List.length_take]; rfl) | (simp [*] <;> (repeat' (first | rfl | apply And.intro)))) ?_; (with_reducible refine (glyph_First.calls kj16 ((((⟨#[96]⟩ : ByteArray) ++ t198) ++ (⟨#[32]⟩ : ByteArray)) ++ a2) t207 t208 _ (GL.below HG.out (by repeat (first | (with_reducible first | exact HB.out | apply below_alloc | apply pw_below_drewN | apply below_drew1) | exact HB.out | exact Below.refl _ _))) A38.out).mono ?_); rintro e w53 ⟨rfl, hb⟩; refine ⟨_, rfl, ?_⟩; have n0_ := Aside0.mk (below_step (by repeat (first | (with_reducible first | exact HB.out | apply below_alloc | apply pw_below_drewN | apply below_drew1) | exact HB.out | exact Below.refl _ _)) hb); clear HB; have HB := n0_; clear n0_; (try clear hb); (try clear hb2); (try clear hk); (try clear hi)) | ((with_reducible refine gate_callee (f := 16) rfl ?_); refine goesL_ (some 92) rfl rfl Tryd.func16 (by kernel_rfl) rfl #[.string t198] rfl (by (try simp only [List.map_toArray, List.map_cons, List.map_nil]); first | done | rfl | (simp only [List.length_drop, List.length_take]; rfl) | (simp [*] <;> (repeat' (first | rfl | apply And.intro)))) ?_; (with_reducible refine (glyph_Named.calls kj16 t198 t209 true _ (GL.below HG.out (by repeat (first | (with_reducible first | exact HB.out | apply below_alloc | apply pw_below_drewN | apply below_drew1) | exact HB.out | exact Below.refl _ _))) A39.out).mono ?_); rintro e w54 ⟨rfl, hb⟩; refine ⟨_, rfl, ?_⟩; have n0_ := Aside0.mk (below_step (by repeat (first | (with_reducible first | exact HB.out | apply below_alloc | apply pw_below_drewN | apply below_drew1) | exact HB.out | exact Below.refl _ _)) hb); clear HB; have HB := n0_; clear n0_; (try clear hb); (try clear hb2); (try clear hk); (try clear hi)) | (go_at_call 21; (with_reducible refine (glyph_Word.calls a1 t211 _ (GL.below HG.out (by repeat (first | (with_reducible first | exact HB.out | apply below_alloc | apply pw_below_drewN | apply below_drew1) | exact HB.out | exact Below.refl _ _))) A44.out).mono ?_); rintro e w55 ⟨rfl, hb⟩; have n0_ := Aside0.mk (below_step (by repeat (first | (with_reducible first | exact HB.out | apply below_alloc | apply pw_below_drewN | apply below_drew1) | exact HB.out | exact Below.refl _ _)) hb); clear HB; have HB := n0_; clear n0_; (try clear hb); (try clear hb2); (try clear hk); (try clear hi)) | (go_at_call 14; (with_reducible refine (rifflelaw02_lives.calls kj16  t213 _ (GL.below HG.out (by repeat (first | (with_reducible first | exact HB.out | apply below_alloc | apply pw_below_drewN | apply below_drew1) | exact HB.out | exact Below.refl _ _))) A52.out).mono ?_); rintro e w56 ⟨rfl, hb⟩; have n0_ := Aside0.mk (below_step (by repeat (first | (with_reducible first | exact HB.out | apply below_alloc | apply pw_below_drewN | apply below_drew1) | exact HB.out | exact Below.refl _ _)) hb); clear HB; have HB := n0_; clear n0_; (try clear hb); (try clear hb2); (try clear hk); (try clear hi)))
                              go_ret
                              exact ⟨by first | rfl | (simp [errW_none, errW_some] <;> rfl) | (simp [*, errW_none, errW_some] <;> rfl), by repeat (first | (with_reducible first | exact HB.out | apply below_alloc | apply pw_below_drewN | apply below_drew1) | exact HB.out | exact Below.refl _ _)⟩
                          · replace c43 := Bool.eq_false_iff.mpr c43
                            subst c43
                            have H1 : (some false) = some r := by rw [if_neg (show ¬ (false = true) by decide)] at H; exact H
                            clear H
                            have H := H1
                            clear H1
                            exact absurd (H.trans (congrArg some HRT.out)) (by simp)
                        · rw [if_neg c42] at H
                          have c42b0 : (t209 == a0) = false := beq_eq_false_iff_ne.mpr c42
                          have c42b1 : (t209 != a0) = true := bne_iff_ne.mpr c42
                          exact absurd (H.trans (congrArg some HRT.out)) (by simp)
                      · rw [if_neg c41] at H
                        have c41b0 : (t208 == (wrap64 ((t198.size : Int) + 1))) = false := beq_eq_false_iff_ne.mpr c41
                        have c41b1 : (t208 != (wrap64 ((t198.size : Int) + 1))) = true := bne_iff_ne.mpr c41
                        (try (have w_c41 : wrap64 ((t198.size : Int) + 1) = (t198.size : Int) + 1 := by unfold wrap64; omega); (try (have c41u0 := c41b0; rw [w_c41] at c41u0)); (try (have c41u1 := c41b1; rw [w_c41] at c41u1)); clear w_c41)
                        exact absurd (H.trans (congrArg some HRT.out)) (by simp)
                    · rw [if_neg c40] at H
                      have c40b0 : (t207 == a0) = false := beq_eq_false_iff_ne.mpr c40
                      have c40b1 : (t207 != a0) = true := bne_iff_ne.mpr c40
                      exact absurd (H.trans (congrArg some HRT.out)) (by simp)
                  · rw [if_neg c37] at H
                    exact absurd H (by simp)
                · rw [if_neg c36] at H
                  exact absurd H (by simp)
              · rw [if_neg c35] at H
                exact absurd H (by simp)
    · rw [if_neg c14] at H
      exact absurd H (by simp)

/-- THE ONE PURE STATEMENT of rifflelaw02_GlyphBack: yours. -/
def rifflelaw02_GlyphBack.Pure : Prop := ∀ (a0 : Int) (a1 : Int) (a2 : ByteArray), (Lit.int .i64 a0).wf = true → (Lit.int .i64 a1).wf = true → a2.size ≤ 140737488351232 → ∃ k, rifflelaw02_GlyphBack.f k a0 a1 a2 = some true
theorem rifflelaw02_GlyphBack.walk (P : rifflelaw02_GlyphBack.Pure) (a0 : Int) (a1 : Int) (a2 : ByteArray) (w : World) (hG : GL w) (w0 : (Lit.int .i64 a0).wf = true) (w1 : (Lit.int .i64 a1).wf = true) (w2 : a2.size ≤ 140737488351232) :
    Calls Tryd.prog 6 #[.int .i64 a0, .int .i64 a1, .string a2] w fun e w' => e = .returned (.bool true) ∧ Below w.heap.size w w' := by
  obtain ⟨k, h⟩ := P a0 a1 a2 w0 w1 w2
  refine (rifflelaw02_GlyphBack.calls k a0 a1 a2 true w hG rfl h).mono ?_
  rintro e w' ⟨rfl, hd⟩
  exact ⟨rfl, hd⟩

end Go.Proofs.YtpaeefnepfppfaaDoor.Xg
