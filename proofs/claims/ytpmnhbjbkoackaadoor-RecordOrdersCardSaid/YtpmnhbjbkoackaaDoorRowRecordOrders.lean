/- The law RecordOrders, for every input the Go function answers true and leaves its arguments as they read; conditions: the listed package-level variables hold what the program's text lays in them: the row and the card out of the plain statement and the function's contract. -/
import Derived.Test.YtpmnhbjbkoackaaDoorTie
import Derived.Test.YtpmnhbjbkoackaaDoorCards
import Derived.Test.YtpmnhbjbkoackaaDoorRecOrdPure
import Derived.Test.YtpmnhbjbkoackaaDoorRd
import Derived.WalkKit
import Derived.ProofKit
import Derived.OpenShut
import Derived.ShutString
import Derived.ChangeOld
import Derived.Below
import Derived.SizedLaws
import Derived.Lay
import Derived.LaidOnce
import Derived.SevenTiedAt
import Derived.PinnedBridge
import Derived.Lib.LaidU8
import Derived.Lib.LaidTab
namespace Go.Proofs.YtpmnhbjbkoackaaDoor.recordOrders
open Go Go.ChangeShapes Go.WideShapes Go.ChangeAt Go.RowKit Go.Proofs.YtpmnhbjbkoackaaDoor Go.Proofs.YtpmnhbjbkoackaaDoor.Xo Go.Proofs.YtpmnhbjbkoackaaDoorW.PrintWords
open Go.ChangeMaps (open_string shut_string)
set_option linter.unusedVariables false
theorem own : ownKnob Tryd.prog.godebug = none := by kernel_rfl
theorem laidOut : laidOutB Tryd.prog = true := by kernel_rfl
set_option maxRecDepth 100000 in
theorem lifted (os : Os) (started : os.Started) (H : Type) (enc : TypeId × Value → H) :
    ReturnsInHanded {} Tryd.checked os 5 .any (fun w args => (Rows.recordOrdersSpec.pre enc Tryd.prog Tryd.f5 Rows.recordOrdersRow.domain false w args ∧ laidMetH Tryd.prog Rows.recordOrdersRow.laid w) ∧ sizedMet enc Tryd.prog Tryd.f5 (OpenSpec.ofChange Rows.recordOrdersSpec) false w args) (Rows.recordOrdersSpec.post enc Tryd.prog Tryd.f5 false true false false) := by
  refine wrap_all (C := Tryd.checked) (laid := Rows.recordOrdersRow.laid) own started (by kernel_rfl) Tryd.func5
    (ChangeSpec.witness_shaped (enc := enc) (C := Tryd.checked) (os := os) (X := fun w _ => laidMetH Tryd.prog Rows.recordOrdersRow.laid w) false (World.laidAll Tryd.prog os Rows.recordOrdersRow.laid) #[.agg #[.int .i64 0, .int .i64 0, .int .i64 0, .slice none 0 0], .agg #[.int .i64 0, .int .i64 0, .int .i64 0, .slice none 0 0]] 8 (World.laidAll_os _ _ _)
      (World.shaped_of_ZipB (by kernel_rfl) (by kernel_rfl)) (by kernel_rfl) (by kernel_rfl) (by kernel_rfl)
      (by rw [MakeChecks.laidMetH_plain _ _ _ (by kernel_rfl)]; exact laidMet_laidAll _ (by kernel_rfl) (by kernel_rfl))) ?_
  intro W base args ds gs before hval0 hW hsz0 hL hsh
  have hsz : (DataW.weightsEach Tryd.prog (Tryd.f5.params.toList ++ Rows.recordOrdersSpec.plain.varTypes Tryd.prog) (ds ++ gs)).all (· ≤ reachBytes) = true := hsz0
  have hval : ∀ (j : Nat) t v, Tryd.f5.params[j]? = some t → args[j]? = some v → Value.okWide Tryd.prog W .any base t v := hval0
  have hW' := hW
  obtain ⟨p, q, hA0, hV, rfl, hfz, hnd⟩ := hW
  have hA : DataW.TrodAll enc Tryd.prog W 0 (fun _ => true) true Tryd.f5.params.toList args.toList ds p := hA0
  rw [Tryd.params5] at hA hval hsz
  obtain ⟨v0, vs0, d0, ds0, p0, q0, hargs, rfl, rfl, h0, r0⟩ := trodAll_cons hA
  obtain ⟨v1, vs1, d1, ds1, p1, q1, rfl, rfl, rfl, h1, r1⟩ := trodAll_cons r0
  obtain ⟨rfl, rfl, rfl⟩ := trodAll_nil r1
  obtain rfl : args = #[v0, v1] := by cases args; simp_all
  obtain ⟨rfl, rfl⟩ := trodVars_none hV
  have k0 := h0
  have lt0 : ∀ x ∈ p0, x.block < W.heap.size := by obtain ⟨m, hm⟩ := k0; exact DataW.trod_lt m _ _ _ hm
  obtain ⟨a0_0, a0_1, a0_2, A0, l0, c0, rfl, w0_0, w0_1, w0_2, hc0, hr0, hm0, hw0⟩ := par_st3s Tryd.underlying49 Tryd.underlying3 Tryd.underlying2 Tryd.underlying2 Tryd.underlying47 (rd_int Tryd.underlying2) (by kernel_rfl) (by kernel_rfl) (by kernel_rfl) (by kernel_rfl) (by kernel_rfl) rfl rfl rfl rfl (by kernel_rfl) (hval 0 49 v0 rfl rfl) h0
  have k1 := h1
  have lt1 : ∀ x ∈ p1, x.block < W.heap.size := by obtain ⟨m, hm⟩ := k1; exact DataW.trod_lt m _ _ _ hm
  obtain ⟨a1_0, a1_1, a1_2, A1, l1, c1, rfl, w1_0, w1_1, w1_2, hc1, hr1, hm1, hw1⟩ := par_st3s Tryd.underlying49 Tryd.underlying3 Tryd.underlying2 Tryd.underlying2 Tryd.underlying47 (rd_int Tryd.underlying2) (by kernel_rfl) (by kernel_rfl) (by kernel_rfl) (by kernel_rfl) (by kernel_rfl) rfl rfl rfl rfl (by kernel_rfl) (hval 1 49 v1 rfl rfl) h1
  have gl : GL W := { maxLen := Go.Proofs.cell_of_shapedOpen_int (zero := #[.int .i64 0]) (t := 3) hsh (of_decide_eq_true (by kernel_rfl)) (by kernel_rfl) rfl (by kernel_rfl) (by kernel_rfl) Tryd.underlying3 }
  obtain ⟨k, hk⟩ := recordOrders_law a0_0 a0_1 a0_2 l0 a1_0 a1_1 a1_2 l1
  clear hA0 hval0 hsz0 hsz
  refine (rifflelaw33_RecordOrders.calls k a0_0 a0_1 a0_2 A0 c0 l0 a1_0 a1_1 a1_2 A1 c1 l1 true W gl rfl hr0 hc0 hr1 hc1 hk).mono fun e W' ⟨he, bel0⟩ => ?_
  have bel : Below W.heap.size W W' := bel0
  subst he
  exact ⟨_, rfl, _, _, _, [], _, [], hW', trodAll_mk1 (shut_bool Tryd.underlying4 _), (trodAll_cons_mk (Below.trod laidOut (by kernel_rfl) (of_decide_eq_true (by kernel_rfl)) k0 bel lt0) (trodAll_cons_mk (Below.trod laidOut (by kernel_rfl) (of_decide_eq_true (by kernel_rfl)) k1 bel lt1) trodAll_mk0)), rfl, bel.frame _, fun h => by cases h⟩
theorem over : Rows.recordOrdersRow.holds Tryd.pinned (OpenSpec.ofChange Rows.recordOrdersSpec) :=
  OpenClaim.holds_of_wide 5 Tryd.f5 rfl rfl rfl rfl rfl rfl rfl ⟨rfl, rfl, rfl, rfl, rfl⟩ rfl rfl rfl rfl rfl (by kernel_rfl) Tryd.func5 (by kernel_rfl)
    (of_decide_eq_true (by kernel_rfl)) (by unfold Func.isWrapper; first | (rw [if_pos (by decide +kernel)]; kernel_rfl) | (rw [if_neg (by decide +kernel)]; exact ⟨rfl, rfl⟩))
    (fun os started H enc _ => lifted os started H enc)
theorem card : Claim7.holds Tryd.pinned (.plain (OpenSpec.ofChange Rows.recordOrdersSpec)) Rows.recordOrdersCard :=
  Claim7.holds_tied_plain_at .later [] [.data, .pinned] true (true, "8f401570e817d5d2695e16b417e9a281c847c012d30f23d70021e760e1011696") false over (fun _ h => by cases h) (by kernel_rfl) (fun _ h => by cases h) recordOrders_row_tie rfl ⟨rfl, rfl⟩ (by kernel_rfl) rfl
    (fun f fn hf hfn => by
      obtain rfl : f = 5 := Option.some.inj ((show Tryd.prog.funcNamed "riffle/rifflelaw33.RecordOrders" = some 5 by kernel_rfl).symm.trans hf) |>.symm
      obtain rfl : fn = Tryd.f5 := (Option.some.inj (Tryd.func5.symm.trans hfn)).symm
      exact ⟨by kernel_rfl, fun j t ht => by
        rw [Tryd.params5] at ht
        have hm : t ∈ [49, 49] := by simpa using Array.mem_of_getElem? ht
        have hall : ([49, 49].all fun u => !Tryd.prog.wantsStandIn u) = true := by kernel_rfl
        exact (show Tryd.prog.wantsStandIn t = false by simpa using List.all_eq_true.1 hall t hm)⟩)
    (by kernel_rfl)
end Go.Proofs.YtpmnhbjbkoackaaDoor.recordOrders
namespace Go.Proofs.YtpmnhbjbkoackaaDoor
/-- The card, under a short name, for the claim. -/
theorem recordOrders_holds : Rows.RecordOrdersCardSaid := recordOrders.card
end Go.Proofs.YtpmnhbjbkoackaaDoor
