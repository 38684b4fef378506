/- The law DeltaViews, for every input the Go function answers true and leaves its arguments as they read; conditions: the listed package-level variables hold what the program's text lays in them: the row and the card out of the plain statement and the function's contract. -/
import Derived.Test.YtpmnhbjbkoackaaDoorTie
import Derived.Test.YtpmnhbjbkoackaaDoorCards
import Derived.Test.YtpmnhbjbkoackaaDoorPView
import Derived.WalkKit
import Derived.ProofKit
import Derived.OpenShut
import Derived.ShutString
import Derived.ChangeOld
import Derived.Below
import Derived.SizedLaws
import Derived.Lay
import Derived.LaidOnce
import Derived.SevenTiedAt
import Derived.PinnedBridge
import Derived.Lib.LaidU8
import Derived.Lib.LaidTab
namespace Go.Proofs.YtpmnhbjbkoackaaDoor.deltaViews
open Go Go.ChangeShapes Go.WideShapes Go.ChangeAt Go.RowKit Go.Proofs.YtpmnhbjbkoackaaDoor Go.Proofs.YtpmnhbjbkoackaaDoor.En
open Go.ChangeMaps (open_string shut_string)
set_option linter.unusedVariables false
theorem own : ownKnob Tryd.prog.godebug = none := by kernel_rfl
theorem laidOut : laidOutB Tryd.prog = true := by kernel_rfl
set_option maxRecDepth 100000 in
theorem lifted (os : Os) (started : os.Started) (H : Type) (enc : TypeId × Value → H) :
    ReturnsInHanded {} Tryd.checked os 6 .any (fun w args => (Rows.deltaViewsSpec.pre enc Tryd.prog Tryd.f6 Rows.deltaViewsRow.domain false w args ∧ laidMetH Tryd.prog Rows.deltaViewsRow.laid w) ∧ sizedMet enc Tryd.prog Tryd.f6 (OpenSpec.ofChange Rows.deltaViewsSpec) false w args) (Rows.deltaViewsSpec.post enc Tryd.prog Tryd.f6 false true false false) := by
  refine wrap_all (C := Tryd.checked) (laid := Rows.deltaViewsRow.laid) own started (by kernel_rfl) Tryd.func6
    (ChangeSpec.witness_shaped (enc := enc) (C := Tryd.checked) (os := os) (X := fun w _ => laidMetH Tryd.prog Rows.deltaViewsRow.laid w) false (World.laidAll Tryd.prog os Rows.deltaViewsRow.laid) #[.int .i64 0, .slice none 0 0] 8 (World.laidAll_os _ _ _)
      (World.shaped_of_ZipB (by kernel_rfl) (by kernel_rfl)) (by kernel_rfl) (by kernel_rfl) (by kernel_rfl)
      (by rw [MakeChecks.laidMetH_plain _ _ _ (by kernel_rfl)]; exact laidMet_laidAll _ (by kernel_rfl) (by kernel_rfl))) ?_
  intro W base args ds gs before hval0 hW hsz0 hL hsh
  have hval : ∀ (j : Nat) t v, Tryd.f6.params[j]? = some t → args[j]? = some v → Value.okWide Tryd.prog W .any base t v := hval0
  have hW' := hW
  obtain ⟨p, q, hA0, hV, rfl, hfz, hnd⟩ := hW
  have hA : DataW.TrodAll enc Tryd.prog W 0 (fun _ => true) true Tryd.f6.params.toList args.toList ds p := hA0
  rw [Tryd.params6] at hA hval
  obtain ⟨v0, vs0, d0, ds0, p0, q0, hargs, rfl, rfl, h0, r0⟩ := trodAll_cons hA
  obtain ⟨v1, vs1, d1, ds1, p1, q1, rfl, rfl, rfl, h1, r1⟩ := trodAll_cons r0
  obtain ⟨rfl, rfl, rfl⟩ := trodAll_nil r1
  obtain rfl : args = #[v0, v1] := by cases args; simp_all
  obtain ⟨rfl, rfl⟩ := trodVars_none hV
  have k0 := h0
  have lt0 : ∀ x ∈ p0, x.block < W.heap.size := by obtain ⟨m, hm⟩ := k0; exact DataW.trod_lt m _ _ _ hm
  obtain ⟨x0, w0, f0⟩ := par_int (R := lk []) (g := ⟨fun _ => none, fun _ => 0⟩) Tryd.underlying3 (hval 0 3 v0 rfl rfl) h0
  have k1 := h1
  have lt1 : ∀ x ∈ p1, x.block < W.heap.size := by obtain ⟨m, hm⟩ := k1; exact DataW.trod_lt m _ _ _ hm
  obtain ⟨x1, w1, f1⟩ := par_slice (R := lk []) (g := ⟨fun _ => none, fun _ => 0⟩) Tryd.underlying52 (rd_slice Tryd.underlying52 (rd_struct (τs := [.int .i64, .int .i64, .list (.int .i64)]) Tryd.underlying58 (Sq.cons rfl (by kernel_rfl) (rd_int Tryd.underlying3) (Sq.cons rfl (by kernel_rfl) (rd_int Tryd.underlying3) (Sq.cons rfl (by kernel_rfl) (rd_slice Tryd.underlying47 (rd_int Tryd.underlying2) (by kernel_rfl)) Sq.nil))) (by simp) (by kernel_rfl)) (by kernel_rfl)) (hval 1 52 v1 rfl rfl) h1
  have gl : GL W := by
    have hL' := hL
    rw [MakeChecks.laidMetH_plain _ _ _ (by kernel_rfl)] at hL'
    have hf := laidMet.filter (fun x => x.1 == "internal/strconv.uint64pow10") hL'
    have e : (Rows.deltaViewsRow.laid).filter (fun x => x.1 == "internal/strconv.uint64pow10") = [("internal/strconv.uint64pow10", Lib.tabData .u64 Lib.pow10Tab)] := by kernel_rfl
    rw [e] at hf
    exact { maxLen := Go.Proofs.cell_of_shapedOpen_int (zero := #[.int .i64 0]) (t := 3) hsh (of_decide_eq_true (by kernel_rfl)) (by kernel_rfl) rfl (by kernel_rfl) (by kernel_rfl) Tryd.underlying3, pow10 := Lib.tabIs_of_head (g := 1) (t := 159) (e := 144) (n := 20) (by kernel_rfl) (by kernel_rfl) Tryd.underlying159 Tryd.underlying144 (by kernel_rfl) (by kernel_rfl) hf }
  obtain ⟨k, hk⟩ := deltaViews_wf x0 x1 w0 w1
  clear hA0 hval0 hsz0
  refine (law_calls (b := true) (vs := [v0, v1]) (law32_DeltaViews.con k (x0, x1, ()) true hk) gl (PVs.cons f0 (PVs.cons f1 PVs.nil))).mono fun e W' ⟨he, bel0⟩ => ?_
  have bel : Below W.heap.size W W' := bel0
  subst he
  exact ⟨_, rfl, _, _, _, [], _, [], hW', trodAll_mk1 (shut_bool Tryd.underlying4 _), (trodAll_cons_mk (Below.trod laidOut (by kernel_rfl) (of_decide_eq_true (by kernel_rfl)) k0 bel lt0) (trodAll_cons_mk (Below.trod laidOut (by kernel_rfl) (of_decide_eq_true (by kernel_rfl)) k1 bel lt1) trodAll_mk0)), rfl, bel.frame _, fun h => by cases h⟩
theorem over : Rows.deltaViewsRow.holds Tryd.pinned (OpenSpec.ofChange Rows.deltaViewsSpec) :=
  OpenClaim.holds_of_wide 6 Tryd.f6 rfl rfl rfl rfl rfl rfl rfl ⟨rfl, rfl, rfl, rfl, rfl⟩ rfl rfl rfl rfl rfl (by kernel_rfl) Tryd.func6 (by kernel_rfl)
    (of_decide_eq_true (by kernel_rfl)) (by unfold Func.isWrapper; first | (rw [if_pos (by decide +kernel)]; kernel_rfl) | (rw [if_neg (by decide +kernel)]; exact ⟨rfl, rfl⟩))
    (fun os started H enc _ => lifted os started H enc)
theorem card : Claim7.holds Tryd.pinned (.plain (OpenSpec.ofChange Rows.deltaViewsSpec)) Rows.deltaViewsCard :=
  Claim7.holds_tied_plain_at .later [] [.data, .data, .data] true (true, "8f401570e817d5d2695e16b417e9a281c847c012d30f23d70021e760e1011696") false over (fun _ h => by cases h) (by kernel_rfl) (fun _ h => by cases h) deltaViews_row_tie rfl ⟨rfl, rfl⟩ (by kernel_rfl) rfl
    (fun f fn hf hfn => by
      obtain rfl : f = 6 := Option.some.inj ((show Tryd.prog.funcNamed "riffle/rifflelaw32.DeltaViews" = some 6 by kernel_rfl).symm.trans hf) |>.symm
      obtain rfl : fn = Tryd.f6 := (Option.some.inj (Tryd.func6.symm.trans hfn)).symm
      exact ⟨by kernel_rfl, fun j t ht => by
        rw [Tryd.params6] at ht
        have hm : t ∈ [3, 52] := by simpa using Array.mem_of_getElem? ht
        have hall : ([3, 52].all fun u => !Tryd.prog.wantsStandIn u) = true := by kernel_rfl
        exact (show Tryd.prog.wantsStandIn t = false by simpa using List.all_eq_true.1 hall t hm)⟩)
    (by kernel_rfl)
end Go.Proofs.YtpmnhbjbkoackaaDoor.deltaViews
namespace Go.Proofs.YtpmnhbjbkoackaaDoor
/-- The card, under a short name, for the claim. -/
theorem deltaViews_holds : Rows.DeltaViewsCardSaid := deltaViews.card
end Go.Proofs.YtpmnhbjbkoackaaDoor
