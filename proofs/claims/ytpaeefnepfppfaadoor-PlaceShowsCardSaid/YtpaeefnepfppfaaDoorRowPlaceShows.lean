/- The law PlaceShows, for every input the Go function answers true and leaves its arguments as they read; conditions: the listed package-level variables hold what the program's text lays in them: the row and the card out of the plain statement and the function's contract. -/
import Derived.Test.YtpaeefnepfppfaaDoorTie
import Derived.Test.YtpaeefnepfppfaaDoorCards
import Derived.Test.YtpaeefnepfppfaaDoorShowsPure
import Derived.Test.YtpaeefnepfppfaaDoorRd
import Derived.WalkKit
import Derived.ProofKit
import Derived.OpenShut
import Derived.ShutString
import Derived.ChangeOld
import Derived.Below
import Derived.SizedLaws
import Derived.Lay
import Derived.LaidOnce
import Derived.SevenTiedAt
import Derived.PinnedBridge
import Derived.Lib.LaidU8
import Derived.Lib.LaidTab
namespace Go.Proofs.YtpaeefnepfppfaaDoor.placeShows
open Go Go.ChangeShapes Go.WideShapes Go.ChangeAt Go.RowKit Go.Proofs.YtpaeefnepfppfaaDoor Go.Proofs.YtpaeefnepfppfaaDoor.Xs Go.Proofs.YtpaeefnepfppfaaDoorW.PrintWords
open Go.ChangeMaps (open_string shut_string)
set_option linter.unusedVariables false
theorem own : ownKnob Tryd.prog.godebug = none := by kernel_rfl
theorem laidOut : laidOutB Tryd.prog = true := by kernel_rfl
set_option maxRecDepth 100000 in
theorem lifted (os : Os) (started : os.Started) (H : Type) (enc : TypeId × Value → H) :
    ReturnsInHanded {} Tryd.checked os 11 .any (fun w args => (Rows.placeShowsSpec.pre enc Tryd.prog Tryd.f11 Rows.placeShowsRow.domain false w args ∧ laidMetH Tryd.prog Rows.placeShowsRow.laid w) ∧ sizedMet enc Tryd.prog Tryd.f11 (OpenSpec.ofChange Rows.placeShowsSpec) false w args) (Rows.placeShowsSpec.post enc Tryd.prog Tryd.f11 false true false false) := by
  refine wrap_all (C := Tryd.checked) (laid := Rows.placeShowsRow.laid) own started (by kernel_rfl) Tryd.func11
    (ChangeSpec.witness_shaped (enc := enc) (C := Tryd.checked) (os := os) (X := fun w _ => laidMetH Tryd.prog Rows.placeShowsRow.laid w) false (World.laidAll Tryd.prog os Rows.placeShowsRow.laid) #[.string ByteArray.empty, .agg #[.int .i64 0, .int .i64 0]] 8 (World.laidAll_os _ _ _)
      (World.shaped_of_ZipB (by kernel_rfl) (by kernel_rfl)) (by kernel_rfl) (by kernel_rfl) (by kernel_rfl)
      (by rw [MakeChecks.laidMetH_plain _ _ _ (by kernel_rfl)]; exact laidMet_laidAll _ (by kernel_rfl) (by kernel_rfl))) ?_
  intro W base args ds gs before hval0 hW hsz0 hL hsh
  have hsz : (DataW.weightsEach Tryd.prog (Tryd.f11.params.toList ++ Rows.placeShowsSpec.plain.varTypes Tryd.prog) (ds ++ gs)).all (· ≤ reachBytes) = true := hsz0
  have hval : ∀ (j : Nat) t v, Tryd.f11.params[j]? = some t → args[j]? = some v → Value.okWide Tryd.prog W .any base t v := hval0
  have hW' := hW
  obtain ⟨p, q, hA0, hV, rfl, hfz, hnd⟩ := hW
  have hA : DataW.TrodAll enc Tryd.prog W 0 (fun _ => true) true Tryd.f11.params.toList args.toList ds p := hA0
  rw [Tryd.params11] at hA hval hsz
  obtain ⟨v0, vs0, d0, ds0, p0, q0, hargs, rfl, rfl, h0, r0⟩ := trodAll_cons hA
  obtain ⟨v1, vs1, d1, ds1, p1, q1, rfl, rfl, rfl, h1, r1⟩ := trodAll_cons r0
  obtain ⟨rfl, rfl, rfl⟩ := trodAll_nil r1
  obtain rfl : args = #[v0, v1] := by cases args; simp_all
  obtain ⟨rfl, rfl⟩ := trodVars_none hV
  have k0 := h0
  have lt0 : ∀ x ∈ p0, x.block < W.heap.size := by obtain ⟨m, hm⟩ := k0; exact DataW.trod_lt m _ _ _ hm
  obtain ⟨a0, rfl, rfl, y0⟩ := par_string Tryd.underlying9 (hval 0 9 v0 rfl rfl) h0
  have w0 : a0.size ≤ 140737488351232 := by
    have z := sized_string hsz (j := 0) (t := 9) rfl rfl
    rw [Array.length_toList] at z
    exact z
  have k1 := h1
  have lt1 : ∀ x ∈ p1, x.block < W.heap.size := by obtain ⟨m, hm⟩ := k1; exact DataW.trod_lt m _ _ _ hm
  obtain ⟨a1_0, a1_1, rfl, w1_0, w1_1⟩ := par_st2 Tryd.underlying52 Tryd.underlying50 Tryd.underlying3 (by kernel_rfl) (by kernel_rfl) rfl rfl (by kernel_rfl) (hval 1 52 v1 rfl rfl) h1
  have gl : GL W := by
    have hL' := hL
    rw [MakeChecks.laidMetH_plain _ _ _ (by kernel_rfl)] at hL'
    have hf := laidMet.filter (fun x => x.1 == "internal/strconv.uint64pow10") hL'
    have e : (Rows.placeShowsRow.laid).filter (fun x => x.1 == "internal/strconv.uint64pow10") = [("internal/strconv.uint64pow10", Lib.tabData .u64 Lib.pow10Tab)] := by kernel_rfl
    rw [e] at hf
    exact { maxLen := Go.Proofs.cell_of_shapedOpen_int (zero := #[.int .i64 0]) (t := 3) hsh (of_decide_eq_true (by kernel_rfl)) (by kernel_rfl) rfl (by kernel_rfl) (by kernel_rfl) Tryd.underlying3, pow10 := Lib.tabIs_of_head (g := 2) (t := 115) (e := 72) (n := 20) (by kernel_rfl) (by kernel_rfl) Tryd.underlying115 Tryd.underlying72 (by kernel_rfl) (by kernel_rfl) hf }
  obtain ⟨k, hk⟩ := placeShows_law a0 a1_0 a1_1 w0 w1_0 w1_1
  clear hA0 hval0 hsz0 hsz
  refine (rifflelaw39_PlaceShows.calls k a0 a1_0 a1_1 true W gl rfl hk).mono fun e W' ⟨he, bel0⟩ => ?_
  have bel : Below W.heap.size W W' := bel0
  subst he
  exact ⟨_, rfl, _, _, _, [], _, [], hW', trodAll_mk1 (shut_bool Tryd.underlying4 _), (trodAll_cons_mk (Below.trod laidOut (by kernel_rfl) (of_decide_eq_true (by kernel_rfl)) k0 bel lt0) (trodAll_cons_mk (Below.trod laidOut (by kernel_rfl) (of_decide_eq_true (by kernel_rfl)) k1 bel lt1) trodAll_mk0)), rfl, bel.frame _, fun h => by cases h⟩
theorem over : Rows.placeShowsRow.holds Tryd.pinned (OpenSpec.ofChange Rows.placeShowsSpec) :=
  OpenClaim.holds_of_wide 11 Tryd.f11 rfl rfl rfl rfl rfl rfl rfl ⟨rfl, rfl, rfl, rfl, rfl⟩ rfl rfl rfl rfl rfl (by kernel_rfl) Tryd.func11 (by kernel_rfl)
    (of_decide_eq_true (by kernel_rfl)) (by unfold Func.isWrapper; first | (rw [if_pos (by decide +kernel)]; kernel_rfl) | (rw [if_neg (by decide +kernel)]; exact ⟨rfl, rfl⟩))
    (fun os started H enc _ => lifted os started H enc)
theorem card : Claim7.holds Tryd.pinned (.plain (OpenSpec.ofChange Rows.placeShowsSpec)) Rows.placeShowsCard :=
  Claim7.holds_tied_plain_at .later [] [.data, .data, .data] true (true, "4e108c3cb8c9605ebb21b06b9649b98b7806f7eb54b00332fce5fcfc087c6ecb") false over (fun _ h => by cases h) (by kernel_rfl) (fun _ h => by cases h) placeShows_row_tie rfl ⟨rfl, rfl⟩ (by kernel_rfl) rfl
    (fun f fn hf hfn => by
      obtain rfl : f = 11 := Option.some.inj ((show Tryd.prog.funcNamed "riffle/rifflelaw39.PlaceShows" = some 11 by kernel_rfl).symm.trans hf) |>.symm
      obtain rfl : fn = Tryd.f11 := (Option.some.inj (Tryd.func11.symm.trans hfn)).symm
      exact ⟨by kernel_rfl, fun j t ht => by
        rw [Tryd.params11] at ht
        have hm : t ∈ [9, 52] := by simpa using Array.mem_of_getElem? ht
        have hall : ([9, 52].all fun u => !Tryd.prog.wantsStandIn u) = true := by kernel_rfl
        exact (show Tryd.prog.wantsStandIn t = false by simpa using List.all_eq_true.1 hall t hm)⟩)
    (by kernel_rfl)
end Go.Proofs.YtpaeefnepfppfaaDoor.placeShows
namespace Go.Proofs.YtpaeefnepfppfaaDoor
/-- The card, under a short name, for the claim. -/
theorem placeShows_holds : Rows.PlaceShowsCardSaid := placeShows.card
end Go.Proofs.YtpaeefnepfppfaaDoor
