/- The law PlaceBack, of every text and any two whole numbers: what the printed function comes to is true. -/
import Derived.Test.YtpaeefnepfppfaaPlaceAt
import Derived.Test.YtpaeefnepfppfaaXa3
namespace Go.Proofs.Ytpaeefnepfppfaa.Xa
open Go.RowKit Go.Proofs.YtpaeefnepfppfaaW.PrintWords Go.Proofs.YtpaeefnepfppfaaW.PrintLast Go.Proofs.YtpaeefnepfppfaaW.PrintMore
set_option linter.unusedVariables false
set_option linter.unusedSimpArgs false
theorem lives_ev : Ev (fun k => rifflelaw39_lives.f k) true := by
  have h := place_of (⟨#[120, 58, 10, 195, 151, 121]⟩ : ByteArray) (by decide) 5
  rw [show posA (⟨#[120, 58, 10, 195, 151, 121]⟩ : ByteArray) (upto (⟨#[120, 58, 10, 195, 151, 121]⟩ : ByteArray) 5) = (2, 2) by decide +kernel] at h
  exact Ev.bind h (Ev.now true)
theorem lives_bind : Ev (fun k => (rifflelaw39_lives.f k).bind fun t => some t) true := Ev.bind lives_ev (Ev.now true)
theorem back_loop (s : ByteArray) (hs : s.size ≤ 140737488351232) (i : Nat) (hi : i ≤ s.size) (n : Nat) (hsame : posA s n = posA s i) : ∀ (d j : Nat), j + d = i → n ≤ j →
    Ev (fun k => rifflelaw39_PlaceBack.l0 k s (i : Int) (j : Int)) true := by
  intro d
  induction d with
  | zero =>
    intro j hj hnj
    refine Ev.step (fun k => ?_) lives_bind
    simp only [rifflelaw39_PlaceBack.l0]
    rw [if_neg (by omega)]
  | succ d ih =>
    intro j hj hnj
    have c := posA_same s hsame j hnj (by omega)
    refine Ev.step (fun k => ?_) (ih (j + 1) (by omega) (by omega))
    simp only [rifflelaw39_PlaceBack.l0]
    rw [if_pos (by omega), if_pos (by omega), if_pos (by omega), if_neg c.1, if_neg c.2, w64 (by omega) (by omega)]
    rfl
theorem back_j1 (s : ByteArray) (hs : s.size ≤ 140737488351232) (i : Nat) (hi : i ≤ s.size) (b : Bool) : Ev (fun k => rifflelaw39_PlaceBack.j1 k s (i : Int) b) true := by
  cases b with
  | true =>
    refine Ev.step (fun k => ?_) lives_bind
    simp only [rifflelaw39_PlaceBack.j1]
    rw [if_pos trivial]
  | false =>
    have bd := posA_bd s i
    obtain ⟨r, hr, hR⟩ := at_tells s hs (posA s i).1 (posA s i).2 (by omega)
    have hof := place_of s hs (i : Int)
    rw [upto_nat s i hi] at hof
    rcases hR with ⟨n, hn, rfl, he, hf⟩ | ⟨_, hno⟩
    · have hni : n ≤ i := by
        rcases Nat.lt_or_ge i n with h | h
        · exact absurd rfl (hf i h)
        · exact h
      refine Ev.step (f := fun k => (place_Of.f k s (i : Int)).bind fun bt123 => ((place_At.f k s bt123.1 bt123.2).bind fun bt125 => (if bt125.2 = true then (rifflelaw39_PlaceBack.j2 k s (i : Int) bt125.1 (decide (bt125.1 > (i : Int)))) else (rifflelaw39_PlaceBack.j2 k s (i : Int) bt125.1 true)))) (fun k => ?_) (Ev.bind hof (Ev.bind hr ?_))
      · simp only [rifflelaw39_PlaceBack.j1]
        rw [if_neg (by simp)]
      · refine Ev.congr (f := fun k => rifflelaw39_PlaceBack.j2 k s (i : Int) (n : Int) false) (fun k => ?_) (Ev.step (fun k => ?_) (back_loop s hs i hi n he (i - n) n (by omega) (Nat.le_refl _)))
        · rw [if_pos rfl, decide_eq_false (by omega)]
        · simp only [rifflelaw39_PlaceBack.j2]
          rw [if_neg (by simp)]
    · exact absurd rfl (hno i hi)
theorem back_j0 (s : ByteArray) (hs : s.size ≤ 140737488351232) (i : Nat) (hi : i ≤ s.size) : Ev (fun k => rifflelaw39_PlaceBack.j0 k s (i : Int) false) true := by
  by_cases h1 : (i : Int) < (s.size : Int)
  · by_cases h2 : bt s i ≥ 128
    · refine Ev.step (fun k => ?_) (back_j1 s hs i hi (decide (bt s i ≤ 191)))
      simp only [rifflelaw39_PlaceBack.j0]
      rw [if_neg (by simp), if_pos h1, if_pos (by omega), if_pos h2]
    · refine Ev.step (fun k => ?_) (back_j1 s hs i hi false)
      simp only [rifflelaw39_PlaceBack.j0]
      rw [if_neg (by simp), if_pos h1, if_pos (by omega), if_neg h2]
  · refine Ev.step (fun k => ?_) (back_j1 s hs i hi false)
    simp only [rifflelaw39_PlaceBack.j0]
    rw [if_neg (by simp), if_neg h1]
theorem place_back (s : ByteArray) (x0 x1 : Int) (hs : s.size ≤ 140737488351232) (h0 : (Lit.int .u64 x0).wf = true) (h1 : (Lit.int .u64 x1).wf = true) : ∃ k, rifflelaw39_PlaceBack.f k s x0 x1 = some true := by
  by_cases hbig : (s.size : Int) > 300
  · refine (Ev.congr (fun k => ?_) lives_bind).rounds
    unfold rifflelaw39_PlaceBack.f
    rw [if_pos hbig]
  · have b0 : 0 ≤ x0 ∧ x0 ≤ 18446744073709551615 := by simpa [Lit.wf, IntKind.min, IntKind.max, IntKind.signed, IntKind.bits] using h0
    have b1 : 0 ≤ x1 ∧ x1 ≤ 18446744073709551615 := by simpa [Lit.wf, IntKind.min, IntKind.max, IntKind.signed, IntKind.bits] using h1
    have hM : IntKind.u64.wrap (wrap64 ((s.size : Int) + 1)) = (s.size : Int) + 1 := by
      rw [w64 (by omega) (by omega)]
      simp only [IntKind.wrap, IntKind.signed, IntKind.bits]
      simp
      omega
    have hr : ∀ x : Int, 0 ≤ x → ∃ i : Nat, i ≤ s.size ∧ wrap64 (Int.tmod x ((s.size : Int) + 1)) = (i : Int) := fun x hx => by
      have e := Int.tmod_eq_emod_of_nonneg (b := (s.size : Int) + 1) hx
      have l0 := Int.emod_nonneg x (b := (s.size : Int) + 1) (by omega)
      have l1 := Int.emod_lt_of_pos x (b := (s.size : Int) + 1) (by omega)
      rw [e, w64 (by omega) (by omega)]
      generalize x % ((s.size : Int) + 1) = y at *
      exact ⟨y.toNat, by omega, by omega⟩
    obtain ⟨i, hi, ei⟩ := hr x0 b0.1
    obtain ⟨j, hj, ej⟩ := hr x1 b1.1
    have hmin : mn (i : Int) (j : Int) = ((min i j : Nat) : Int) := by unfold mn; split <;> omega
    have hmax : mx (i : Int) (j : Int) = ((max i j : Nat) : Int) := by unfold mx; split <;> omega
    have ha := place_of s hs ((min i j : Nat) : Int)
    have hb := place_of s hs ((max i j : Nat) : Int)
    rw [upto_nat s _ (by omega)] at ha
    rw [upto_nat s _ (by omega)] at hb
    have mo := posA_mono s (show min i j ≤ max i j by omega)
    have bd := posA_bd s (min i j)
    refine (Ev.congr (f := fun k => (place_Of.f k s ((min i j : Nat) : Int)).bind fun bt118 => ((place_Of.f k s ((max i j : Nat) : Int)).bind fun bt120 => (if bt118.1 < 1 then (rifflelaw39_PlaceBack.j0 k s (i : Int) true) else (if bt118.2 < 1 then (rifflelaw39_PlaceBack.j0 k s (i : Int) true) else (if bt120.1 < bt118.1 then (rifflelaw39_PlaceBack.j0 k s (i : Int) true) else (if bt120.1 = bt118.1 then (rifflelaw39_PlaceBack.j0 k s (i : Int) (decide (bt120.2 < bt118.2))) else (rifflelaw39_PlaceBack.j0 k s (i : Int) false))))))) (fun k => ?_) (Ev.bind ha (Ev.bind hb ?_))).rounds
    · unfold rifflelaw39_PlaceBack.f
      rw [if_neg hbig, hM, if_neg (by omega), ei, ej, hmin, hmax]
    · refine Ev.congr (fun k => ?_) (back_j0 s hs i hi)
      rw [if_neg (by omega), if_neg (by omega), if_neg (by omega)]
      by_cases he : (posA s (max i j)).1 = (posA s (min i j)).1
      · rw [if_pos he, decide_eq_false (by omega)]
      · rw [if_neg he]
end Go.Proofs.Ytpaeefnepfppfaa.Xa
