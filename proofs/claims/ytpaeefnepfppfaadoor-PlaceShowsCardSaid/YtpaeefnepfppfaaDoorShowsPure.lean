/- PlaceShows: what its printed function comes to is true. -/
import Derived.Test.YtpaeefnepfppfaaDoorShDig
import Derived.Test.YtpaeefnepfppfaaDoorAccWalk
namespace Go.Proofs.YtpaeefnepfppfaaDoor.Xs
open Go Go.RowKit Go.Proofs.YtpaeefnepfppfaaDoor.Dig Go.Proofs.YtpaeefnepfppfaaDoorW.PrintWords Go.Proofs.YtpaeefnepfppfaaDoorW.PrintLast Go.Proofs.YtpaeefnepfppfaaDoorW.PrintMore
set_option linter.unusedVariables false
set_option linter.unusedSimpArgs false
theorem app_data (a b : ByteArray) : (a ++ b).data.toList = a.data.toList ++ b.data.toList := by simp
theorem word_len : ∀ n : Int, (Acc.word n).size ≤ 7 := by
  intro n
  unfold Acc.word
  split
  · decide
  · rw [List.getD_eq_getElem?_getD]
    rcases Nat.lt_or_ge n.toNat Acc.wordsT.length with h | h
    · rw [List.getElem?_eq_getElem h]
      have : ∀ x ∈ Acc.wordsT, x.size ≤ 7 := by decide
      exact this _ (List.getElem_mem h)
    · rw [List.getElem?_eq_none h]; decide
theorem refWord_is (n : Int) : riffleref38_Word.f n = some (Acc.word n) := by
  unfold riffleref38_Word.f
  show (if n < 0 then some (⟨#[]⟩ : ByteArray) else (if n ≥ (Acc.wordsT.length : Int) then some (⟨#[]⟩ : ByteArray) else (if 0 ≤ n then (if n < (Acc.wordsT.length : Int) then some (rdOf ByteArray.empty Acc.wordsT n) else none) else none))) = _
  unfold Acc.word
  by_cases h0 : n < 0
  · rw [if_pos h0, if_pos h0]
  · rw [if_neg h0, if_neg h0]
    by_cases h1 : n ≥ (Acc.wordsT.length : Int)
    · rw [if_pos h1, List.getD_eq_getElem?_getD, List.getElem?_eq_none (by omega)]; rfl
    · rw [if_neg h1, if_pos (by omega), if_pos (by omega)]; rfl
def itB (n : Int) : ByteArray := ⟨(Lib.itoa n).toArray⟩
theorem itB_len {n : Int} (h : In64 n) : (itB n).size ≤ 20 := by
  have hlen := dec_len (u := n.natAbs) (k := 19) (by decide) (Nat.lt_of_le_of_lt (show n.natAbs ≤ 9223372036854775808 by obtain ⟨a, b⟩ := h; omega) (by decide))
  show (Lib.itoa n).toArray.size ≤ 20
  rw [List.size_toArray, itoa_data]
  split
  · rw [List.length_cons]; omega
  · omega
/-- how a fault is told -/
def tellB (p : Int × Int) (e : Int) : ByteArray := ((itB p.1 ++ (⟨#[58]⟩ : ByteArray)) ++ itB p.2) ++ (⟨#[32]⟩ : ByteArray) ++ (if (Acc.word e).toList = [] then (⟨#[101, 114, 114, 111, 114]⟩ : ByteArray) else Acc.word e)
theorem tell_ev (s : ByteArray) (hs : s.size ≤ 300) (e a : Int) (h0 : e ≠ 0) : Ev (fun k => place_Tell.f k s e a) (tellB (posA s (upto s a)) e) ∧ Ev (fun k => riffleref39_Tell.f k s e a) (tellB (posA s (upto s a)) e) := by
  have hs' : s.size ≤ 140737488351232 := by omega
  have bd := posA_bd s (upto s a)
  have ul := upto_le s a
  have i1 : In64 (posA s (upto s a)).1 := ⟨by omega, by omega⟩
  have i2 : In64 (posA s (upto s a)).2 := ⟨by omega, by omega⟩
  have l1 := itB_len i1
  have l2 := itB_len i2
  have lw := word_len e
  have z1 : (⟨#[58]⟩ : ByteArray).size = 1 := rfl
  have z2 : (⟨#[32]⟩ : ByteArray).size = 1 := rfl
  constructor
  · unfold place_Tell.f
    refine Ev.congr (fun k => if_neg h0) (Ev.bind (place_of s hs' a) (Ev.congr (f := fun _ => some (tellB (posA s (upto s a)) e)) (fun k => ?_) (Ev.now _)))
    show (some (Acc.word e)).bind _ = _
    rw [Option.bind_some, put_is _ i1, put_is _ i2]
    unfold tellB
    by_cases hw : (Acc.word e).toList = []
    · rw [if_pos hw, if_pos hw, Option.bind_some, if_pos (by show (itB _).size + 1 ≤ _; omega), Option.bind_some]
      show (if ((itB _ ++ _).size + (itB _).size ≤ _) then _ else _) = _
      rw [if_pos (by rw [ByteArray.size_append, z1]; omega)]
      rw [if_pos (by show ((itB _ ++ _) ++ itB _).size + 1 ≤ _; rw [ByteArray.size_append, ByteArray.size_append, z1]; omega)]
      rw [if_pos (by show (((itB _ ++ _) ++ itB _) ++ _).size + 5 ≤ _; rw [ByteArray.size_append, ByteArray.size_append, ByteArray.size_append, z1, z2]; omega)]
      rfl
    · rw [if_neg hw, if_neg hw, Option.bind_some, if_pos (by show (itB _).size + 1 ≤ _; omega), Option.bind_some]
      show (if ((itB _ ++ _).size + (itB _).size ≤ _) then _ else _) = _
      rw [if_pos (by rw [ByteArray.size_append, z1]; omega)]
      rw [if_pos (by show ((itB _ ++ _) ++ itB _).size + 1 ≤ _; rw [ByteArray.size_append, ByteArray.size_append, z1]; omega)]
      rw [if_pos (by show (((itB _ ++ _) ++ itB _) ++ _).size + _ ≤ _; rw [ByteArray.size_append, ByteArray.size_append, ByteArray.size_append, z1, z2]; omega)]
      rfl
  · unfold riffleref39_Tell.f
    refine Ev.congr (fun k => if_neg h0) (Ev.bind (ref_of s hs' a) ?_)
    rw [refWord_is]
    unfold tellB
    by_cases hw : (Acc.word e).toList = []
    · rw [if_pos hw]
      refine Ev.congr (fun k => by rw [Option.bind_some, if_pos hw]) (Ev.bind (refPut_ev _ i1) (Ev.congr (fun k => if_pos (c := (itB (posA s (upto s a)).1).size + 1 ≤ 9223372036854775807) (by omega)) (Ev.bind (refPut_ev _ i2) (Ev.congr (f := fun _ => _) (fun k => ?_) (Ev.now _)))))
      show (if ((itB _ ++ _).size + (itB _).size ≤ _) then _ else _) = _
      rw [if_pos (by rw [ByteArray.size_append, z1]; omega)]
      rw [if_pos (by show ((itB _ ++ _) ++ itB _).size + 1 ≤ _; rw [ByteArray.size_append, ByteArray.size_append, z1]; omega)]
      rw [if_pos (by show (((itB _ ++ _) ++ itB _) ++ _).size + 5 ≤ _; rw [ByteArray.size_append, ByteArray.size_append, ByteArray.size_append, z1, z2]; omega)]
      rfl
    · rw [if_neg hw]
      refine Ev.congr (fun k => by rw [Option.bind_some, if_neg hw]) (Ev.bind (refPut_ev _ i1) (Ev.congr (fun k => if_pos (c := (itB (posA s (upto s a)).1).size + 1 ≤ 9223372036854775807) (by omega)) (Ev.bind (refPut_ev _ i2) (Ev.congr (f := fun _ => _) (fun k => ?_) (Ev.now _)))))
      show (if ((itB _ ++ _).size + (itB _).size ≤ _) then _ else _) = _
      rw [if_pos (by rw [ByteArray.size_append, z1]; omega)]
      rw [if_pos (by show ((itB _ ++ _) ++ itB _).size + 1 ≤ _; rw [ByteArray.size_append, ByteArray.size_append, z1]; omega)]
      rw [if_pos (by show (((itB _ ++ _) ++ itB _) ++ _).size + _ ≤ _; rw [ByteArray.size_append, ByteArray.size_append, ByteArray.size_append, z1, z2]; omega)]
      rfl
def blanks (n : Nat) : ByteArray := ⟨(List.replicate n (32 : UInt8)).toArray⟩
theorem blanks_size (n : Nat) : (blanks n).size = n := by show (List.replicate n (32 : UInt8)).toArray.size = n; simp
theorem repeat_is (n : Nat) (h : n ≤ 1000) : strings_Repeat.f (⟨#[32]⟩ : ByteArray) (n : Int) = some (blanks n) := by
  unfold strings_Repeat.f
  have z : (⟨#[32]⟩ : ByteArray).size = 1 := rfl
  rw [if_pos ⟨by omega, by omega, by rw [z, Int.toNat_natCast]; omega⟩, Int.toNat_natCast]
  have e : ∀ n, Lib.repeatL [32] n = List.replicate n (32 : UInt8) := by
    intro n
    induction n with
    | zero => rfl
    | succ n ih => rw [Lib.repeatL, ih, List.replicate_succ]; rfl
  show some (⟨(Lib.repeatL [32] n).toArray⟩ : ByteArray) = _
  rw [e]; rfl
theorem blanks_snoc (n : Nat) : blanks n ++ (⟨#[32]⟩ : ByteArray) = blanks (n + 1) := by
  apply ba_ext
  rw [app_data]
  show List.replicate n (32 : UInt8) ++ [32] = List.replicate (n + 1) 32
  rw [List.replicate_succ']
/-- the document's loop that lays blanks -/
theorem show_loop (s : ByteArray) (hs : s.size ≤ 300) (e a : Int) (h0 : e ≠ 0) (l : List ByteArray) (hl : Ev (fun k => riffleref39_Lines.f k s) l) (ln sg : Nat) (hln : 1 ≤ ln) (hll : ln ≤ l.length) (hsg : sg ≤ 400) (hlen : l.length ≤ 400) :
    ∀ (d i : Nat), i + d = sg → 1 ≤ i →
    Ev (fun k => riffleref39_Show.l0 k s (ln : Int) (sg : Int) (blanks (i - 1)) (i : Int) e a) [tellB (posA s (upto s a)) e, l.getD (ln - 1) ByteArray.empty, blanks (sg - 1) ++ (⟨#[94]⟩ : ByteArray)] := by
  intro d
  induction d with
  | zero =>
    intro i hi h1
    obtain rfl : i = sg := by omega
    have w : wrap64 ((ln : Int) - 1) = ((ln - 1 : Nat) : Int) := by rw [w64 (by omega) (by omega)]; omega
    have hb := blanks_size (i - 1)
    refine Ev.step (f := fun k => (riffleref39_Tell.f k s e a).bind fun t171 => ((riffleref39_Lines.f k s).bind fun t172 => (if 0 ≤ (wrap64 ((ln : Int) - 1)) then (if (wrap64 ((ln : Int) - 1)) < (t172.length : Int) then (if (blanks (i - 1)).size + 1 ≤ 9223372036854775807 then (some (([t171, rdOf ByteArray.empty t172 (wrap64 ((ln : Int) - 1)), blanks (i - 1) ++ (⟨#[94]⟩ : ByteArray)] : List ByteArray))) else (none)) else (none)) else (none)))) (fun k => ?_) (Ev.bind (tell_ev s hs e a h0).2 (Ev.bind hl (Ev.congr (f := fun _ => _) (fun k => ?_) (Ev.now _))))
    · simp only [riffleref39_Show.l0]
      rw [if_neg (by omega)]
    · rw [w, if_pos (by omega), if_pos (by omega), if_pos (by omega), rdOf_nat]
  | succ d ih =>
    intro i hi h1
    have hb := blanks_size (i - 1)
    have ih' := ih (i + 1) (by omega) (by omega)
    rw [show i + 1 - 1 = (i - 1) + 1 by omega, ← blanks_snoc] at ih'
    refine Ev.step (fun k => ?_) ih'
    simp only [riffleref39_Show.l0]
    rw [if_pos (by omega), if_pos (by omega), w64 (by omega) (by omega)]; rfl
theorem show_both (s : ByteArray) (hs : s.size ≤ 300) (e a : Int) (h0 : e ≠ 0) : ∃ r, r.length = 3 ∧ Ev (fun k => place_Show.f k s e a) r ∧ Ev (fun k => riffleref39_Show.f k s e a) r := by
  have hs' : s.size ≤ 140737488351232 := by omega
  have bd := posA_bd s (upto s a)
  have ul := upto_le s a
  obtain ⟨ln, hln⟩ : ∃ n : Nat, (posA s (upto s a)).1 = n := ⟨(posA s (upto s a)).1.toNat, by omega⟩
  obtain ⟨sg, hsg⟩ : ∃ n : Nat, (posA s (upto s a)).2 = n := ⟨(posA s (upto s a)).2.toNat, by omega⟩
  obtain ⟨l, hl, hI⟩ := lines_all s hs
  have hlen := hI.1
  have hmono := posA_mono s ul
  have bs := posA_bd s s.size
  have hL := hI.at (ln : Int) (by omega) (by omega)
  obtain ⟨t, ok, e5, hT⟩ := place_line s hs (ln : Int)
  have ht : t = l.getD (ln - 1) ByteArray.empty := by
    rcases hT with ⟨_, _, _, i4⟩ | ⟨_, _, i3⟩
    · have := i4.one hL
      rw [this]
      congr 1
      omega
    · omega
  refine ⟨[tellB (posA s (upto s a)) e, l.getD (ln - 1) ByteArray.empty, blanks (sg - 1) ++ (⟨#[94]⟩ : ByteArray)], rfl, ?_, ?_⟩
  · have w : wrap64 ((sg : Int) - 1) = ((sg - 1 : Nat) : Int) := by rw [w64 (by omega) (by omega)]; omega
    have hb := blanks_size (sg - 1)
    unfold place_Show.f
    refine Ev.congr (fun k => if_neg h0) (Ev.bind (place_of s hs' a) ?_)
    rw [hln, hsg]
    refine Ev.bind e5 (Ev.bind (tell_ev s hs e a h0).1 (Ev.congr (f := fun _ => _) (fun k => ?_) (Ev.now _)))
    rw [w, repeat_is _ (by omega), Option.bind_some, if_pos (by omega), ht]
  · unfold riffleref39_Show.f
    refine Ev.congr (fun k => if_neg h0) (Ev.bind (ref_of s hs' a) ?_)
    rw [hln, hsg]
    exact show_loop s hs e a h0 l hl ln sg (by omega) (by omega) (by omega) (by omega) (sg - 1) 1 (by omega) (Nat.le_refl _)
theorem same_loop (l : List ByteArray) (hl : l.length ≤ 1000000000) : ∀ (d i : Nat), i + d = l.length → Ev (fun k => riffleref10_Same.l0 k l l (i : Int)) true := by
  intro d
  induction d with
  | zero =>
    intro i hi
    refine Ev.step (f := fun _ => some true) (fun k => ?_) (Ev.now _)
    simp only [riffleref10_Same.l0]
    rw [if_neg (by omega)]
  | succ d ih =>
    intro i hi
    refine Ev.step (fun k => ?_) (ih (i + 1) (by omega))
    simp only [riffleref10_Same.l0]
    rw [if_pos (by omega), if_pos (by omega), if_pos (by omega), if_pos trivial, w64 (by omega) (by omega)]; rfl
theorem same_ev (l : List ByteArray) (hl : l.length ≤ 1000000000) : Ev (fun k => riffleref10_Same.f k l l) true := by
  refine Ev.congr (fun k => ?_) (same_loop l hl l.length 0 (by omega))
  unfold riffleref10_Same.f
  rw [if_pos rfl]; rfl
theorem placeShows_law (s : ByteArray) (e a : Int) (hs : s.size ≤ 140737488351232) (he : (Lit.int .i64 e).wf = true) (ha : (Lit.int .i64 a).wf = true) : ∃ k, rifflelaw39_PlaceShows.f k s e a = some true := by
  refine Ev.rounds ?_
  by_cases hbig : (s.size : Int) > 300
  · refine Ev.congr (fun k => ?_) lives_bind2
    unfold rifflelaw39_PlaceShows.f
    rw [if_pos hbig]
  · have hs3 : s.size ≤ 300 := by omega
    have main : ∃ t r, r.length ≤ 3 ∧ Ev (fun k => place_Tell.f k s e a) t ∧ Ev (fun k => riffleref39_Tell.f k s e a) t ∧ Ev (fun k => place_Show.f k s e a) r ∧ Ev (fun k => riffleref39_Show.f k s e a) r := by
      by_cases h0 : e = 0
      · refine ⟨⟨#[]⟩, [], by simp, ?_, ?_, ?_, ?_⟩
        · exact Ev.congr (fun k => by unfold place_Tell.f; rw [if_pos h0]) (Ev.now _)
        · exact Ev.congr (fun k => by unfold riffleref39_Tell.f; rw [if_pos h0]) (Ev.now _)
        · exact Ev.congr (fun k => by unfold place_Show.f; rw [if_pos h0]) (Ev.now _)
        · exact Ev.congr (fun k => by unfold riffleref39_Show.f; rw [if_pos h0]) (Ev.now _)
      · obtain ⟨r, h1, h2, h3⟩ := show_both s hs3 e a h0
        obtain ⟨t1, t2⟩ := tell_ev s hs3 e a h0
        exact ⟨_, r, by omega, t1, t2, h2, h3⟩
    obtain ⟨t, r, hr, m1, m2, m3, m4⟩ := main
    refine Ev.congr (fun k => by unfold rifflelaw39_PlaceShows.f; rw [if_neg hbig]) (Ev.bind m1 (Ev.bind m2 (Ev.congr (fun k => if_pos rfl) (Ev.bind m3 (Ev.bind m4 (Ev.bind (same_ev r (by omega)) (Ev.congr (fun k => if_pos rfl) lives_bind2)))))))
end Go.Proofs.YtpaeefnepfppfaaDoor.Xs
