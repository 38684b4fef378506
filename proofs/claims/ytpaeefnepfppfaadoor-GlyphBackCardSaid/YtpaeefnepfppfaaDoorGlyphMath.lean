/- The signs and their words: what the program's look-ups and the document's come to, in plain lists of bytes; no Go and no memory. -/
import Derived.Test.YtpaeefnepfppfaaDoorXg1
import Derived.Test.YtpaeefnepfppfaaDoorXg2
import Derived.Test.YtpaeefnepfppfaaDoorXg3
import Derived.Lib.MapLaws
import Derived.Lib.Strings
namespace Go.Proofs.YtpaeefnepfppfaaDoor.Xg
open Go.RowKit Go.Proofs.YtpaeefnepfppfaaDoorW.PrintWords Go.Proofs.YtpaeefnepfppfaaDoorW.PrintLast Go.Proofs.YtpaeefnepfppfaaDoorW.PrintMore
set_option linter.unusedVariables false
set_option linter.unusedSimpArgs false
theorem w64 {x : Int} (h0 : -9223372036854775808 ≤ x) (h1 : x < 9223372036854775808) : wrap64 x = x := by unfold wrap64; omega
theorem rdOf_nat {α : Type} (d : α) (l : List α) (i : Nat) : rdOf d l (i : Int) = l.getD i d := by unfold rdOf; rw [Int.toNat_natCast]
theorem rd_nat (l : List Int) (i : Nat) : rd l (i : Int) = l.getD i 0 := by unfold rd; rw [Int.toNat_natCast]
/-! ### a rune, decoded: just if its bytes stand ahead -/
theorem get_getD (s : ByteArray) (i : Nat) : s.get! i = s.data.toList.getD i 0 := by
  have e : s.get! i = s.data[i]! := rfl
  rw [e, List.getD_eq_getElem?_getD]
  by_cases h : i < s.data.size
  · rw [getElem!_pos s.data i h, List.getElem?_eq_getElem (by simpa using h)]; rfl
  · rw [getElem!_neg s.data i h, List.getElem?_eq_none (by simpa using h)]; rfl
theorem valid_low (c : Nat) (h : c < 55296) : Utf8.valid (c : Int) = true := by
  unfold Utf8.valid
  rw [Bool.or_eq_true, Bool.and_eq_true, decide_eq_true_eq, decide_eq_true_eq]
  exact .inl ⟨by omega, by omega⟩
theorem encA (c : Nat) (h : c < 55296) : Utf8.encode (c : Int) = if c < 0x80 then ⟨#[UInt8.ofNat c]⟩ else if c < 0x800 then ⟨#[UInt8.ofNat (0xC0 + c / 64), UInt8.ofNat (0x80 + c % 64)]⟩ else if c < 0x10000 then ⟨#[UInt8.ofNat (0xE0 + c / 4096), UInt8.ofNat (0x80 + c / 64 % 64), UInt8.ofNat (0x80 + c % 64)]⟩ else ⟨#[UInt8.ofNat (0xF0 + c / 262144), UInt8.ofNat (0x80 + c / 4096 % 64), UInt8.ofNat (0x80 + c / 64 % 64), UInt8.ofNat (0x80 + c % 64)]⟩ := by
  have e : (if Utf8.valid (c:Int) = true then (c:Int).toNat else Utf8.runeError) = c := by rw [if_pos (valid_low c h)]; exact Int.toNat_natCast c
  unfold Utf8.encode
  simp only [e]
theorem enc1 (c : Nat) (h : c < 128) : (Utf8.encode (c : Int)).data.toList = [UInt8.ofNat c] := by
  rw [encA c (by omega), if_pos h]
theorem enc3 (c : Nat) (h0 : ¬ c < 2048) (h : c < 55296) : (Utf8.encode (c : Int)).data.toList = [UInt8.ofNat (224 + c / 4096), UInt8.ofNat (128 + c / 64 % 64), UInt8.ofNat (128 + c % 64)] := by
  rw [encA c h, if_neg (by omega), if_neg h0, if_pos (by omega)]
theorem enc2 (c : Nat) (h0 : ¬ c < 128) (h : c < 2048) : (Utf8.encode (c : Int)).data.toList = [UInt8.ofNat (192 + c / 64), UInt8.ofNat (128 + c % 64)] := by
  rw [encA c (by omega), if_neg h0, if_pos h]
theorem byte_is (x : UInt8) (n : Nat) (h : n < 256) : UInt8.ofNat n = x ↔ x.toNat = n := by
  constructor
  · rintro rfl; simp; omega
  · intro e; rw [← e]; simp
theorem pre1 (a : UInt8) (l : List UInt8) : [a] <+: l ↔ 0 < l.length ∧ a = l.getD 0 0 := by
  cases l with
  | nil => simp
  | cons x l => simp
theorem pre2 (a b : UInt8) (l : List UInt8) : [a, b] <+: l ↔ 1 < l.length ∧ a = l.getD 0 0 ∧ b = l.getD 1 0 := by
  match l with
  | [] => simp
  | [x] => simp
  | x :: y :: l => simp
theorem pre3 (a b c : UInt8) (l : List UInt8) : [a, b, c] <+: l ↔ 2 < l.length ∧ a = l.getD 0 0 ∧ b = l.getD 1 0 ∧ c = l.getD 2 0 := by
  match l with
  | [] => simp
  | [x] => simp
  | [x, y] => simp
  | x :: y :: z :: l => simp
set_option maxHeartbeats 1000000 in
theorem dec_pre (s : ByteArray) (c : Nat) (hc0 : 0 < c) (hc : c < 55296) :
    ((Utf8.encode (c : Int)).data.toList <+: s.data.toList → Lib.decodeGo s = (c, (Utf8.encode (c : Int)).data.toList.length)) ∧ ((Lib.decodeGo s).1 = c → (Utf8.encode (c : Int)).data.toList <+: s.data.toList) := by
  have hsz : s.data.toList.length = s.size := by simp
  unfold Lib.decodeGo
  by_cases h0 : s.size = 0
  · rw [if_pos h0]
    have hnil : s.data.toList = [] := List.length_eq_zero_iff.mp (by omega)
    constructor
    · intro h
      rw [hnil] at h
      have h' := List.prefix_nil.mp h
      by_cases h1 : c < 128
      · rw [enc1 c h1] at h'; cases h'
      · by_cases h2 : c < 2048
        · rw [enc2 c h1 h2] at h'; cases h'
        · rw [enc3 c h2 hc] at h'; cases h'
    · intro h; simp only at h; omega
  · rw [if_neg h0, Lib.decode_at]
    simp only [Nat.sub_zero, Nat.zero_add, get_getD]
    have b0 := (s.data.toList.getD 0 0).toNat_lt
    have b1 := (s.data.toList.getD 1 0).toNat_lt
    have b2 := (s.data.toList.getD 2 0).toNat_lt
    have b3 := (s.data.toList.getD 3 0).toNat_lt
    generalize hx0 : (s.data.toList.getD 0 0).toNat = x0 at *
    generalize hx1 : (s.data.toList.getD 1 0).toNat = x1 at *
    generalize hx2 : (s.data.toList.getD 2 0).toNat = x2 at *
    generalize hx3 : (s.data.toList.getD 3 0).toNat = x3 at *
    by_cases h1 : c < 128
    · rw [enc1 c h1, pre1, byte_is _ c (by omega), hx0]
      constructor
      · rintro ⟨_, e⟩
        unfold Lib.decodeN
        rw [if_pos (by omega), e]; rfl
      · intro e
        rcases Lib.decodeN_shape s.size x0 x1 x2 x3 with ⟨_, h⟩ | ⟨_, _, _, _, h⟩ | ⟨_, _, _, _, _, _, h⟩ | ⟨_, _, _, _, _, _, _, h⟩ | h <;> rw [h] at e <;> simp only at e <;> omega
    · by_cases h2 : c < 2048
      · rw [enc2 c h1 h2, pre2, byte_is _ _ (by omega), byte_is _ _ (by omega), hx0, hx1]
        constructor
        · rintro ⟨hl, e0, e1⟩
          unfold Lib.decodeN
          have hval : x0 % 32 * 64 + x1 % 64 = c := by
            have e3 : x0 % 32 = c / 64 := by omega
            have e4 : x1 % 64 = c % 64 := by omega
            rw [e3, e4]; omega
          rw [if_neg (by omega), if_pos (by omega), hval, if_pos (by omega)]
          rfl
        · intro e
          rcases Lib.decodeN_shape s.size x0 x1 x2 x3 with ⟨_, h⟩ | ⟨_, _, _, _, h⟩ | ⟨_, _, _, _, _, _, h⟩ | ⟨_, _, _, _, _, _, _, h⟩ | h <;> rw [h] at e <;> simp only at e <;> omega
      · rw [enc3 c h2 hc, pre3, byte_is _ _ (by omega), byte_is _ _ (by omega), byte_is _ _ (by omega), hx0, hx1, hx2]
        constructor
        · rintro ⟨hl, e0, e1, e2⟩
          have hval : x0 % 16 * 4096 + x1 % 64 * 64 + x2 % 64 = c := by omega
          unfold Lib.decodeN
          rw [if_neg (by omega), if_neg (by omega), if_pos (by omega), hval, if_pos (by omega)]
          rfl
        · intro e
          rcases Lib.decodeN_shape s.size x0 x1 x2 x3 with ⟨_, h⟩ | ⟨_, _, _, _, h⟩ | ⟨_, _, _, _, _, _, h⟩ | ⟨_, _, _, _, _, _, _, h⟩ | h <;> rw [h] at e <;> simp only at e <;> omega
/-! ### the tables -/
def runesT : List Int := (glyph_signs.f).getD []
def signsT : List ByteArray := (riffleref02_Signs.f).getD []
def wordsT : List ByteArray := (glyph_words.f).getD []
theorem runes_is : glyph_signs.f = some runesT := rfl
theorem signs_is : riffleref02_Signs.f = some signsT := rfl
theorem words_is : glyph_words.f = some wordsT := rfl
theorem words_is2 : riffleref02_Words.f = some wordsT := rfl
theorem runes_len : runesT.length = 44 := rfl
theorem signs_len : signsT.length = 44 := rfl
theorem words_len : wordsT.length = 44 := rfl
/-- the bytes of sign i -/
def SG (i : Nat) : List UInt8 := (signsT.getD i ByteArray.empty).data.toList
def WD (i : Nat) : List UInt8 := (wordsT.getD i ByteArray.empty).data.toList
def RN (i : Nat) : Nat := (runesT.getD i 0).toNat
theorem enc_sign_fin : ∀ i : Fin 44, 0 < i.val → (Utf8.encode (runesT.getD i.val 0)).data = (signsT.getD i.val ByteArray.empty).data ∧ runesT.getD i.val 0 = (RN i.val : Int) ∧ 0 < RN i.val ∧ RN i.val < 55296 := by decide +kernel
theorem enc_sign (i : Nat) (h0 : 0 < i) (h : i < 44) : Utf8.encode (runesT.getD i 0) = signsT.getD i ByteArray.empty ∧ runesT.getD i 0 = (RN i : Int) ∧ 0 < RN i ∧ RN i < 55296 := by
  obtain ⟨a, b⟩ := enc_sign_fin ⟨i, h⟩ h0
  exact ⟨ByteArray.ext a, b⟩
theorem runes_inj : ∀ i j : Fin 44, runesT.getD i.val 0 = runesT.getD j.val 0 → i = j := by decide +kernel
theorem rune_at {i j : Nat} (hi : i < 44) (hj : j < 44) (h : runesT.getD i 0 = runesT.getD j 0) : i = j := by
  have := runes_inj ⟨i, hi⟩ ⟨j, hj⟩ h
  simpa using this
theorem sg_pre (s : ByteArray) (i : Nat) (h0 : 0 < i) (h : i < 44) : (SG i <+: s.data.toList → Lib.decodeGo s = (RN i, (SG i).length)) ∧ ((Lib.decodeGo s).1 = RN i → SG i <+: s.data.toList) := by
  obtain ⟨a, b, c, d⟩ := enc_sign i h0 h
  have e : (Utf8.encode (RN i : Int)).data.toList = SG i := by unfold SG; rw [← a, b]
  have := dec_pre s (RN i) c d
  rwa [e] at this
theorem sg_one (l : List UInt8) (i j : Nat) (h0 : 0 < i) (h : i < 44) (h0' : 0 < j) (h' : j < 44) (hi : SG i <+: l) (hj : SG j <+: l) : i = j := by
  have e : (⟨l.toArray⟩ : ByteArray).data.toList = l := by simp
  have a := (sg_pre ⟨l.toArray⟩ i h0 h).1 (by rw [e]; exact hi)
  have b := (sg_pre ⟨l.toArray⟩ j h0' h').1 (by rw [e]; exact hj)
  rw [a] at b
  have := (Prod.mk.inj b).1
  refine rune_at h h' ?_
  rw [(enc_sign i h0 h).2.1, (enc_sign j h0' h').2.1, this]
theorem sg_fin : ∀ i : Fin 44, 0 < i.val → SG i.val ≠ [] ∧ (SG i.val).head? ≠ some 96 ∧ (SG i.val).length ≤ 3 := by decide +kernel
theorem sg_ne (i : Nat) (h0 : 0 < i) (h : i < 44) : SG i ≠ [] ∧ (SG i).head? ≠ some 96 ∧ (SG i).length ≤ 3 := sg_fin ⟨i, h⟩ h0
/-- with which sign a text begins -/
def SignR (l : List UInt8) (r : Int × Int) : Prop :=
  (∃ i : Nat, 0 < i ∧ i < 44 ∧ r = ((i : Int), ((SG i).length : Int)) ∧ SG i <+: l) ∨ (r = (0, 0) ∧ ∀ i : Nat, 0 < i → i < 44 → ¬ SG i <+: l)
theorem SignR.one {l : List UInt8} {r r' : Int × Int} (h : SignR l r) (h' : SignR l r') : r = r' := by
  rcases h with ⟨i, a, b, rfl, c⟩ | ⟨rfl, h⟩
  · rcases h' with ⟨j, a', b', rfl, c'⟩ | ⟨rfl, h'⟩
    · obtain rfl := sg_one l i j a b a' b' c c'; rfl
    · exact absurd c (h' i a b)
  · rcases h' with ⟨j, a', b', rfl, c'⟩ | ⟨rfl, h'⟩
    · exact absurd c' (h j a' b')
    · rfl
theorem sized_loop (r sz : Int) : ∀ (d i : Nat), i + d = 44 → (∀ j, j < i → runesT.getD j 0 ≠ r) →
    ∃ q, Ev (fun k => glyph_sized.l0 k r sz runesT 44 (i : Int)) q ∧ ((∃ i : Nat, i < 44 ∧ q = ((i : Int), sz) ∧ runesT.getD i 0 = r) ∨ (q = (0, 0) ∧ ∀ i, i < 44 → runesT.getD i 0 ≠ r)) := by
  intro d
  induction d with
  | zero =>
    intro i hi hno
    refine ⟨(0, 0), Ev.step (f := fun _ => some (0, 0)) (fun k => ?_) (Ev.now _), .inr ⟨rfl, fun j hj => hno j (by omega)⟩⟩
    simp only [glyph_sized.l0]
    rw [if_neg (by omega)]
  | succ d ih =>
    intro i hi hno
    have w1 : wrap64 ((i : Int) + 1) = ((i + 1 : Nat) : Int) := by rw [w64 (by omega) (by omega)]; rfl
    by_cases h : runesT.getD i 0 = r
    · refine ⟨((i : Int), sz), Ev.step (f := fun _ => some ((i : Int), sz)) (fun k => ?_) (Ev.now _), .inl ⟨i, by omega, rfl, h⟩⟩
      simp only [glyph_sized.l0]
      rw [if_pos (by omega), if_pos (by omega), if_pos (by rw [runes_len]; omega), rd_nat, if_pos h]
    · obtain ⟨q, hq, hQ⟩ := ih (i + 1) (by omega) (fun j hj => by
        rcases Nat.lt_or_ge j i with hji | hji
        · exact hno j hji
        · rw [show j = i by omega]; exact h)
      refine ⟨q, Ev.step (f := fun k => glyph_sized.l0 k r sz runesT 44 ((i + 1 : Nat) : Int)) (fun k => ?_) hq, hQ⟩
      simp only [glyph_sized.l0]
      rw [if_pos (by omega), if_pos (by omega), if_pos (by rw [runes_len]; omega), rd_nat, if_neg h, w1]
theorem sized_tells (s : ByteArray) : ∃ r, Ev (fun k => glyph_sized.f k s) r ∧ SignR s.data.toList r := by
  have hrn0 : runesT.getD 0 0 = 0 := rfl
  have none_of : ((Lib.decodeGo s).1 = 0 ∨ (Lib.decodeGo s).1 = 65533) → ∀ i : Nat, 0 < i → i < 44 → ¬ SG i <+: s.data.toList := fun hz i a b c => by
    have := (sg_pre s i a b).1 c
    have h2 := (enc_sign i a b).2.2
    rw [this] at hz; simp only at hz; omega
  by_cases hz : (Lib.decodeGo s).1 = 0 ∨ (Lib.decodeGo s).1 = 65533
  · refine ⟨(0, 0), Ev.congr (f := fun k => glyph_sized.j0 k ((Lib.decodeGo s).1 : Int) ((Lib.decodeGo s).2 : Int) true) (fun k => ?_) (Ev.step (f := fun _ => some (0, 0)) (fun k => ?_) (Ev.now _)), .inr ⟨rfl, none_of hz⟩⟩
    · unfold glyph_sized.f utf8_DecodeRuneInString.f
      simp only [Option.bind_some]
      rcases hz with h | h
      · rw [h]; rfl
      · rw [h]; rfl
    · simp only [glyph_sized.j0]; rw [if_pos trivial]
  · obtain ⟨q, hq, hQ⟩ := sized_loop ((Lib.decodeGo s).1 : Int) ((Lib.decodeGo s).2 : Int) 44 0 (by omega) (fun j hj => by omega)
    refine ⟨q, Ev.congr (f := fun k => glyph_sized.j0 k ((Lib.decodeGo s).1 : Int) ((Lib.decodeGo s).2 : Int) false) (fun k => ?_) (Ev.step (f := fun k => glyph_sized.l0 k ((Lib.decodeGo s).1 : Int) ((Lib.decodeGo s).2 : Int) runesT 44 0) (fun k => ?_) hq), ?_⟩
    · unfold glyph_sized.f utf8_DecodeRuneInString.f
      simp only [Option.bind_some]
      rw [if_neg (by omega)]
      congr 1
      rw [beq_eq_false_iff_ne]; omega
    · simp only [glyph_sized.j0]; rw [if_neg (by simp), runes_is]; rfl
    · rcases hQ with ⟨i, hi, rfl, he⟩ | ⟨rfl, hno⟩
      · have h0 : 0 < i := by
          rcases Nat.eq_zero_or_pos i with h | h
          · subst h; rw [hrn0] at he; omega
          · exact h
        have hr := (enc_sign i h0 hi).2.1
        have hp := (sg_pre s i h0 hi).2 (by rw [hr] at he; omega)
        have hd := (sg_pre s i h0 hi).1 hp
        exact .inl ⟨i, h0, hi, by rw [hd], hp⟩
      · refine .inr ⟨rfl, fun i a b c => hno i b ?_⟩
        have := (sg_pre s i a b).1 c
        rw [(enc_sign i a b).2.1, this]
/-! ### the words, and the document's places in a list -/
def PlaceR (ws : List ByteArray) (t : List UInt8) (r : Int) : Prop :=
  (∃ i : Nat, 0 < i ∧ i < 44 ∧ r = (i : Int) ∧ (ws.getD i ByteArray.empty).data.toList = t ∧ t ≠ [] ∧ ∀ j : Nat, 0 < j → j < i → (ws.getD j ByteArray.empty).data.toList ≠ t) ∨
  (r = 0 ∧ ∀ i : Nat, 0 < i → i < 44 → ¬ ((ws.getD i ByteArray.empty).data.toList = t ∧ t ≠ []))
theorem PlaceR.one {ws : List ByteArray} {t : List UInt8} {r r' : Int} (h : PlaceR ws t r) (h' : PlaceR ws t r') : r = r' := by
  rcases h with ⟨i, a, b, rfl, c, d, e⟩ | ⟨rfl, h⟩
  · rcases h' with ⟨j, a', b', rfl, c', d', e'⟩ | ⟨rfl, h'⟩
    · rcases Nat.lt_or_ge i j with hij | hij
      · exact absurd c (e' i a hij)
      · rcases Nat.lt_or_ge j i with hji | hji
        · exact absurd c' (e j a' hji)
        · omega
    · exact absurd ⟨c, d⟩ (h' i a b)
  · rcases h' with ⟨j, a', b', rfl, c', d', e'⟩ | ⟨rfl, h'⟩
    · exact absurd ⟨c', d'⟩ (h j a' b')
    · rfl
theorem place_loop (ws : List ByteArray) (hw : ws.length = 44) (s : ByteArray) : ∀ (d i : Nat), i + d = 44 → 0 < i → (∀ j : Nat, 0 < j → j < i → ¬ ((ws.getD j ByteArray.empty).data.toList = s.data.toList ∧ s.data.toList ≠ [])) →
    ∃ q, Ev (fun k => riffleref02_place.l0 k ws s (i : Int)) q ∧ PlaceR ws s.data.toList q := by
  intro d
  induction d with
  | zero =>
    intro i hi h0 hno
    refine ⟨0, Ev.step (f := fun _ => some 0) (fun k => ?_) (Ev.now _), .inr ⟨rfl, fun j a b => hno j a (by omega)⟩⟩
    simp only [riffleref02_place.l0]
    rw [if_neg (by rw [hw]; omega)]
  | succ d ih =>
    intro i hi h0 hno
    have w1 : wrap64 ((i : Int) + 1) = ((i + 1 : Nat) : Int) := by rw [w64 (by omega) (by omega)]; rfl
    by_cases h : (ws.getD i ByteArray.empty).data.toList = s.data.toList ∧ s.data.toList ≠ []
    · refine ⟨(i : Int), Ev.step (f := fun _ => some (i : Int)) (fun k => ?_) (Ev.now _), .inl ⟨i, h0, by omega, rfl, h.1, h.2, fun j a b e => hno j a b ⟨e, h.2⟩⟩⟩
      simp only [riffleref02_place.l0, Lib.toList_data]
      rw [if_pos (by rw [hw]; omega), if_pos (by omega), rdOf_nat, if_pos h.1, if_neg h.2]
    · obtain ⟨q, hq, hQ⟩ := ih (i + 1) (by omega) (by omega) (fun j a b => by
        rcases Nat.lt_or_ge j i with hji | hji
        · exact hno j a hji
        · rw [show j = i by omega]; exact h)
      refine ⟨q, Ev.step (f := fun k => riffleref02_place.l0 k ws s ((i + 1 : Nat) : Int)) (fun k => ?_) hq, hQ⟩
      simp only [riffleref02_place.l0, Lib.toList_data]
      rw [if_pos (by rw [hw]; omega), if_pos (by omega), rdOf_nat, w1]
      by_cases h1 : (ws.getD i ByteArray.empty).data.toList = s.data.toList
      · have h2 : s.data.toList = [] := Classical.byContradiction fun h2 => h ⟨h1, h2⟩
        rw [if_pos h1, if_pos h2]
      · rw [if_neg h1]
theorem place_tells (ws : List ByteArray) (hw : ws.length = 44) (s : ByteArray) : ∃ q, Ev (fun k => riffleref02_place.f k ws s) q ∧ PlaceR ws s.data.toList q :=
  place_loop ws hw s 43 1 (by omega) (by omega) (fun j a b => by omega)
theorem named_loop (s : ByteArray) : ∀ (d i : Nat), i + d = 44 → (∀ j : Nat, 0 < j → j < i → ¬ (WD j = s.data.toList ∧ s.data.toList ≠ [])) →
    ∃ q, Ev (fun k => glyph_Named.l0 k s 0 wordsT 44 (i : Int)) (q, decide (q > 0)) ∧ PlaceR wordsT s.data.toList q := by
  intro d
  induction d with
  | zero =>
    intro i hi hno
    refine ⟨0, Ev.step (f := fun _ => some (0, decide ((0 : Int) > 0))) (fun k => ?_) (Ev.now _), .inr ⟨rfl, fun j a b => hno j a (by omega)⟩⟩
    simp only [glyph_Named.l0]
    rw [if_neg (by omega)]
  | succ d ih =>
    intro i hi hno
    have w1 : wrap64 ((i : Int) + 1) = ((i + 1 : Nat) : Int) := by rw [w64 (by omega) (by omega)]; rfl
    have hz : WD 0 = [] := rfl
    by_cases h : WD i = s.data.toList ∧ s.data.toList ≠ []
    · have h0 : 0 < i := by
        rcases Nat.eq_zero_or_pos i with h' | h'
        · subst h'; rw [hz] at h; exact absurd h.1.symm h.2
        · exact h'
      refine ⟨(i : Int), Ev.step (f := fun _ => some ((i : Int), decide ((i : Int) > 0))) (fun k => ?_) (Ev.now _), .inl ⟨i, h0, by omega, rfl, h.1, h.2, fun j a b e => hno j a b ⟨e, h.2⟩⟩⟩
      simp only [glyph_Named.l0, Lib.toList_data]
      rw [if_pos (by omega), if_pos (by omega), if_pos (by rw [words_len]; omega), rdOf_nat]
      have h1 := h.1
      unfold WD at h1
      rw [if_neg (by rw [h1]; exact h.2), if_pos h1]
    · obtain ⟨q, hq, hQ⟩ := ih (i + 1) (by omega) (fun j a b => by
        rcases Nat.lt_or_ge j i with hji | hji
        · exact hno j a hji
        · rw [show j = i by omega]; exact h)
      refine ⟨q, Ev.step (f := fun k => glyph_Named.l0 k s 0 wordsT 44 ((i + 1 : Nat) : Int)) (fun k => ?_) hq, hQ⟩
      simp only [glyph_Named.l0, Lib.toList_data]
      rw [if_pos (by omega), if_pos (by omega), if_pos (by rw [words_len]; omega), rdOf_nat, w1]
      by_cases h1 : (wordsT.getD i ByteArray.empty).data.toList = []
      · rw [if_pos h1]
      · rw [if_neg h1]
        by_cases h2 : (wordsT.getD i ByteArray.empty).data.toList = s.data.toList
        · exact absurd ⟨h2, fun e => h1 (h2.trans e)⟩ h
        · rw [if_neg h2]
/-- the program's word and the document's are one -/
theorem named_both (s : ByteArray) : ∃ q, Ev (fun k => glyph_Named.f k s) (q, decide (q > 0)) ∧ Ev (fun k => riffleref02_Named.f k s) q ∧ PlaceR wordsT s.data.toList q := by
  obtain ⟨q, hq, hQ⟩ := named_loop s 44 0 (by omega) (fun j a b => by omega)
  obtain ⟨q', hq', hQ'⟩ := place_tells wordsT words_len s
  obtain rfl := hQ.one hQ'
  refine ⟨q, Ev.congr (fun k => ?_) hq, Ev.congr (f := fun k => (riffleref02_place.f k wordsT s).bind fun t => some t) (fun k => ?_) (Ev.bind hq' (Ev.now q)), hQ⟩
  · unfold glyph_Named.f; rw [words_is]; rfl
  · unfold riffleref02_Named.f; rw [words_is2]; rfl
/-- and so the sign that a text is -/
theorem of_both (s : ByteArray) : ∃ q, Ev (fun k => glyph_Of.f k s) (q, decide (q > 0)) ∧ Ev (fun k => riffleref02_Of.f k s) q ∧ ∀ i : Nat, 0 < i → i < 44 → SG i = s.data.toList → q = (i : Int) := by
  obtain ⟨r, hr, hR⟩ := sized_tells s
  obtain ⟨q', hq', hQ'⟩ := place_tells signsT signs_len s
  have hsz : s.data.toList.length = s.size := by simp
  have hof : Ev (fun k => riffleref02_Of.f k s) q' := Ev.congr (f := fun k => (riffleref02_place.f k signsT s).bind fun t => some t) (fun k => by unfold riffleref02_Of.f; rw [signs_is]; rfl) (Ev.bind hq' (Ev.now q'))
  have hlast : ∀ i : Nat, 0 < i → i < 44 → SG i = s.data.toList → q' = (i : Int) := fun i a b c => by
    rcases hQ' with ⟨j, a', b', rfl, c', _⟩ | ⟨_, h⟩
    · have c2 : SG j = s.data.toList := c'
      have := sg_one s.data.toList i j a b a' b' (by rw [c]; exact List.prefix_refl _) (by rw [c2]; exact List.prefix_refl _)
      omega
    · exact absurd ⟨c, fun e => (sg_ne i a b).1 (c.trans e)⟩ (h i a b)
  refine ⟨q', ?_, hof, hlast⟩
  rcases hR with ⟨i, a, b, rfl, c⟩ | ⟨rfl, h⟩
  · have hl := (sg_ne i a b).1
    have hl2 : 0 < (SG i).length := List.length_pos_iff.mpr hl
    by_cases he : (SG i).length = s.size
    · have hs : SG i = s.data.toList := List.IsPrefix.eq_of_length c (by omega)
      have hqi := hlast i a b hs
      refine Ev.congr (fun k => by unfold glyph_Of.f; rfl) (Ev.bind hr ?_)
      refine Ev.congr (f := fun _ => some (q', decide (q' > 0))) (fun k => ?_) (Ev.now _)
      rw [if_neg (by simp only; omega), if_pos (by simp only; omega), hqi, decide_eq_true (by omega)]
    · have hqi : q' = 0 := by
        rcases hQ' with ⟨j, a', b', rfl, c', _⟩ | ⟨h, _⟩
        · have c2 : SG j = s.data.toList := c'
          have := sg_one s.data.toList i j a b a' b' c (by rw [c2]; exact List.prefix_refl _)
          subst this
          exact absurd (by rw [c2]; exact hsz) he
        · exact h
      refine Ev.congr (fun k => by unfold glyph_Of.f; rfl) (Ev.bind hr ?_)
      refine Ev.congr (f := fun _ => some (q', decide (q' > 0))) (fun k => ?_) (Ev.now _)
      rw [if_neg (by simp only; omega), if_neg (by simp only; omega), hqi]; rfl
  · have hqi : q' = 0 := by
      rcases hQ' with ⟨j, a', b', rfl, c', _⟩ | ⟨h, _⟩
      · have c2 : SG j = s.data.toList := c'
        exact absurd (by rw [c2]; exact List.prefix_refl _) (h j a' b')
      · exact h
    refine Ev.congr (fun k => by unfold glyph_Of.f; rfl) (Ev.bind hr ?_)
    refine Ev.congr (f := fun _ => some (q', decide (q' > 0))) (fun k => ?_) (Ev.now _)
    rw [if_pos rfl, hqi]; rfl
end Go.Proofs.YtpaeefnepfppfaaDoor.Xg
