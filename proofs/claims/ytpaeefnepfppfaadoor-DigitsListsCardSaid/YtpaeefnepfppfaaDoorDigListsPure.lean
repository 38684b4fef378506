/- DigitsLists: what its printed function comes to is true. -/
import Derived.Test.YtpaeefnepfppfaaDoorDigWordsPure
import Derived.Test.YtpaeefnepfppfaaDoorDigBackPure
namespace Go.Proofs.YtpaeefnepfppfaaDoor.Xd
open Go Go.RowKit Go.Proofs.YtpaeefnepfppfaaDoor.Dig Go.Proofs.YtpaeefnepfppfaaDoorW.PrintWords Go.Proofs.YtpaeefnepfppfaaDoorW.PrintLast Go.Proofs.YtpaeefnepfppfaaDoorW.PrintMore
set_option linter.unusedVariables false
set_option linter.unusedSimpArgs false
/-- words, with a blank between -/
def joinL : List (List UInt8) → List UInt8
  | [] => []
  | [w] => w
  | w :: v :: ws => w ++ 32 :: joinL (v :: ws)
theorem joinL_snoc : ∀ (ws : List (List UInt8)) (w : List UInt8), ws ≠ [] → joinL (ws ++ [w]) = joinL ws ++ 32 :: w
  | [], _, h => absurd rfl h
  | [v], w, _ => rfl
  | v :: u :: ws, w, _ => by
    have ih := joinL_snoc (u :: ws) w (by simp)
    show v ++ 32 :: joinL ((u :: ws) ++ [w]) = (v ++ 32 :: joinL (u :: ws)) ++ 32 :: w
    rw [ih]; simp
theorem words_one : ∀ w : List UInt8, (∀ c ∈ w, c ≠ 32) → wordsL w = [w]
  | [], _ => rfl
  | c :: w, h => by rw [wordsL, if_neg (h c List.mem_cons_self), words_one w (fun c hc => h c (List.mem_cons_of_mem _ hc))]; rfl
theorem words_app : ∀ (w rest : List UInt8), (∀ c ∈ w, c ≠ 32) → wordsL (w ++ 32 :: rest) = w :: wordsL rest
  | [], _, _ => by rw [List.nil_append, wordsL, if_pos rfl]
  | c :: w, rest, h => by rw [List.cons_append, wordsL, if_neg (h c List.mem_cons_self), words_app w rest (fun c hc => h c (List.mem_cons_of_mem _ hc))]; rfl
theorem words_join : ∀ ws : List (List UInt8), ws ≠ [] → (∀ w ∈ ws, ∀ c ∈ w, c ≠ 32) → wordsL (joinL ws) = ws
  | [], h, _ => absurd rfl h
  | [w], _, h => words_one w (h w List.mem_cons_self)
  | w :: v :: ws, _, h => by
    show wordsL (w ++ 32 :: joinL (v :: ws)) = _
    rw [words_app w _ (h w List.mem_cons_self), words_join (v :: ws) (by simp) (fun w hw => h w (List.mem_cons_of_mem _ hw))]
theorem itoa_no32 (n : Int) : ∀ c ∈ Lib.itoa n, c ≠ 32 := by
  intro c hc e
  subst e
  rw [itoa_data] at hc
  have hd : ∀ (c : UInt8), c ∈ dec n.natAbs → c ≠ 32 := fun c hc e => by
    have := dec_dig n.natAbs c hc
    rw [e] at this
    exact absurd this.1 (by decide)
  split at hc
  · rcases List.mem_cons.1 hc with h | h
    · exact absurd h (by decide)
    · exact hd _ h rfl
  · exact hd _ hc rfl
theorem itoa_len {n : Int} (h : In64 n) : (Lib.itoa n).length ≤ 20 := by
  have hlen := dec_len19 h
  rw [itoa_data]
  split
  · rw [List.length_cons]; omega
  · omega
def itoaB (n : Int) : ByteArray := ⟨(Lib.itoa n).toArray⟩
theorem numsG_itoa : ∀ (l acc : List Int), (∀ n ∈ l, In64 n) → numsG (l.map itoaB) acc = (acc ++ l, true)
  | [], acc, _ => by simp [numsG]
  | n :: l, acc, h => by
    have e := get_itoa n (h n List.mem_cons_self)
    rw [List.map_cons, numsG]
    unfold itoaB
    rw [e, if_pos rfl]
    have := numsG_itoa l (acc ++ [n]) (fun n hn => h n (List.mem_cons_of_mem _ hn))
    unfold itoaB at this
    rw [this]; simp
theorem lists_end (l : List Int) (s : ByteArray) (h0 : l ≠ []) (hl : l.length ≤ 200) (hw : ∀ n ∈ l, In64 n) (hs : s.data.toList = joinL (l.map Lib.itoa)) (hz : s.size ≤ 10000) :
    Ev (fun k => (digits_Words.f s).bind fun t => ((digits_Nums.f k t).bind fun b => (if b.2 = true then ((riffleref03_Nums.f k b.1 l).bind fun t248 => (if t248 = true then ((rifflelaw10_lives.f).bind fun t249 => (some t249)) else (some false))) else (some false)))) true := by
  have hne : l.map Lib.itoa ≠ [] := by simpa using h0
  have e : wordsB s = l.map itoaB := by
    unfold wordsB
    rw [hs, words_join _ hne ?_, List.map_map]
    · rfl
    · intro w hw'
      obtain ⟨n, _, rfl⟩ := List.mem_map.1 hw'
      exact itoa_no32 n
  have hb : ∀ w ∈ l.map itoaB, w.size ≤ 9223372036854775807 := by
    intro w hw'
    obtain ⟨n, hn, rfl⟩ := List.mem_map.1 hw'
    have := itoa_len (hw n hn)
    show (Lib.itoa n).toArray.size ≤ _
    rw [List.size_toArray]; omega
  refine Ev.congr (fun k => by rw [words_is s (by omega), Option.bind_some, e]) (Ev.bind (nums_ev (l.map itoaB) (by simp; omega) hb) ?_)
  rw [numsG_itoa l [] hw]
  refine Ev.congr (fun k => if_pos rfl) (Ev.bind (nums3_ev l (by omega)) (Ev.congr (f := fun _ => some true) (fun k => ?_) (Ev.now _)))
  rw [if_pos rfl, lives_is]; rfl
theorem lists_loop (l : List Int) (h0 : l ≠ []) (hl : l.length ≤ 200) (hw : ∀ n ∈ l, In64 n) : ∀ (d i : Nat) (s : ByteArray), i + d = l.length → s.data.toList = joinL ((l.take i).map Lib.itoa) → s.size ≤ 21 * i →
    Ev (fun k => rifflelaw10_DigitsLists.l0 k l s l (l.length : Int) (i : Int)) true := by
  intro d
  induction d with
  | zero =>
    intro i s hi hs hz
    rw [List.take_of_length_le (by omega)] at hs
    refine Ev.step (fun k => ?_) (lists_end l s h0 hl hw hs (by omega))
    simp only [rifflelaw10_DigitsLists.l0]
    rw [if_neg (by omega)]
  | succ d ih =>
    intro i s hi hs hz
    have hlt : i < l.length := by omega
    have hmem : l.getD i 0 ∈ l := by rw [List.getD_eq_getElem?_getD, List.getElem?_eq_getElem hlt]; exact List.getElem_mem hlt
    have hin := hw _ hmem
    have hln := itoa_len hin
    have htk : (l.take (i + 1)).map Lib.itoa = (l.take i).map Lib.itoa ++ [Lib.itoa (l.getD i 0)] := by
      rw [List.take_succ_eq_append_getElem hlt, List.map_append, List.getD_eq_getElem?_getD, List.getElem?_eq_getElem hlt]; rfl
    have hsz : (itoaB (l.getD i 0)).size = (Lib.itoa (l.getD i 0)).length := by
      show (Lib.itoa (l.getD i 0)).toArray.size = _
      simp
    have hput : digits_Put.f (rd l (i : Int)) = some (itoaB (l.getD i 0)) := by rw [rd_nat]; exact put_is _ hin
    have wi : wrap64 ((i : Int) + 1) = ((i + 1 : Nat) : Int) := by rw [w64 (by omega) (by omega)]; rfl
    have h32 : (⟨#[32]⟩ : ByteArray).size = 1 := rfl
    by_cases hp : i = 0
    · subst hp
      have hs0 : s.data.toList = [] := by rw [hs]; rfl
      have hsz0 : s.size = 0 := by have := congrArg List.length hs0; simpa using this
      refine Ev.step (fun k => ?_) (ih 1 (s ++ itoaB (l.getD 0 0)) (by omega) (by rw [htk, app_data, hs0]; rfl) (by rw [ByteArray.size_append, hsz]; omega))
      simp only [rifflelaw10_DigitsLists.l0]
      rw [if_pos (by omega), if_pos (by omega), if_pos (by omega), if_neg (by omega), hput, Option.bind_some, if_pos (by rw [hsz]; omega), wi]
    · refine Ev.step (fun k => ?_) (ih (i + 1) ((s ++ (⟨#[32]⟩ : ByteArray)) ++ itoaB (l.getD i 0)) (by omega) ?_ (by rw [ByteArray.size_append, ByteArray.size_append, hsz, h32]; omega))
      · simp only [rifflelaw10_DigitsLists.l0]
        rw [if_pos (by omega), if_pos (by omega), if_pos (by omega), if_pos (by omega), if_pos (by omega), hput, Option.bind_some, if_pos (by rw [ByteArray.size_append, hsz, h32]; omega), wi]
      · rw [htk, joinL_snoc _ _ (by
          intro e
          have := congrArg List.length e
          rw [List.length_map, List.length_take, List.length_nil] at this
          omega), app_data, app_data, hs]
        show joinL _ ++ [32] ++ Lib.itoa _ = _
        simp
theorem digitsLists_law (l0 : List Int) (h0 : l0.length ≤ maxLen) (h1 : ∀ x ∈ l0, (Lit.int .i64 x).wf = true) : ∃ k, rifflelaw10_DigitsLists.f k l0 = some true := by
  refine Ev.rounds ?_
  have yes : Ev (fun k => rifflelaw10_DigitsLists.j0 k l0 true) true := by
    refine Ev.step (f := fun _ => some true) (fun k => ?_) (Ev.now _)
    simp only [rifflelaw10_DigitsLists.j0]
    rw [if_pos trivial, lives_is]; rfl
  by_cases hl : (l0.length : Int) > 200
  · refine Ev.congr (fun k => ?_) yes
    unfold rifflelaw10_DigitsLists.f
    rw [if_pos hl]
  · by_cases hz : l0 = []
    · subst hz
      refine Ev.congr (fun k => ?_) yes
      unfold rifflelaw10_DigitsLists.f
      rw [if_neg hl]; rfl
    · have hpos : 0 < l0.length := List.length_pos_iff.2 hz
      have hm := lists_loop l0 hz (by omega) (fun n hn => in64_wf (h1 n hn)) l0.length 0 ⟨#[]⟩ (by omega) rfl (by decide)
      refine Ev.congr (f := fun k => rifflelaw10_DigitsLists.j0 k l0 false) (fun k => ?_) (Ev.step (fun k => ?_) hm)
      · unfold rifflelaw10_DigitsLists.f
        rw [if_neg hl]
        congr 1
        rw [beq_eq_false_iff_ne]; omega
      · simp only [rifflelaw10_DigitsLists.j0]
        rw [if_neg (by simp)]; rfl
end Go.Proofs.YtpaeefnepfppfaaDoor.Xd
