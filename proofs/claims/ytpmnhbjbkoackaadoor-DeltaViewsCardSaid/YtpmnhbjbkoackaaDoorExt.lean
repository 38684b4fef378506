/- What functions of Go's library, and functions walked by hand, come to, in the words of the plain run. -/
import Derived.Test.YtpmnhbjbkoackaaDoorEn18
import Derived.Test.YtpmnhbjbkoackaaDoorGLe
import Derived.Test.YtpmnhbjbkoackaaDoorShelfA
import Derived.Test.YtpmnhbjbkoackaaDoorDigWalk
import Derived.Lib.ItoaLen
import Derived.Lib.SplitLaws
namespace Go.Proofs.YtpmnhbjbkoackaaDoor.En
open Go Go.RowKit Go.Proofs
set_option linter.unusedVariables false
set_option linter.unusedSimpArgs false
theorem extFn {id : FuncId} {fn : Func} (hf : Tryd.prog.funcs[id]? = some fn) (hb : (fn.body.isSome && !(fn.name == "runtime.NumGoroutine")) = true) : ∃ fn, Tryd.prog.funcs[id]? = some fn ∧ fn.body.isSome = true ∧ (fn.name == "runtime.NumGoroutine") = false := fnOk hf hb

theorem row_base {w : World} {base : Nat} {e : TypeId} {size : Nat} {v : Value} {n : Nat} {xs : List Value} (h : w.ownsRow base e size v n xs) : w.ownsRow 0 e size v n xs := ⟨h.1, h.2.imp id fun ⟨g, cap, cur, a, _, c⟩ => ⟨g, cap, cur, a, Nat.zero_le _, c⟩⟩
theorem below_grow' (w : World) (k : Nat) (os : Array Obj) : Below w.heap.size w (Go.Sort.grow (w.drewN k) os) := by
  refine ⟨rfl, rfl, rfl, ?_, fun i hi => ?_⟩
  · show w.heap.size ≤ (w.heap ++ os).size
    rw [Array.size_append]; omega
  · show (w.heap ++ os)[i]? = _
    rw [Array.getElem?_append_left hi]
theorem wrap_i64_bounds {n : Int} (h : IntKind.i64.wrap n = n) : -9223372036854775808 ≤ n ∧ n ≤ 9223372036854775807 := by
  simp only [IntKind.wrap, IntKind.bits, IntKind.signed] at h
  simp at h
  omega
theorem wrap_i64_of {n : Int} (h0 : -9223372036854775808 ≤ n) (h1 : n ≤ 9223372036854775807) : IntKind.i64.wrap n = n := by
  simp only [IntKind.wrap, IntKind.bits, IntKind.signed]
  simp
  omega
theorem index_ge : ∀ (l t : List UInt8), -1 ≤ Lib.index l t
  | [], t => by unfold Lib.index; split <;> omega
  | b :: l, t => by
    have := index_ge l t
    unfold Lib.index
    split
    · omega
    · split <;> omega
theorem index_le : ∀ (l t : List UInt8), Lib.index l t ≤ l.length
  | [], t => by unfold Lib.index; split <;> simp
  | b :: l, t => by
    have := index_le l t
    unfold Lib.index
    simp only [List.length_cons]
    split
    · omega
    · split <;> omega
theorem splitB_size (t : ByteArray) (sv : Nat) : ∀ (k : Nat) (s x : ByteArray), x ∈ Lib.splitB t sv k s → x.size ≤ s.size
  | 0, s, x, h => by simp [Lib.splitB] at h; subst h; exact Nat.le_refl _
  | k + 1, s, x, h => by
    unfold Lib.splitB at h
    split at h
    · simp at h; subst h; exact Nat.le_refl _
    · rcases List.mem_cons.1 h with rfl | h
      · simp [ByteArray.size_extract]; omega
      · have := splitB_size t sv k _ x h
        rw [ByteArray.size_extract] at this
        omega
theorem run_le (s : ByteArray) : ∀ (b p : Nat), p ≤ s.size → Dig.run s b p ≤ s.size
  | 0, p, h => h
  | b + 1, p, h => by
    unfold Dig.run
    split
    · split
      · exact run_le s b (p + 1) (by omega)
      · exact h
    · exact h
theorem valued_wrap (s : ByteArray) (b : Bool) : IntKind.i64.wrap (Dig.valued s b).1 = (Dig.valued s b).1 := by
  unfold Dig.valued
  split
  · rfl
  · split
    · split
      · exact wrap_i64_of (by simp only; omega) (by simp only; omega)
      · rfl
    · split
      · exact wrap_i64_of (by simp only; omega) (by simp only; omega)
      · rfl

def x_FormatInt (a0 a1 : Int) : Option ByteArray := if a1 = 10 then some ⟨(Lib.itoa a0).toArray⟩ else none
theorem x_FormatInt_con (v : DT [(.int .i64, false), (.int .i64, false)]) (y : ByteArray) (h : x_FormatInt v.1 v.2.1 = some y) : Con Tryd.prog GL 87 ((putD [(.int .i64, false), (.int .i64, false)] v).map .p) [] (.ret (putR [(.str, false)] (y, ()))) [] := by
  refine Con.below GL.below fun w W g vs hG hW hv => ?_
  obtain ⟨vs, rfl, h0, hv⟩ := PVs_int hv
  obtain ⟨vs, rfl, h1, hv⟩ := PVs_int hv
  obtain rfl := PVs_nil hv
  unfold x_FormatInt at h
  split at h
  · rename_i e
    cases h
    rw [e]
    have hb := wrap_i64_bounds h0
    refine (Tryd.strconv_FormatInt_10 v.1 hb.1 hb.2 w hG.pow10).mono ?_
    rintro e w' ⟨rfl, k, os, rfl⟩
    refine ⟨below_grow' _ _ _, _, rfl, rfl, ?_⟩
    have := Lib.itoa_length_le v.1 hb.1 hb.2
    show (Lib.itoa v.1).length ≤ _
    omega
  · cases h
noncomputable def x_FormatInt_fd : FD Tryd.prog GL := .data 87 [(.int .i64, false), (.int .i64, false)] [(.str, false)] id (fun v => x_FormatInt v.1 v.2.1) (fun y => (y, ())) (extFn Tryd.func87 (by kernel_rfl)) (fun v y h => x_FormatInt_con v y h)

def x_Join (l : List ByteArray) (s : ByteArray) : Option ByteArray := if (Lib.join (l.map (·.data.toList)) s.data.toList).length ≤ 140737488355328 ∧ l.length ≤ 140737488355328 then some ⟨(Lib.join (l.map (·.data.toList)) s.data.toList).toArray⟩ else none
theorem x_Join_con (v : DT [(.list .str, false), (.str, false)]) (y : ByteArray) (h : x_Join v.1 v.2.1 = some y) : Con Tryd.prog GL 75 ((putD [(.list .str, false), (.str, false)] v).map .p) [] (.ret (putR [(.str, false)] (y, ()))) [] := by
  refine Con.below GL.below fun w W g vs hG hW hv => ?_
  obtain ⟨A, c, vs, rfl, hc, hc2, hl, hv⟩ := PVs_lst hv
  obtain ⟨vs, rfl, h1, hv⟩ := PVs_str hv
  obtain rfl := PVs_nil hv
  obtain ⟨l, s, _⟩ := v
  simp only at h hl hc h1 ⊢
  unfold x_Join at h
  split at h
  · rename_i e
    cases h
    have hfin : lenOk (ByteArray.mk (Lib.join (l.map (·.data.toList)) s.data.toList).toArray).size := by
      exact Nat.le_trans (show (Lib.join (l.map (·.data.toList)) s.data.toList).length ≤ 140737488355328 from e.1) (by omega)
    rcases LC_str hl with rfl | ⟨b, o, rfl, hcell⟩
    · refine (Tryd.strings_Join_none A c s w).mono ?_
      rintro e w' ⟨rfl, rfl⟩
      exact ⟨Below.refl _ _, _, rfl, rfl, hfin⟩
    · by_cases hz : l = []
      · subst hz
        refine (Tryd.strings_Join_none _ c s w).mono ?_
        rintro e w' ⟨rfl, rfl⟩
        exact ⟨Below.refl _ _, _, rfl, rfl, hfin⟩
      · have hpos : 0 < l.length := List.length_pos_iff.2 hz
        have h0 := hcell 0 (l[0]'hpos) (List.getElem?_eq_getElem hpos)
        refine (Tryd.strings_Join b o c l s w hcell (World.block_lt_of_cell? w _ h0) e.2 hc e.1).mono ?_
        rintro e w' ⟨rfl, bel⟩
        exact ⟨bel, _, rfl, rfl, hfin⟩
  · cases h
noncomputable def x_Join_fd : FD Tryd.prog GL := .data 75 [(.list .str, false), (.str, false)] [(.str, false)] id (fun v => x_Join v.1 v.2.1) (fun y => (y, ())) (extFn Tryd.func75 (by kernel_rfl)) (fun v y h => x_Join_con v y h)

def x_Index (s t : ByteArray) : Option Int := if s.size < 4294967281 then some (Lib.index s.data.toList t.data.toList) else none
theorem x_Index_con (v : DT [(.str, false), (.str, false)]) (y : Int) (h : x_Index v.1 v.2.1 = some y) : Con Tryd.prog GL 71 ((putD [(.str, false), (.str, false)] v).map .p) [] (.ret (putR [(.int .i64, false)] (y, ()))) [] := by
  refine Con.below GL.below fun w W g vs hG hW hv => ?_
  obtain ⟨vs, rfl, h0, hv⟩ := PVs_str hv
  obtain ⟨vs, rfl, h1, hv⟩ := PVs_str hv
  obtain rfl := PVs_nil hv
  unfold x_Index at h
  split at h
  · rename_i e
    cases h
    obtain ⟨m, hm⟩ := hG.maxLen
    refine (Tryd.strings_Index v.1 v.2.1 m w e hm).mono ?_
    rintro e w' ⟨rfl, rfl⟩
    refine ⟨Below.refl _ _, _, rfl, rfl, ?_⟩
    have h1 := index_ge v.1.data.toList v.2.1.data.toList
    have h2 := index_le v.1.data.toList v.2.1.data.toList
    have h3 : v.1.data.toList.length = v.1.size := by simp
    exact wrap_i64_of (by omega) (by omega)
  · cases h
noncomputable def x_Index_fd : FD Tryd.prog GL := .data 71 [(.str, false), (.str, false)] [(.int .i64, false)] id (fun v => x_Index v.1 v.2.1) (fun y => (y, ())) (extFn Tryd.func71 (by kernel_rfl)) (fun v y h => x_Index_con v y h)

def x_Split (s t : ByteArray) : Option (List ByteArray) := if s.size < 4294967281 ∧ 1 ≤ t.size then some (Lib.splitB t 0 (Lib.countB s t) s) else none
theorem x_Split_con (v : DT [(.str, false), (.str, false)]) (y : List ByteArray) (h : x_Split v.1 v.2.1 = some y) : Con Tryd.prog GL 85 ((putD [(.str, false), (.str, false)] v).map .p) [] (.ret (putR [(.list .str, false)] (y, ()))) [] := by
  refine Con.below GL.below fun w W g vs hG hW hv => ?_
  obtain ⟨vs, rfl, h0, hv⟩ := PVs_str hv
  obtain ⟨vs, rfl, h1, hv⟩ := PVs_str hv
  obtain rfl := PVs_nil hv
  obtain ⟨s, t, _⟩ := v
  simp only at h h0 h1 ⊢
  unfold x_Split at h
  split at h
  · rename_i e
    cases h
    obtain ⟨m, hm⟩ := hG.maxLen
    have hle : Lib.countB s t ≤ s.size := Lib.countB_le t e.2 _ s (Nat.le_refl _)
    have hl : (Lib.splitB t 0 (Lib.countB s t) s).length = Lib.countB s t + 1 := Lib.splitB_all t e.2 0 _ s rfl
    refine (Tryd.strings_Split s t m w e.1 hm e.2).mono ?_
    rintro e' w' ⟨rfl, rfl⟩
    rw [← hl]
    refine ⟨(Below.refl _ _).alloc (Nat.le_refl _) _, _, rfl, _, _, rfl, Nat.le_refl _, by unfold lenOk; omega, ?_⟩
    exact LC_fresh (T := 9) (z := (0, 0)) hW (by exact Array.getElem?_push_size) (fun x hx => by have := splitB_size t 0 (Lib.countB s t) s x hx; unfold lenOk; omega)
  · cases h
noncomputable def x_Split_fd : FD Tryd.prog GL := .data 85 [(.str, false), (.str, false)] [(.list .str, false)] id (fun v => x_Split v.1 v.2.1) (fun y => (y, ())) (extFn Tryd.func85 (by kernel_rfl)) (fun v y h => x_Split_con v y h)

def x_long (s : ByteArray) : Option Int := some (Dig.run s s.size 0 : Nat)
theorem x_long_con (v : DT [(.str, false)]) (y : Int) (h : x_long v.1 = some y) : Con Tryd.prog GL 92 ((putD [(.str, false)] v).map .p) [] (.ret (putR [(.int .i64, false)] (y, ()))) [] := by
  refine Con.below GL.below fun w W g vs hG hW hv => ?_
  obtain ⟨vs, rfl, h0, hv⟩ := PVs_str hv
  obtain rfl := PVs_nil hv
  cases h
  have h0' : v.1.size ≤ 9223372036854775807 := h0
  refine (Dig.long_walk v.1 w (by omega)).mono ?_
  rintro e w' ⟨rfl, n, rfl⟩
  refine ⟨(Below.refl _ _).alloc (Nat.le_refl _) _, _, rfl, rfl, ?_⟩
  have := run_le v.1 v.1.size 0 (Nat.zero_le _)
  exact wrap_i64_of (by omega) (by omega)
noncomputable def x_long_fd : FD Tryd.prog GL := .data 92 [(.str, false)] [(.int .i64, false)] id (fun v => x_long v.1) (fun y => (y, ())) (extFn Tryd.func92 (by kernel_rfl)) (fun v y h => x_long_con v y h)

def x_valued (s : ByteArray) (b : Bool) : Option (Int × Bool) := if s.data.toList.all Dig.isDig = true then some (Dig.valued s b) else none
theorem x_valued_con (v : DT [(.str, false), (.bool, false)]) (y : Int × Bool) (h : x_valued v.1 v.2.1 = some y) : Con Tryd.prog GL 93 ((putD [(.str, false), (.bool, false)] v).map .p) [] (.ret (putR [(.int .i64, false), (.bool, false)] (y.1, y.2, ()))) [] := by
  refine Con.below GL.below fun w W g vs hG hW hv => ?_
  obtain ⟨vs, rfl, h0, hv⟩ := PVs_str hv
  obtain ⟨vs, rfl, hv2⟩ := PVs_bool (b := v.2.1) (ps := []) hv
  obtain rfl := PVs_nil hv2
  unfold x_valued at h
  split at h
  · rename_i e
    cases h
    refine (Dig.valued_walk v.1 v.2.1 w (Dig.alls_of e)).mono ?_
    have hw := valued_wrap v.1 v.2.1
    rintro e w' ⟨rfl, rfl | ⟨n, rfl⟩⟩
    · exact ⟨Below.refl _ _, _, rfl, _, rfl, ⟨rfl, hw⟩, rfl, trivial⟩
    · exact ⟨(Below.refl _ _).alloc (Nat.le_refl _) _, _, rfl, _, rfl, ⟨rfl, hw⟩, rfl, trivial⟩
  · cases h
noncomputable def x_valued_fd : FD Tryd.prog GL := .data 93 [(.str, false), (.bool, false)] [(.int .i64, false), (.bool, false)] id (fun v => x_valued v.1 v.2.1) (fun y => (y.1, y.2, ())) (extFn Tryd.func93 (by kernel_rfl)) (fun v y h => x_valued_con v y h)
def x_Clone47 (l : List Int) : Option (List Int) := if l.length * 8 ≤ 140737488355328 then some l else none
theorem x_Clone47_con (v : DT [(.list (.int .i64), false)]) (y : List Int) (h : x_Clone47 v.1 = some y) : Con Tryd.prog GL 66 ((putD [(.list (.int .i64), false)] v).map .p) [] (.ret (putR [(.list (.int .i64), false)] (y, ()))) [] := by
  refine Con.below GL.below fun w W g vs hG hW hv => ?_
  obtain ⟨A, c, vs, rfl, hc, hc2, hl, hv⟩ := PVs_lst hv
  obtain rfl := PVs_nil hv
  obtain ⟨l, _⟩ := v
  simp only at h hl hc ⊢
  unfold x_Clone47 at h
  split at h
  · rename_i e
    have hy : l = y := Option.some.inj h
    subst hy
    have none_case : ∀ n c', List.length l = 0 → Calls Tryd.prog 66 (List.toArray [.slice none n c']) w fun e w' => Below w.heap.size w w' ∧ ∃ v, e = .returned v ∧ PV w' W (lk []) g v (putR [(.list (.int .i64), false)] (l, ())) := by
      intro n c' h0
      have : l = [] := List.eq_nil_of_length_eq_zero h0
      subst this
      refine (Tryd.slices_Clone_int_nil n c' w).mono ?_
      rintro e' w' ⟨rfl, rfl⟩
      exact ⟨Below.refl _ _, _, rfl, none, 0, rfl, Nat.le_refl _, by simp [lenOk], .inl rfl⟩
    have fin : ∀ (v' : Value) (w' : World), w'.ownsRow w.heap.size 2 1 v' (List.length l) (l.map (Value.int .i64)) → Below w.heap.size w w' → (∀ x ∈ l, IntKind.i64.wrap x = x) → PV w' W (lk []) g v' (putR [(.list (.int .i64), false)] (l, ())) := by
      intro v' w' hrow bel hwr
      refine DV_of_row (e := .int .i64) (xs := l.map (Value.int .i64)) (row_base hrow) ⟨by simp [Ty.sz], fun i x hx => ⟨[.int .i64 x], rfl, ⟨rfl, hwr x (List.mem_of_getElem? hx)⟩, fun j u hu => ?_⟩⟩ ?_
      · cases j with
        | zero => simp at hu; subst hu; simp [Ty.sz, hx]
        | succ j => simp at hu
      · intro b1 o1 hb1 _ hw
        have h1 := (hrow.lt b1 hb1).1
        have h2 := hW b1 o1 hw
        omega
    have hwr : ∀ x ∈ l, IntKind.i64.wrap x = x := by
      intro x hx
      obtain ⟨i, hi⟩ := List.getElem?_of_mem hx
      obtain ⟨_, _, _, vs, _, hd, _⟩ := hl.get hi
      exact hd.2
    cases A with
    | none =>
      refine none_case _ _ ?_
      rcases hl with h | ⟨b, o, h, _⟩
      · rw [h]; rfl
      · cases h
    | some ad =>
      by_cases h0 : l = []
      · subst h0
        refine (Tryd.slices_Clone_int_zero ad c w).mono ?_
        rintro e' w' ⟨v', rfl, hrow, _, bel⟩
        exact ⟨bel, v', rfl, fin v' w' hrow bel hwr⟩
      · rcases hl with h | ⟨b, o, h, hL⟩
        · exact absurd h h0
        · cases h
          refine (Tryd.slices_Clone_int b o (List.length l) c l w (Nat.le_refl _) e (fun j hj => ?_)).mono ?_
          · obtain ⟨vs, h1, h2, h3⟩ := hL j _ (List.getElem?_eq_getElem hj)
            obtain ⟨rfl, _⟩ := h2
            have := (h3 0 _ rfl).1
            simpa [Ty.sz, List.getD_eq_getElem?_getD, List.getElem?_eq_getElem hj] using this
          · rintro e' w' ⟨v', rfl, hrow, _, bel⟩
            rw [List.take_length] at hrow
            exact ⟨bel, v', rfl, fin v' w' hrow bel hwr⟩
  · cases h
noncomputable def x_Clone47_fd : FD Tryd.prog GL := .data 66 [(.list (.int .i64), false)] [(.list (.int .i64), false)] id (fun v => x_Clone47 v.1) (fun y => (y, ())) (extFn Tryd.func66 (by kernel_rfl)) (fun v y h => x_Clone47_con v y h)
end Go.Proofs.YtpmnhbjbkoackaaDoor.En
