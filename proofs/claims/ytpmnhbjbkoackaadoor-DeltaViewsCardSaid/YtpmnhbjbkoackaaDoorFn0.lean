/- The functions of the program as plain functions, and that they are so. -/
import Derived.Test.YtpmnhbjbkoackaaDoorTb
namespace Go.Proofs.YtpmnhbjbkoackaaDoor.En
open Go Go.RowKit Go.Proofs
set_option linter.unusedVariables false
set_option linter.unusedSimpArgs false
set_option maxRecDepth 20000

/-! digits_Words -/
noncomputable def digits_Words.f (k : Nat) (s1 : ByteArray) : Option ((List ByteArray)) :=
  (x_Split s1 (bs [32])).bind fun y2 =>
  some y2
@[reducible] noncomputable def digits_Words.V (k : Nat) : Env Tryd.prog GL := mkV [] [x_Split_fd]
noncomputable def digits_Words.fd (k : Nat) : FD Tryd.prog GL := .of (digits_Words.V k) 70 Tryd.f70 Tryd.func70 [(.str, false)] [(.list .str, false)] id (fun v => digits_Words.f k v.1) (fun v => v.1) (fun v => (v, ())) .no (by kernel_rfl) (by intro x; kernel_rfl) (by kernel_rfl) (by intro v; kernel_rfl)
/-! internal_stringslite_HasPrefix -/
noncomputable def internal_stringslite_HasPrefix.f (k : Nat) (s1 : ByteArray) (prefix2 : ByteArray) : Option (Bool) :=
  if (decide ((prefix2.size : Int) ≤ (s1.size : Int))) = true then
    if 0 ≤ (0 : Int) ∧ (0 : Int) ≤ (prefix2.size : Int) ∧ (prefix2.size : Int) ≤ (s1.size : Int) then
    some ((s1.extract ((0 : Int)).toNat ((prefix2.size : Int)).toNat).toList == prefix2.toList)
    else none
  else
  some false
@[reducible] noncomputable def internal_stringslite_HasPrefix.V (k : Nat) : Env Tryd.prog GL := mkV [] []
noncomputable def internal_stringslite_HasPrefix.fd (k : Nat) : FD Tryd.prog GL := .of (internal_stringslite_HasPrefix.V k) 114 Tryd.f114 Tryd.func114 [(.str, false), (.str, false)] [(.bool, false)] id (fun v => internal_stringslite_HasPrefix.f k v.1 v.2.1) (fun v => v.1) (fun v => (v, ())) .no (by kernel_rfl) (by intro x; kernel_rfl) (by kernel_rfl) (by intro v; kernel_rfl)
/-! internal_stringslite_CutPrefix -/
noncomputable def internal_stringslite_CutPrefix.f (k : Nat) (s1 : ByteArray) (prefix2 : ByteArray) : Option (ByteArray × Bool) :=
  (internal_stringslite_HasPrefix.f k s1 prefix2).bind fun y3 =>
  if (!y3) = true then
    some (s1, false)
  else
  if 0 ≤ (prefix2.size : Int) ∧ (prefix2.size : Int) ≤ (s1.size : Int) ∧ (s1.size : Int) ≤ (s1.size : Int) then
  some ((s1.extract ((prefix2.size : Int)).toNat ((s1.size : Int)).toNat), true)
  else none
@[reducible] noncomputable def internal_stringslite_CutPrefix.V (k : Nat) : Env Tryd.prog GL := mkV [] [internal_stringslite_HasPrefix.fd k]
noncomputable def internal_stringslite_CutPrefix.fd (k : Nat) : FD Tryd.prog GL := .of (internal_stringslite_CutPrefix.V k) 104 Tryd.f104 Tryd.func104 [(.str, false), (.str, false)] [(.str, false), (.bool, false)] id (fun v => internal_stringslite_CutPrefix.f k v.1 v.2.1) (fun v => (v.1, v.2.1)) (fun v => (v.1, v.2, ())) .no (by kernel_rfl) (by intro x; kernel_rfl) (by kernel_rfl) (by intro v; kernel_rfl)
/-! strings_CutPrefix -/
noncomputable def strings_CutPrefix.f (k : Nat) (s1 : ByteArray) (prefix2 : ByteArray) : Option (ByteArray × Bool) :=
  (internal_stringslite_CutPrefix.f k s1 prefix2).bind fun y3 =>
  some (y3.1, y3.2)
@[reducible] noncomputable def strings_CutPrefix.V (k : Nat) : Env Tryd.prog GL := mkV [] [internal_stringslite_CutPrefix.fd k]
noncomputable def strings_CutPrefix.fd (k : Nat) : FD Tryd.prog GL := .of (strings_CutPrefix.V k) 91 Tryd.f91 Tryd.func91 [(.str, false), (.str, false)] [(.str, false), (.bool, false)] id (fun v => strings_CutPrefix.f k v.1 v.2.1) (fun v => (v.1, v.2.1)) (fun v => (v.1, v.2, ())) .no (by kernel_rfl) (by intro x; kernel_rfl) (by kernel_rfl) (by intro v; kernel_rfl)
/-! digits_Get -/
noncomputable def digits_Get.f (k : Nat) (s1 : ByteArray) : Option (Int × Bool) :=
  (strings_CutPrefix.f k s1 (bs [45])).bind fun y2 =>
  (x_long y2.1).bind fun y3 =>
  if (y3 != (y2.1.size : Int)) = true then
    some ((0 : Int), false)
  else
  (x_valued y2.1 y2.2).bind fun y4 =>
  some (y4.1, y4.2)
@[reducible] noncomputable def digits_Get.V (k : Nat) : Env Tryd.prog GL := mkV [] [strings_CutPrefix.fd k, x_long_fd, x_valued_fd]
noncomputable def digits_Get.fd (k : Nat) : FD Tryd.prog GL := .of (digits_Get.V k) 84 Tryd.f84 Tryd.func84 [(.str, false)] [(.int .i64, false), (.bool, false)] id (fun v => digits_Get.f k v.1) (fun v => (v.1, v.2.1)) (fun v => (v.1, v.2, ())) .no (by kernel_rfl) (by intro x; kernel_rfl) (by kernel_rfl) (by intro v; kernel_rfl)
/-! digits_Nums -/
noncomputable def digits_Nums.l0 (k : Nat) : Nat → (List Int) → (List ByteArray) → Int → Int → Option (((List Int) × Bool) ⊕ ((List Int)))
  | 0, _, _, _, _ => none
  | n + 1, out2, x3, x4, x5 =>
    if (decide (x5 < x4)) = true then
      if 0 ≤ x5 ∧ x5 < List.length x3 then
      (digits_Get.f k (rdT .str x3 x5)).bind fun y6 =>
      if (!y6.2) = true then
        some (.inl (([] : List Int), false))
      else
      if (List.length out2 + List.length [y6.1]) * 8 ≤ 140737488355328 ∧ List.length out2 + List.length [y6.1] ≤ 9223372036854775807 then
      digits_Nums.l0 k n (out2 ++ [y6.1]) x3 x4 (wrap64 (x5 + (1 : Int)))
      else none
      else none
    else
    some (.inr out2)
noncomputable def digits_Nums.f (k : Nat) (words1 : (List ByteArray)) : Option ((List Int) × Bool) :=
  (digits_Nums.l0 k k ([] : List Int) words1 (List.length words1 : Int) (0 : Int)).bind fun r => match r with
  | .inl r7 =>
    some (r7.1, r7.2)
  | .inr r8 =>
    some (r8, true)
@[reducible] noncomputable def digits_Nums.V (k : Nat) : Env Tryd.prog GL := mkV [] [digits_Get.fd k]
def digits_Nums.l0.s : Pt := ⟨⟨28, [(4, .one (.t (.int .i64) 2 1001)), (9, .one (.v (.list .str))), (10, .one (.v (.int .i64))), (11, .one (.v (.int .i64)))], [], [(1001, none)], []⟩, (List Int) × (List ByteArray) × Int × Int, fun v => (v.1.1, v.1.2.1, v.1.2.2.1, v.1.2.2.2.1), fun v => ((v.1, v.2.1, v.2.2.1, v.2.2.2, ()), (), ()), by intro v; kernel_rfl⟩
def digits_Nums.l0.x : List (PE × Pt) := [(.ret, ⟨⟨28, [(2, .one (.t (.int .i64) 2 2002)), (3, .one (.v .bool))], [], [(2002, none)], []⟩, (List Int) × Bool, fun v => (v.1.1, v.1.2.1), fun v => ((v.1, v.2, ()), (), ()), by intro v; kernel_rfl⟩), (.exit 0, ⟨⟨28, [(4, .one (.t (.int .i64) 2 1001))], [], [(1001, none)], []⟩, (List Int), fun v => v.1.1, fun v => ((v, ()), (), ()), by intro v; kernel_rfl⟩)]
noncomputable def digits_Nums.l0.d (k : Nat) : CD Tryd.prog GL [] := .loop (digits_Nums.V k) (bodyOf Tryd.f72).M.M.L.M.L.L .no digits_Nums.l0.s digits_Nums.l0.x (fun n v => digits_Nums.l0 k n v.1 v.2.1 v.2.2.1 v.2.2.2) k (by kernel_rfl) (fun _ => rfl) (by intro n v; kernel_rfl)
noncomputable def digits_Nums.fd (k : Nat) : FD Tryd.prog GL := .of (digits_Nums.V k) 72 Tryd.f72 Tryd.func72 [(.list .str, false)] [(.list (.int .i64), false), (.bool, false)] id (fun v => digits_Nums.f k v.1) (fun v => (v.1, v.2.1)) (fun v => (v.1, v.2, ())) (.node .no (.node .no (.node (.node .no (.node (.cut (digits_Nums.l0.d k)) .no)) .no))) (by kernel_rfl) (by intro x; kernel_rfl) (by kernel_rfl) (by intro v; kernel_rfl)
/-! record_Read -/
noncomputable def record_Read.j0 (k : Nat) (l4 : (List ByteArray)) (nums5 : (List Int)) (x6 : Int) (x7 : Int) (x8 : Int) (x9 : (List Int)) (r10 : Int) (r11 : Int) (r12 : Int) (r13 : (List Int)) : Option ((Bool × Int × Int × Int × (List Int)) ⊕ ((List Int) × Int × Int × Int × (List Int) × Int × Int × Int × (List Int))) :=
  if 0 ≤ (0 : Int) ∧ (0 : Int) < List.length l4 then
  if ((rdT .str l4 (0 : Int)).toList == (bs [119]).toList) = true then
    if (decide ((1 : Int) < (List.length nums5 : Int))) = true then
      some (.inl (false, (0 : Int), (0 : Int), (0 : Int), ([] : List Int)))
    else
    some (.inl (true, (2 : Int), r11, r12, r13))
  else
  if ((rdT .str l4 (0 : Int)).toList == (bs [120]).toList) = true then
    some (.inr (nums5, x6, x7, x8, x9, (3 : Int), r11, r12, r13))
  else
  if ((rdT .str l4 (0 : Int)).toList == (bs [101]).toList) = true then
    some (.inr (nums5, x6, x7, x8, x9, (1 : Int), r11, r12, r13))
  else
  some (.inl (false, (0 : Int), (0 : Int), (0 : Int), ([] : List Int)))
  else none
noncomputable def record_Read.f (k : Nat) (line1 : ByteArray) : Option ((Int × Int × Int × (List Int)) × Bool) :=
  (digits_Words.f k line1).bind fun y2 =>
  if 0 ≤ (1 : Int) ∧ (1 : Int) ≤ (List.length y2 : Int) ∧ (List.length y2 : Int) ≤ (List.length y2 : Int) then
  (digits_Nums.f k (cutL y2 (1 : Int) (List.length y2 : Int))).bind fun y3 =>
  if (!y3.2) = true then
    some (((0 : Int), (0 : Int), (0 : Int), ([] : List Int)), false)
  else
  if ((List.length y3.1 : Int) == (0 : Int)) = true then
    some (((0 : Int), (0 : Int), (0 : Int), ([] : List Int)), false)
  else
  if 0 ≤ (0 : Int) ∧ (0 : Int) < List.length y3.1 then
  (record_Read.j0 k y2 y3.1 (0 : Int) (0 : Int) (0 : Int) ([] : List Int) (0 : Int) (rdT (.int .i64) y3.1 (0 : Int)) (0 : Int) ([] : List Int)).bind fun r => match r with
  | .inl r14 =>
    some (r14.2, r14.1)
  | .inr r15 =>
    if (decide ((List.length r15.1 : Int) < (2 : Int))) = true then
      some (((0 : Int), (0 : Int), (0 : Int), ([] : List Int)), false)
    else
    if (r15.2.2.2.2.2.1 == (3 : Int)) = true then
      if (decide ((2 : Int) < (List.length r15.1 : Int))) = true then
        some (((0 : Int), (0 : Int), (0 : Int), ([] : List Int)), false)
      else
      if 0 ≤ (1 : Int) ∧ (1 : Int) < List.length r15.1 then
      if 0 ≤ (2 : Int) ∧ (2 : Int) ≤ (List.length r15.1 : Int) ∧ (List.length r15.1 : Int) ≤ (List.length r15.1 : Int) then
      some ((r15.2.2.2.2.2.1, r15.2.2.2.2.2.2.1, (rdT (.int .i64) r15.1 (1 : Int)), (cutL r15.1 (2 : Int) (List.length r15.1 : Int))), true)
      else none
      else none
    else
    if 0 ≤ (1 : Int) ∧ (1 : Int) < List.length r15.1 then
    if 0 ≤ (2 : Int) ∧ (2 : Int) ≤ (List.length r15.1 : Int) ∧ (List.length r15.1 : Int) ≤ (List.length r15.1 : Int) then
    some ((r15.2.2.2.2.2.1, r15.2.2.2.2.2.2.1, (rdT (.int .i64) r15.1 (1 : Int)), (cutL r15.1 (2 : Int) (List.length r15.1 : Int))), true)
    else none
    else none
  else none
  else none
@[reducible] noncomputable def record_Read.V (k : Nat) : Env Tryd.prog GL := mkV [] [digits_Words.fd k, digits_Nums.fd k]
def record_Read.j0.s : Pt := ⟨⟨68, [(2, .one (.p 2 0)), (4, .one (.v (.list .str))), (5, .one (.v (.list (.int .i64)))), (7, .one (.p 7 0))], [(2, [.v (.int .i64), .v (.int .i64), .v (.int .i64), .t (.int .i64) 2 2001]), (7, [.v (.int .i64), .v (.int .i64), .v (.int .i64), .t (.int .i64) 2 2002])], [(2001, none), (2002, none)], []⟩, (List ByteArray) × (List Int) × Int × Int × Int × (List Int) × Int × Int × Int × (List Int), fun v => (v.1.2.1, v.1.2.2.1, v.2.1.1.1, v.2.1.1.2.1, v.2.1.1.2.2.1, v.2.1.1.2.2.2.1, v.2.1.2.1.1, v.2.1.2.1.2.1, v.2.1.2.1.2.2.1, v.2.1.2.1.2.2.2.1), fun v => (((), v.1, v.2.1, (), ()), ((v.2.2.1, v.2.2.2.1, v.2.2.2.2.1, v.2.2.2.2.2.1, ()), (v.2.2.2.2.2.2.1, v.2.2.2.2.2.2.2.1, v.2.2.2.2.2.2.2.2.1, v.2.2.2.2.2.2.2.2.2, ()), ()), ()), by intro v; kernel_rfl⟩
def record_Read.j0.x : List (PE × Pt) := [(.ret, ⟨⟨68, [(2, .one (.p 2 0)), (3, .one (.v .bool))], [(2, [.v (.int .i64), .v (.int .i64), .v (.int .i64), .t (.int .i64) 2 1001])], [(1001, none)], []⟩, Bool × Int × Int × Int × (List Int), fun v => (v.1.2.1, v.2.1.1.1, v.2.1.1.2.1, v.2.1.1.2.2.1, v.2.1.1.2.2.2.1), fun v => (((), v.1, ()), ((v.2.1, v.2.2.1, v.2.2.2.1, v.2.2.2.2, ()), ()), ()), by intro v; kernel_rfl⟩), (.normal, ⟨⟨68, [(2, .one (.p 2 0)), (5, .one (.v (.list (.int .i64)))), (7, .one (.p 7 0))], [(2, [.v (.int .i64), .v (.int .i64), .v (.int .i64), .t (.int .i64) 2 1001]), (7, [.v (.int .i64), .v (.int .i64), .v (.int .i64), .t (.int .i64) 2 1002])], [(1001, none), (1002, none)], []⟩, (List Int) × Int × Int × Int × (List Int) × Int × Int × Int × (List Int), fun v => (v.1.2.1, v.2.1.1.1, v.2.1.1.2.1, v.2.1.1.2.2.1, v.2.1.1.2.2.2.1, v.2.1.2.1.1, v.2.1.2.1.2.1, v.2.1.2.1.2.2.1, v.2.1.2.1.2.2.2.1), fun v => (((), v.1, (), ()), ((v.2.1, v.2.2.1, v.2.2.2.1, v.2.2.2.2.1, ()), (v.2.2.2.2.2.1, v.2.2.2.2.2.2.1, v.2.2.2.2.2.2.2.1, v.2.2.2.2.2.2.2.2, ()), ()), ()), by intro v; kernel_rfl⟩)]
noncomputable def record_Read.j0.d (k : Nat) : CD Tryd.prog GL [] := .join (record_Read.V k) (bodyOf Tryd.f48).M.M.M.M.M.L (.node .no (.view [⟨68, [(2, .one (.p 2 0)), (5, .one (.v (.list (.int .i64)))), (7, .one (.p 7 0)), (30, .one (.v .str))], [(2, [.v (.int .i64), .v (.int .i64), .v (.int .i64), .t (.int .i64) 2 1001]), (7, [.v (.int .i64), .v (.int .i64), .v (.int .i64), .t (.int .i64) 2 1002])], [(1001, none), (1002, none)], []⟩] .no .no)) record_Read.j0.s record_Read.j0.x (fun v => record_Read.j0 k v.1 v.2.1 v.2.2.1 v.2.2.2.1 v.2.2.2.2.1 v.2.2.2.2.2.1 v.2.2.2.2.2.2.1 v.2.2.2.2.2.2.2.1 v.2.2.2.2.2.2.2.2.1 v.2.2.2.2.2.2.2.2.2) (by kernel_rfl) (by intro v; kernel_rfl)
noncomputable def record_Read.fd (k : Nat) : FD Tryd.prog GL := .of (record_Read.V k) 48 Tryd.f48 Tryd.func48 [(.str, false)] [(.pair (.int .i64) (.pair (.int .i64) (.pair (.int .i64) (.list (.int .i64)))), true), (.bool, false)] id (fun v => record_Read.f k v.1) (fun v => (v.1, v.2.1)) (fun v => (v.1, v.2, ())) (.node .no (.node .no (.node .no (.node .no (.node .no (.node (.cut (record_Read.j0.d k)) (.node .no (.node .no (.view [⟨68, [(2, .one (.p 2 0)), (7, .one (.p 7 0))], [(2, [.v (.int .i64), .v (.int .i64), .v (.int .i64), .t (.int .i64) 2 1001]), (7, [.v (.int .i64), .v (.int .i64), .v (.int .i64), .v (.list (.int .i64))])], [(1001, none)], []⟩] .no .no))))))))) (by kernel_rfl) (by intro x; kernel_rfl) (by kernel_rfl) (by intro v; kernel_rfl)
/-! law33_lives -/
noncomputable def law33_lives.f (k : Nat) : Option (Bool) :=
  (record_Read.f k (bs [101, 32, 53, 32, 48, 32, 55, 32, 45, 49])).bind fun y1 =>
  if y1.2 = true then
    if (y1.1.1 == (1 : Int)) = true then
      if (y1.1.2.1 == (5 : Int)) = true then
        if (y1.1.2.2.1 == (0 : Int)) = true then
          if ((List.length y1.1.2.2.2 : Int) == (2 : Int)) = true then
            if 0 ≤ (1 : Int) ∧ (1 : Int) < List.length y1.1.2.2.2 then
            some ((rdT (.int .i64) y1.1.2.2.2 (1 : Int)) == (-1 : Int))
            else none
          else
          some false
        else
        some false
      else
      some false
    else
    some false
  else
  some false
@[reducible] noncomputable def law33_lives.V (k : Nat) : Env Tryd.prog GL := mkV [] [record_Read.fd k]
noncomputable def law33_lives.fd (k : Nat) : FD Tryd.prog GL := .of (law33_lives.V k) 27 Tryd.f27 Tryd.func27 [] [(.bool, false)] id (fun v => law33_lives.f k) (fun v => v.1) (fun v => (v, ())) .no (by kernel_rfl) (by intro x; kernel_rfl) (by kernel_rfl) (by intro v; kernel_rfl)
/-! ref10_Words -/
noncomputable def ref10_Words.l0 (k : Nat) : Nat → ByteArray → Int → (List ByteArray) → Option (((List ByteArray)))
  | 0, _, _, _ => none
  | n + 1, s2, i3, row4 =>
    if (decide (i3 < (s2.size : Int))) = true then
      if 0 ≤ i3 ∧ i3 < s2.size then
      if ((byteAt s2 i3) == (32 : Int)) = true then
        if (List.length row4 + List.length [(bs [])]) * 16 ≤ 140737488355328 ∧ List.length row4 + List.length [(bs [])] ≤ 9223372036854775807 then
        ref10_Words.l0 k n s2 (wrap64 (i3 + (1 : Int))) (row4 ++ [(bs [])])
        else none
      else
      if 0 ≤ (wrap64 ((List.length row4 : Int) - (1 : Int))) ∧ (wrap64 ((List.length row4 : Int) - (1 : Int))) < List.length row4 then
      if 0 ≤ i3 ∧ i3 ≤ (wrap64 (i3 + (1 : Int))) ∧ (wrap64 (i3 + (1 : Int))) ≤ (s2.size : Int) then
      if (row4.getD ((wrap64 ((List.length row4 : Int) - (1 : Int)))).toNat (Ty.dflt .str)).size + (s2.extract (i3).toNat ((wrap64 (i3 + (1 : Int)))).toNat).size ≤ 9223372036854775807 then
      if 0 ≤ (wrap64 ((List.length row4 : Int) - (1 : Int))) ∧ (wrap64 ((List.length row4 : Int) - (1 : Int))) < List.length row4 then
      ref10_Words.l0 k n s2 (wrap64 (i3 + (1 : Int))) (row4.set ((wrap64 ((List.length row4 : Int) - (1 : Int)))).toNat ((row4.getD ((wrap64 ((List.length row4 : Int) - (1 : Int)))).toNat (Ty.dflt .str)) ++ (s2.extract (i3).toNat ((wrap64 (i3 + (1 : Int)))).toNat)))
      else none
      else none
      else none
      else none
      else none
    else
    some row4
noncomputable def ref10_Words.f (k : Nat) (s1 : ByteArray) : Option ((List ByteArray)) :=
  (ref10_Words.l0 k k s1 (0 : Int) [(bs [])]).bind fun r5 =>
  some r5
@[reducible] noncomputable def ref10_Words.V (k : Nat) : Env Tryd.prog GL := mkV [5, 18] []
def ref10_Words.l0.s : Pt := ⟨⟨33, [(0, .one (.v .str)), (3, .one (.r .str 9 1001)), (4, .one (.v (.int .i64)))], [], [(1001, some (.str, 9))], []⟩, ByteArray × Int × (List ByteArray), fun v => (v.1.1, v.1.2.2.1, v.2.2.1), fun v => ((v.1, (), v.2.1, ()), (), (v.2.2, ())), by intro v; kernel_rfl⟩
def ref10_Words.l0.x : List (PE × Pt) := [(.exit 0, ⟨⟨33, [(3, .one (.r .str 9 1001))], [], [(1001, some (.str, 9))], []⟩, (List ByteArray), fun v => v.2.2.1, fun v => (((), ()), (), (v, ())), by intro v; kernel_rfl⟩)]
noncomputable def ref10_Words.l0.d (k : Nat) : CD Tryd.prog GL [] := .loop (ref10_Words.V k) (bodyOf Tryd.f79).M.M.L.M.L.L .no ref10_Words.l0.s ref10_Words.l0.x (fun n v => ref10_Words.l0 k n v.1 v.2.1 v.2.2) k (by kernel_rfl) (fun _ => rfl) (by intro n v; kernel_rfl)
noncomputable def ref10_Words.fd (k : Nat) : FD Tryd.prog GL := .of (ref10_Words.V k) 79 Tryd.f79 Tryd.func79 [(.str, false)] [(.list .str, false)] id (fun v => ref10_Words.f k v.1) (fun v => v.1) (fun v => (v, ())) (.node .no (.node .no (.node (.node .no (.node (.cut (ref10_Words.l0.d k)) .no)) (.node .no (.view [⟨33, [(2, .one (.v (.list .str)))], [], [], []⟩] .no .no))))) (by kernel_rfl) (by intro x; kernel_rfl) (by kernel_rfl) (by intro v; kernel_rfl)
/-! ref10_long -/
noncomputable def ref10_long.l0 (k : Nat) : Nat → ByteArray → Int → Option ((Int))
  | 0, _, _ => none
  | n + 1, s2, n3 =>
    if (decide (n3 < (s2.size : Int))) = true then
      if 0 ≤ n3 ∧ n3 < s2.size then
      if (decide ((48 : Int) ≤ (byteAt s2 n3))) = true then
        if 0 ≤ n3 ∧ n3 < s2.size then
        if (decide ((byteAt s2 n3) ≤ (57 : Int))) = true then
          ref10_long.l0 k n s2 (wrap64 (n3 + (1 : Int)))
        else
        some n3
        else none
      else
      some n3
      else none
    else
    some n3
noncomputable def ref10_long.f (k : Nat) (s1 : ByteArray) : Option (Int) :=
  (ref10_long.l0 k k s1 (0 : Int)).bind fun r4 =>
  some r4
@[reducible] noncomputable def ref10_long.V (k : Nat) : Env Tryd.prog GL := mkV [] []
def ref10_long.l0.s : Pt := ⟨⟨23, [(0, .one (.v .str)), (3, .one (.v (.int .i64)))], [], [], []⟩, ByteArray × Int, fun v => (v.1.1, v.1.2.1), fun v => ((v.1, v.2, ()), (), ()), by intro v; kernel_rfl⟩
def ref10_long.l0.x : List (PE × Pt) := [(.exit 0, ⟨⟨23, [(3, .one (.v (.int .i64)))], [], [], []⟩, Int, fun v => v.1.1, fun v => ((v, ()), (), ()), by intro v; kernel_rfl⟩)]
noncomputable def ref10_long.l0.d (k : Nat) : CD Tryd.prog GL [] := .loop (ref10_long.V k) (bodyOf Tryd.f102).M.M.L.L.L .no ref10_long.l0.s ref10_long.l0.x (fun n v => ref10_long.l0 k n v.1 v.2) k (by kernel_rfl) (fun _ => rfl) (by intro n v; kernel_rfl)
noncomputable def ref10_long.fd (k : Nat) : FD Tryd.prog GL := .of (ref10_long.V k) 102 Tryd.f102 Tryd.func102 [(.str, false)] [(.int .i64, false)] id (fun v => ref10_long.f k v.1) (fun v => v.1) (fun v => (v, ())) (.node .no (.node .no (.node (.node (.cut (ref10_long.l0.d k)) .no) .no))) (by kernel_rfl) (by intro x; kernel_rfl) (by kernel_rfl) (by intro v; kernel_rfl)
/-! ref10_digits -/
noncomputable def ref10_digits.j0 (rf : Int → Option (ByteArray)) (k : Nat) (n2 : Int) (d3 : Int) : Option ((Int × Int)) :=
  if (decide (d3 < (0 : Int))) = true then
    some (n2, (wrap64 ((0 : Int) - d3)))
  else
  some (n2, d3)
noncomputable def ref10_digits.f : Nat → Int → Option (ByteArray)
  | 0, _ => none
  | k + 1, n1 =>
  if (10 : Int) ≠ 0 then
  (ref10_digits.j0 (ref10_digits.f k) k n1 (n1.tmod (10 : Int))).bind fun r4 =>
  if (10 : Int) ≠ 0 then
  if ((wrap64 (r4.1.tdiv (10 : Int))) == (0 : Int)) = true then
    some (strOfNums [((wrap64 ((48 : Int) + r4.2)) % 256)])
  else
  if (10 : Int) ≠ 0 then
  (ref10_digits.f k (wrap64 (r4.1.tdiv (10 : Int)))).bind fun y5 =>
  if y5.size + (strOfNums [((wrap64 ((48 : Int) + r4.2)) % 256)]).size ≤ 9223372036854775807 then
  some (y5 ++ (strOfNums [((wrap64 ((48 : Int) + r4.2)) % 256)]))
  else none
  else none
  else none
  else none
def ref10_digits.C (k : Nat) : Prop := ∀ (v : DT [(.int .i64, false)]) y, (fun v => ref10_digits.f k v.1) (id v) = some y → Con Tryd.prog GL 82 ((putD [(.int .i64, false)] v).map .p) [] (.ret (putR [(.str, false)] ((fun v => (v, ())) y))) []
@[reducible] noncomputable def ref10_digits.V (k : Nat) (ih : ref10_digits.C k) : Env Tryd.prog GL := mkV [] [.data 82 [(.int .i64, false)] [(.str, false)] id (fun v => ref10_digits.f k v.1) (fun v => (v, ())) (fnOk Tryd.func82 (by kernel_rfl)) ih]
def ref10_digits.j0.s : Pt := ⟨⟨25, [(0, .one (.v (.int .i64))), (3, .one (.v (.int .i64)))], [], [], []⟩, Int × Int, fun v => (v.1.1, v.1.2.1), fun v => ((v.1, v.2, ()), (), ()), by intro v; kernel_rfl⟩
def ref10_digits.j0.x : List (PE × Pt) := [(.normal, ⟨⟨25, [(0, .one (.v (.int .i64))), (3, .one (.v (.int .i64)))], [], [], []⟩, Int × Int, fun v => (v.1.1, v.1.2.1), fun v => ((v.1, v.2, ()), (), ()), by intro v; kernel_rfl⟩)]
noncomputable def ref10_digits.j0.d (k : Nat) (ih : ref10_digits.C k) : CD Tryd.prog GL [] := .join (ref10_digits.V k ih) (bodyOf Tryd.f82).M.M.L .no ref10_digits.j0.s ref10_digits.j0.x (fun v => ref10_digits.j0 (ref10_digits.f k) k v.1 v.2) (by kernel_rfl) (by intro v; kernel_rfl)
theorem ref10_digits.con (k : Nat) : ref10_digits.C k := by
  induction k with
  | zero => intro v y h; cases h
  | succ k ih => exact con_of (ref10_digits.V k ih) 82 Tryd.f82 Tryd.func82 [(.int .i64, false)] [(.str, false)] id (fun v => ref10_digits.f (k + 1) v.1) (fun v => v.1) (fun v => (v, ())) (.node .no (.node .no (.node (.cut (ref10_digits.j0.d k ih)) .no))) (by kernel_rfl) (by intro x; kernel_rfl) (by kernel_rfl) (by intro v; kernel_rfl)
noncomputable def ref10_digits.fd (k : Nat) : FD Tryd.prog GL := .data 82 [(.int .i64, false)] [(.str, false)] id (fun v => ref10_digits.f k v.1) (fun v => (v, ())) (fnOk Tryd.func82 (by kernel_rfl)) (ref10_digits.con k)
/-! ref10_value -/
noncomputable def ref10_value.l0 (k : Nat) : Nat → ByteArray → Bool → Int → Int → Option ((ByteArray × Bool × Int))
  | 0, _, _, _, _ => none
  | n + 1, s3, below4, n5, i6 =>
    if (decide (i6 < (s3.size : Int))) = true then
      if 0 ≤ i6 ∧ i6 < s3.size then
      if below4 = true then
        ref10_value.l0 k n s3 below4 (wrap64 ((wrap64 ((10 : Int) * n5)) - (wrap64 (((byteAt s3 i6) - (48 : Int)) % 256)))) (wrap64 (i6 + (1 : Int)))
      else
      ref10_value.l0 k n s3 below4 (wrap64 ((wrap64 ((10 : Int) * n5)) + (wrap64 (((byteAt s3 i6) - (48 : Int)) % 256)))) (wrap64 (i6 + (1 : Int)))
      else none
    else
    some (s3, below4, n5)
noncomputable def ref10_value.f (k : Nat) (s1 : ByteArray) (below2 : Bool) : Option (Int × Bool) :=
  if (s1.toList == (bs []).toList) = true then
    some ((0 : Int), false)
  else
  if (decide ((19 : Int) < (s1.size : Int))) = true then
    some ((0 : Int), false)
  else
  (ref10_value.l0 k k s1 below2 (0 : Int) (0 : Int)).bind fun r7 =>
  (ref10_digits.f k r7.2.2).bind fun y8 =>
  if (!(y8.toList == r7.1.toList)) = true then
    some ((0 : Int), false)
  else
  if (!(r7.2.1 == (decide (r7.2.2 < (0 : Int))))) = true then
    some ((0 : Int), false)
  else
  some (r7.2.2, true)
@[reducible] noncomputable def ref10_value.V (k : Nat) : Env Tryd.prog GL := mkV [] [ref10_digits.fd k]
def ref10_value.l0.s : Pt := ⟨⟨49, [(0, .one (.v .str)), (1, .one (.v .bool)), (6, .one (.v (.int .i64))), (7, .one (.v (.int .i64)))], [], [], []⟩, ByteArray × Bool × Int × Int, fun v => (v.1.1, v.1.2.1, v.1.2.2.1, v.1.2.2.2.1), fun v => ((v.1, v.2.1, v.2.2.1, v.2.2.2, ()), (), ()), by intro v; kernel_rfl⟩
def ref10_value.l0.x : List (PE × Pt) := [(.exit 0, ⟨⟨49, [(0, .one (.v .str)), (1, .one (.v .bool)), (6, .one (.v (.int .i64)))], [], [], []⟩, ByteArray × Bool × Int, fun v => (v.1.1, v.1.2.1, v.1.2.2.1), fun v => ((v.1, v.2.1, v.2.2, ()), (), ()), by intro v; kernel_rfl⟩)]
noncomputable def ref10_value.l0.d (k : Nat) : CD Tryd.prog GL [] := .loop (ref10_value.V k) (bodyOf Tryd.f103).M.M.M.L.M.L.L .no ref10_value.l0.s ref10_value.l0.x (fun n v => ref10_value.l0 k n v.1 v.2.1 v.2.2.1 v.2.2.2) k (by kernel_rfl) (fun _ => rfl) (by intro n v; kernel_rfl)
noncomputable def ref10_value.fd (k : Nat) : FD Tryd.prog GL := .of (ref10_value.V k) 103 Tryd.f103 Tryd.func103 [(.str, false), (.bool, false)] [(.int .i64, false), (.bool, false)] id (fun v => ref10_value.f k v.1 v.2.1) (fun v => (v.1, v.2.1)) (fun v => (v.1, v.2, ())) (.node .no (.node .no (.node .no (.node (.node .no (.node (.cut (ref10_value.l0.d k)) .no)) .no)))) (by kernel_rfl) (by intro x; kernel_rfl) (by kernel_rfl) (by intro v; kernel_rfl)
/-! ref10_Get -/
noncomputable def ref10_Get.j0 (k : Nat) (s2 : ByteArray) : Option ((ByteArray × Bool)) :=
  if (decide ((0 : Int) < (s2.size : Int))) = true then
    if 0 ≤ (0 : Int) ∧ (0 : Int) < s2.size then
    some (s2, ((byteAt s2 (0 : Int)) == (45 : Int)))
    else none
  else
  some (s2, false)
noncomputable def ref10_Get.j1 (k : Nat) (s4 : ByteArray) (below5 : Bool) : Option ((ByteArray × Bool)) :=
  if below5 = true then
    if 0 ≤ (1 : Int) ∧ (1 : Int) ≤ (s4.size : Int) ∧ (s4.size : Int) ≤ (s4.size : Int) then
    some ((s4.extract ((1 : Int)).toNat ((s4.size : Int)).toNat), below5)
    else none
  else
  some (s4, below5)
noncomputable def ref10_Get.f (k : Nat) (s1 : ByteArray) : Option (Int × Bool) :=
  (ref10_Get.j0 k s1).bind fun r3 =>
  (ref10_Get.j1 k r3.1 r3.2).bind fun r6 =>
  (ref10_long.f k r6.1).bind fun y7 =>
  if (y7 != (r6.1.size : Int)) = true then
    some ((0 : Int), false)
  else
  (ref10_value.f k r6.1 r6.2).bind fun y8 =>
  some (y8.1, y8.2)
@[reducible] noncomputable def ref10_Get.V (k : Nat) : Env Tryd.prog GL := mkV [] [ref10_long.fd k, ref10_value.fd k]
def ref10_Get.j0.s : Pt := ⟨⟨26, [(0, .one (.v .str))], [], [], []⟩, ByteArray, fun v => v.1.1, fun v => ((v, ()), (), ()), by intro v; kernel_rfl⟩
def ref10_Get.j0.x : List (PE × Pt) := [(.normal, ⟨⟨26, [(0, .one (.v .str)), (4, .one (.v .bool))], [], [], []⟩, ByteArray × Bool, fun v => (v.1.1, v.1.2.1), fun v => ((v.1, v.2, ()), (), ()), by intro v; kernel_rfl⟩)]
noncomputable def ref10_Get.j0.d (k : Nat) : CD Tryd.prog GL [] := .join (ref10_Get.V k) (bodyOf Tryd.f90).M.L .no ref10_Get.j0.s ref10_Get.j0.x (fun v => ref10_Get.j0 k v) (by kernel_rfl) (by intro v; kernel_rfl)
def ref10_Get.j1.s : Pt := ⟨⟨26, [(0, .one (.v .str)), (4, .one (.v .bool))], [], [], []⟩, ByteArray × Bool, fun v => (v.1.1, v.1.2.1), fun v => ((v.1, v.2, ()), (), ()), by intro v; kernel_rfl⟩
def ref10_Get.j1.x : List (PE × Pt) := [(.normal, ⟨⟨26, [(0, .one (.v .str)), (4, .one (.v .bool))], [], [], []⟩, ByteArray × Bool, fun v => (v.1.1, v.1.2.1), fun v => ((v.1, v.2, ()), (), ()), by intro v; kernel_rfl⟩)]
noncomputable def ref10_Get.j1.d (k : Nat) : CD Tryd.prog GL [] := .join (ref10_Get.V k) (bodyOf Tryd.f90).M.M.L .no ref10_Get.j1.s ref10_Get.j1.x (fun v => ref10_Get.j1 k v.1 v.2) (by kernel_rfl) (by intro v; kernel_rfl)
noncomputable def ref10_Get.fd (k : Nat) : FD Tryd.prog GL := .of (ref10_Get.V k) 90 Tryd.f90 Tryd.func90 [(.str, false)] [(.int .i64, false), (.bool, false)] id (fun v => ref10_Get.f k v.1) (fun v => (v.1, v.2.1)) (fun v => (v.1, v.2, ())) (.node .no (.node (.cut (ref10_Get.j0.d k)) (.node (.cut (ref10_Get.j1.d k)) .no))) (by kernel_rfl) (by intro x; kernel_rfl) (by kernel_rfl) (by intro v; kernel_rfl)
/-! ref10_Nums -/
noncomputable def ref10_Nums.l0 (k : Nat) : Nat → (List ByteArray) → (List Int) → Int → Option (((List Int) × Bool) ⊕ ((List Int)))
  | 0, _, _, _ => none
  | n + 1, words2, out3, i4 =>
    if (decide (i4 < (List.length words2 : Int))) = true then
      if 0 ≤ i4 ∧ i4 < List.length words2 then
      (ref10_Get.f k (rdT .str words2 i4)).bind fun y5 =>
      if (!y5.2) = true then
        some (.inl (([] : List Int), false))
      else
      if (List.length out3 + List.length [y5.1]) * 8 ≤ 140737488355328 ∧ List.length out3 + List.length [y5.1] ≤ 9223372036854775807 then
      ref10_Nums.l0 k n words2 (out3 ++ [y5.1]) (wrap64 (i4 + (1 : Int)))
      else none
      else none
    else
    some (.inr out3)
noncomputable def ref10_Nums.f (k : Nat) (words1 : (List ByteArray)) : Option ((List Int) × Bool) :=
  (ref10_Nums.l0 k k words1 ([] : List Int) (0 : Int)).bind fun r => match r with
  | .inl r6 =>
    some (r6.1, r6.2)
  | .inr r7 =>
    some (r7, true)
@[reducible] noncomputable def ref10_Nums.V (k : Nat) : Env Tryd.prog GL := mkV [] [ref10_Get.fd k]
def ref10_Nums.l0.s : Pt := ⟨⟨29, [(0, .one (.v (.list .str))), (4, .one (.t (.int .i64) 2 1001)), (5, .one (.v (.int .i64)))], [], [(1001, none)], []⟩, (List ByteArray) × (List Int) × Int, fun v => (v.1.1, v.1.2.1, v.1.2.2.1), fun v => ((v.1, v.2.1, v.2.2, ()), (), ()), by intro v; kernel_rfl⟩
def ref10_Nums.l0.x : List (PE × Pt) := [(.ret, ⟨⟨29, [(2, .one (.t (.int .i64) 2 2002)), (3, .one (.v .bool))], [], [(2002, none)], []⟩, (List Int) × Bool, fun v => (v.1.1, v.1.2.1), fun v => ((v.1, v.2, ()), (), ()), by intro v; kernel_rfl⟩), (.exit 0, ⟨⟨29, [(4, .one (.t (.int .i64) 2 1001))], [], [(1001, none)], []⟩, (List Int), fun v => v.1.1, fun v => ((v, ()), (), ()), by intro v; kernel_rfl⟩)]
noncomputable def ref10_Nums.l0.d (k : Nat) : CD Tryd.prog GL [] := .loop (ref10_Nums.V k) (bodyOf Tryd.f80).M.M.L.M.L.L .no ref10_Nums.l0.s ref10_Nums.l0.x (fun n v => ref10_Nums.l0 k n v.1 v.2.1 v.2.2) k (by kernel_rfl) (fun _ => rfl) (by intro n v; kernel_rfl)
noncomputable def ref10_Nums.fd (k : Nat) : FD Tryd.prog GL := .of (ref10_Nums.V k) 80 Tryd.f80 Tryd.func80 [(.list .str, false)] [(.list (.int .i64), false), (.bool, false)] id (fun v => ref10_Nums.f k v.1) (fun v => (v.1, v.2.1)) (fun v => (v.1, v.2, ())) (.node .no (.node .no (.node (.node .no (.node (.cut (ref10_Nums.l0.d k)) .no)) .no))) (by kernel_rfl) (by intro x; kernel_rfl) (by kernel_rfl) (by intro v; kernel_rfl)
/-! ref33_Read -/
noncomputable def ref33_Read.j0 (k : Nat) (w3 : (List ByteArray)) (kind4 : Int) (x5 : Int) (x6 : Int) (x7 : Int) (x8 : (List Int)) : Option (((List ByteArray) × Int × Int × Int × Int × (List Int))) :=
  if 0 ≤ (0 : Int) ∧ (0 : Int) < List.length w3 then
  if ((rdT .str w3 (0 : Int)).toList == (bs [101]).toList) = true then
    some (w3, (1 : Int), x5, x6, x7, x8)
  else
  some (w3, kind4, x5, x6, x7, x8)
  else none
noncomputable def ref33_Read.j1 (k : Nat) (w10 : (List ByteArray)) (kind11 : Int) (x12 : Int) (x13 : Int) (x14 : Int) (x15 : (List Int)) : Option (((List ByteArray) × Int × Int × Int × Int × (List Int))) :=
  if 0 ≤ (0 : Int) ∧ (0 : Int) < List.length w10 then
  if ((rdT .str w10 (0 : Int)).toList == (bs [119]).toList) = true then
    some (w10, (2 : Int), x12, x13, x14, x15)
  else
  some (w10, kind11, x12, x13, x14, x15)
  else none
noncomputable def ref33_Read.j2 (k : Nat) (w17 : (List ByteArray)) (kind18 : Int) (x19 : Int) (x20 : Int) (x21 : Int) (x22 : (List Int)) : Option (((List ByteArray) × Int × Int × Int × Int × (List Int))) :=
  if 0 ≤ (0 : Int) ∧ (0 : Int) < List.length w17 then
  if ((rdT .str w17 (0 : Int)).toList == (bs [120]).toList) = true then
    some (w17, (3 : Int), x19, x20, x21, x22)
  else
  some (w17, kind18, x19, x20, x21, x22)
  else none
noncomputable def ref33_Read.j3 (k : Nat) (kind25 : Int) (n26 : (List Int)) (ok27 : Bool) (least28 : Int) (x29 : Int) (x30 : Int) (x31 : Int) (x32 : (List Int)) : Option ((Int × (List Int) × Bool × Int × Int × Int × Int × (List Int))) :=
  if (kind25 == (2 : Int)) = true then
    some (kind25, n26, ok27, (1 : Int), x29, x30, x31, x32)
  else
  some (kind25, n26, ok27, least28, x29, x30, x31, x32)
noncomputable def ref33_Read.f (k : Nat) (line1 : ByteArray) : Option ((Int × Int × Int × (List Int)) × Bool) :=
  (ref10_Words.f k line1).bind fun y2 =>
  (ref33_Read.j0 k y2 (0 : Int) (0 : Int) (0 : Int) (0 : Int) ([] : List Int)).bind fun r9 =>
  (ref33_Read.j1 k r9.1 r9.2.1 r9.2.2.1 r9.2.2.2.1 r9.2.2.2.2.1 r9.2.2.2.2.2).bind fun r16 =>
  (ref33_Read.j2 k r16.1 r16.2.1 r16.2.2.1 r16.2.2.2.1 r16.2.2.2.2.1 r16.2.2.2.2.2).bind fun r23 =>
  if 0 ≤ (1 : Int) ∧ (1 : Int) ≤ (List.length r23.1 : Int) ∧ (List.length r23.1 : Int) ≤ (List.length r23.1 : Int) then
  (ref10_Nums.f k (cutL r23.1 (1 : Int) (List.length r23.1 : Int))).bind fun y24 =>
  (ref33_Read.j3 k r23.2.1 y24.1 y24.2 (2 : Int) r23.2.2.1 r23.2.2.2.1 r23.2.2.2.2.1 r23.2.2.2.2.2).bind fun r33 =>
  if (r33.1 == (0 : Int)) = true then
    some (((0 : Int), (0 : Int), (0 : Int), ([] : List Int)), false)
  else
  if (!r33.2.2.1) = true then
    some (((0 : Int), (0 : Int), (0 : Int), ([] : List Int)), false)
  else
  if (decide ((List.length r33.2.1 : Int) < r33.2.2.2.1)) = true then
    some (((0 : Int), (0 : Int), (0 : Int), ([] : List Int)), false)
  else
  if (decide ((1 : Int) < r33.1)) = true then
    if (decide (r33.2.2.2.1 < (List.length r33.2.1 : Int))) = true then
      some (((0 : Int), (0 : Int), (0 : Int), ([] : List Int)), false)
    else
    if 0 ≤ (0 : Int) ∧ (0 : Int) < List.length r33.2.1 then
    if (r33.1 != (2 : Int)) = true then
      if 0 ≤ (1 : Int) ∧ (1 : Int) < List.length r33.2.1 then
      if 0 ≤ (2 : Int) ∧ (2 : Int) ≤ (List.length r33.2.1 : Int) ∧ (List.length r33.2.1 : Int) ≤ (List.length r33.2.1 : Int) then
      some ((r33.1, (rdT (.int .i64) r33.2.1 (0 : Int)), (rdT (.int .i64) r33.2.1 (1 : Int)), (cutL r33.2.1 (2 : Int) (List.length r33.2.1 : Int))), true)
      else none
      else none
    else
    some ((r33.1, (rdT (.int .i64) r33.2.1 (0 : Int)), (0 : Int), ([] : List Int)), true)
    else none
  else
  if 0 ≤ (0 : Int) ∧ (0 : Int) < List.length r33.2.1 then
  if (r33.1 != (2 : Int)) = true then
    if 0 ≤ (1 : Int) ∧ (1 : Int) < List.length r33.2.1 then
    if 0 ≤ (2 : Int) ∧ (2 : Int) ≤ (List.length r33.2.1 : Int) ∧ (List.length r33.2.1 : Int) ≤ (List.length r33.2.1 : Int) then
    some ((r33.1, (rdT (.int .i64) r33.2.1 (0 : Int)), (rdT (.int .i64) r33.2.1 (1 : Int)), (cutL r33.2.1 (2 : Int) (List.length r33.2.1 : Int))), true)
    else none
    else none
  else
  some ((r33.1, (rdT (.int .i64) r33.2.1 (0 : Int)), (0 : Int), ([] : List Int)), true)
  else none
  else none
@[reducible] noncomputable def ref33_Read.V (k : Nat) : Env Tryd.prog GL := mkV [] [ref10_Words.fd k, ref10_Nums.fd k]
def ref33_Read.j0.s : Pt := ⟨⟨70, [(2, .one (.p 2 0)), (4, .one (.v (.list .str))), (5, .one (.v (.int .i64)))], [(2, [.v (.int .i64), .v (.int .i64), .v (.int .i64), .t (.int .i64) 2 2001])], [(2001, none)], []⟩, (List ByteArray) × Int × Int × Int × Int × (List Int), fun v => (v.1.2.1, v.1.2.2.1, v.2.1.1.1, v.2.1.1.2.1, v.2.1.1.2.2.1, v.2.1.1.2.2.2.1), fun v => (((), v.1, v.2.1, ()), ((v.2.2.1, v.2.2.2.1, v.2.2.2.2.1, v.2.2.2.2.2, ()), ()), ()), by intro v; kernel_rfl⟩
def ref33_Read.j0.x : List (PE × Pt) := [(.normal, ⟨⟨70, [(2, .one (.p 2 0)), (4, .one (.v (.list .str))), (5, .one (.v (.int .i64)))], [(2, [.v (.int .i64), .v (.int .i64), .v (.int .i64), .t (.int .i64) 2 1001])], [(1001, none)], []⟩, (List ByteArray) × Int × Int × Int × Int × (List Int), fun v => (v.1.2.1, v.1.2.2.1, v.2.1.1.1, v.2.1.1.2.1, v.2.1.1.2.2.1, v.2.1.1.2.2.2.1), fun v => (((), v.1, v.2.1, ()), ((v.2.2.1, v.2.2.2.1, v.2.2.2.2.1, v.2.2.2.2.2, ()), ()), ()), by intro v; kernel_rfl⟩)]
noncomputable def ref33_Read.j0.d (k : Nat) : CD Tryd.prog GL [] := .join (ref33_Read.V k) (bodyOf Tryd.f49).M.M.M.L .no ref33_Read.j0.s ref33_Read.j0.x (fun v => ref33_Read.j0 k v.1 v.2.1 v.2.2.1 v.2.2.2.1 v.2.2.2.2.1 v.2.2.2.2.2) (by kernel_rfl) (by intro v; kernel_rfl)
def ref33_Read.j1.s : Pt := ⟨⟨70, [(2, .one (.p 2 0)), (4, .one (.v (.list .str))), (5, .one (.v (.int .i64)))], [(2, [.v (.int .i64), .v (.int .i64), .v (.int .i64), .t (.int .i64) 2 1001])], [(1001, none)], []⟩, (List ByteArray) × Int × Int × Int × Int × (List Int), fun v => (v.1.2.1, v.1.2.2.1, v.2.1.1.1, v.2.1.1.2.1, v.2.1.1.2.2.1, v.2.1.1.2.2.2.1), fun v => (((), v.1, v.2.1, ()), ((v.2.2.1, v.2.2.2.1, v.2.2.2.2.1, v.2.2.2.2.2, ()), ()), ()), by intro v; kernel_rfl⟩
def ref33_Read.j1.x : List (PE × Pt) := [(.normal, ⟨⟨70, [(2, .one (.p 2 0)), (4, .one (.v (.list .str))), (5, .one (.v (.int .i64)))], [(2, [.v (.int .i64), .v (.int .i64), .v (.int .i64), .t (.int .i64) 2 1001])], [(1001, none)], []⟩, (List ByteArray) × Int × Int × Int × Int × (List Int), fun v => (v.1.2.1, v.1.2.2.1, v.2.1.1.1, v.2.1.1.2.1, v.2.1.1.2.2.1, v.2.1.1.2.2.2.1), fun v => (((), v.1, v.2.1, ()), ((v.2.2.1, v.2.2.2.1, v.2.2.2.2.1, v.2.2.2.2.2, ()), ()), ()), by intro v; kernel_rfl⟩)]
noncomputable def ref33_Read.j1.d (k : Nat) : CD Tryd.prog GL [] := .join (ref33_Read.V k) (bodyOf Tryd.f49).M.M.M.M.L .no ref33_Read.j1.s ref33_Read.j1.x (fun v => ref33_Read.j1 k v.1 v.2.1 v.2.2.1 v.2.2.2.1 v.2.2.2.2.1 v.2.2.2.2.2) (by kernel_rfl) (by intro v; kernel_rfl)
def ref33_Read.j2.s : Pt := ⟨⟨70, [(2, .one (.p 2 0)), (4, .one (.v (.list .str))), (5, .one (.v (.int .i64)))], [(2, [.v (.int .i64), .v (.int .i64), .v (.int .i64), .t (.int .i64) 2 1001])], [(1001, none)], []⟩, (List ByteArray) × Int × Int × Int × Int × (List Int), fun v => (v.1.2.1, v.1.2.2.1, v.2.1.1.1, v.2.1.1.2.1, v.2.1.1.2.2.1, v.2.1.1.2.2.2.1), fun v => (((), v.1, v.2.1, ()), ((v.2.2.1, v.2.2.2.1, v.2.2.2.2.1, v.2.2.2.2.2, ()), ()), ()), by intro v; kernel_rfl⟩
def ref33_Read.j2.x : List (PE × Pt) := [(.normal, ⟨⟨70, [(2, .one (.p 2 0)), (4, .one (.v (.list .str))), (5, .one (.v (.int .i64)))], [(2, [.v (.int .i64), .v (.int .i64), .v (.int .i64), .t (.int .i64) 2 1001])], [(1001, none)], []⟩, (List ByteArray) × Int × Int × Int × Int × (List Int), fun v => (v.1.2.1, v.1.2.2.1, v.2.1.1.1, v.2.1.1.2.1, v.2.1.1.2.2.1, v.2.1.1.2.2.2.1), fun v => (((), v.1, v.2.1, ()), ((v.2.2.1, v.2.2.2.1, v.2.2.2.2.1, v.2.2.2.2.2, ()), ()), ()), by intro v; kernel_rfl⟩)]
noncomputable def ref33_Read.j2.d (k : Nat) : CD Tryd.prog GL [] := .join (ref33_Read.V k) (bodyOf Tryd.f49).M.M.M.M.M.L .no ref33_Read.j2.s ref33_Read.j2.x (fun v => ref33_Read.j2 k v.1 v.2.1 v.2.2.1 v.2.2.2.1 v.2.2.2.2.1 v.2.2.2.2.2) (by kernel_rfl) (by intro v; kernel_rfl)
def ref33_Read.j3.s : Pt := ⟨⟨70, [(2, .one (.p 2 0)), (5, .one (.v (.int .i64))), (6, .one (.v (.list (.int .i64)))), (7, .one (.v .bool)), (8, .one (.v (.int .i64)))], [(2, [.v (.int .i64), .v (.int .i64), .v (.int .i64), .t (.int .i64) 2 1001])], [(1001, none)], []⟩, Int × (List Int) × Bool × Int × Int × Int × Int × (List Int), fun v => (v.1.2.1, v.1.2.2.1, v.1.2.2.2.1, v.1.2.2.2.2.1, v.2.1.1.1, v.2.1.1.2.1, v.2.1.1.2.2.1, v.2.1.1.2.2.2.1), fun v => (((), v.1, v.2.1, v.2.2.1, v.2.2.2.1, ()), ((v.2.2.2.2.1, v.2.2.2.2.2.1, v.2.2.2.2.2.2.1, v.2.2.2.2.2.2.2, ()), ()), ()), by intro v; kernel_rfl⟩
def ref33_Read.j3.x : List (PE × Pt) := [(.normal, ⟨⟨70, [(2, .one (.p 2 0)), (5, .one (.v (.int .i64))), (6, .one (.v (.list (.int .i64)))), (7, .one (.v .bool)), (8, .one (.v (.int .i64)))], [(2, [.v (.int .i64), .v (.int .i64), .v (.int .i64), .t (.int .i64) 2 1001])], [(1001, none)], []⟩, Int × (List Int) × Bool × Int × Int × Int × Int × (List Int), fun v => (v.1.2.1, v.1.2.2.1, v.1.2.2.2.1, v.1.2.2.2.2.1, v.2.1.1.1, v.2.1.1.2.1, v.2.1.1.2.2.1, v.2.1.1.2.2.2.1), fun v => (((), v.1, v.2.1, v.2.2.1, v.2.2.2.1, ()), ((v.2.2.2.2.1, v.2.2.2.2.2.1, v.2.2.2.2.2.2.1, v.2.2.2.2.2.2.2, ()), ()), ()), by intro v; kernel_rfl⟩)]
noncomputable def ref33_Read.j3.d (k : Nat) : CD Tryd.prog GL [] := .join (ref33_Read.V k) (bodyOf Tryd.f49).M.M.M.M.M.M.M.M.L (.node .no (.view [⟨70, [(2, .one (.p 2 0)), (5, .one (.v (.int .i64))), (6, .one (.v (.list (.int .i64)))), (7, .one (.v .bool)), (8, .one (.v (.int .i64))), (31, .one (.v .bool))], [(2, [.v (.int .i64), .v (.int .i64), .v (.int .i64), .t (.int .i64) 2 1001])], [(1001, none)], []⟩] .no .no)) ref33_Read.j3.s ref33_Read.j3.x (fun v => ref33_Read.j3 k v.1 v.2.1 v.2.2.1 v.2.2.2.1 v.2.2.2.2.1 v.2.2.2.2.2.1 v.2.2.2.2.2.2.1 v.2.2.2.2.2.2.2) (by kernel_rfl) (by intro v; kernel_rfl)
noncomputable def ref33_Read.fd (k : Nat) : FD Tryd.prog GL := .of (ref33_Read.V k) 49 Tryd.f49 Tryd.func49 [(.str, false)] [(.pair (.int .i64) (.pair (.int .i64) (.pair (.int .i64) (.list (.int .i64)))), true), (.bool, false)] id (fun v => ref33_Read.f k v.1) (fun v => (v.1, v.2.1)) (fun v => (v.1, v.2, ())) (.node .no (.node .no (.node .no (.node (.cut (ref33_Read.j0.d k)) (.node (.cut (ref33_Read.j1.d k)) (.node (.cut (ref33_Read.j2.d k)) (.node .no (.node .no (.node (.cut (ref33_Read.j3.d k)) (.node .no (.node .no (.view [⟨70, [(2, .one (.p 2 0)), (5, .one (.v (.int .i64))), (6, .one (.v (.list (.int .i64)))), (9, .one (.p 9 0))], [(2, [.v (.int .i64), .v (.int .i64), .v (.int .i64), .t (.int .i64) 2 1001]), (9, [.v (.int .i64), .v (.int .i64), .v (.int .i64), .t (.int .i64) 2 2001])], [(1001, none), (2001, none)], []⟩] .no .no)))))))))))) (by kernel_rfl) (by intro x; kernel_rfl) (by kernel_rfl) (by intro v; kernel_rfl)
/-! record_May -/
noncomputable def record_May.f (k : Nat) (r1 : (Int × Int × Int × (List Int))) : Option (Bool) :=
  if (r1.1 == (1 : Int)) = true then
    some true
  else
  if (r1.1 == (2 : Int)) = true then
    if (r1.2.2.1 != (0 : Int)) = true then
      some false
    else
    some ((List.length r1.2.2.2 : Int) == (0 : Int))
  else
  if (r1.1 == (3 : Int)) = true then
    some ((List.length r1.2.2.2 : Int) == (0 : Int))
  else
  some false
@[reducible] noncomputable def record_May.V (k : Nat) : Env Tryd.prog GL := mkV [] []
noncomputable def record_May.fd (k : Nat) : FD Tryd.prog GL := .of (record_May.V k) 50 Tryd.f50 Tryd.func50 [(.pair (.int .i64) (.pair (.int .i64) (.pair (.int .i64) (.list (.int .i64)))), true)] [(.bool, false)] id (fun v => record_May.f k v.1) (fun v => v.1) (fun v => (v, ())) .no (by kernel_rfl) (by intro x; kernel_rfl) (by kernel_rfl) (by intro v; kernel_rfl)
/-! ref33_May -/
noncomputable def ref33_May.f (k : Nat) (r1 : (Int × Int × Int × (List Int))) : Option (Bool) :=
  if (r1.1 == (1 : Int)) = true then
    some true
  else
  if (r1.1 == (3 : Int)) = true then
    if ((List.length r1.2.2.2 : Int) == (0 : Int)) = true then
      some true
    else
    if (r1.1 == (2 : Int)) = true then
      if ((List.length r1.2.2.2 : Int) == (0 : Int)) = true then
        some (r1.2.2.1 == (0 : Int))
      else
      some false
    else
    some false
  else
  if (r1.1 == (2 : Int)) = true then
    if ((List.length r1.2.2.2 : Int) == (0 : Int)) = true then
      some (r1.2.2.1 == (0 : Int))
    else
    some false
  else
  some false
@[reducible] noncomputable def ref33_May.V (k : Nat) : Env Tryd.prog GL := mkV [] []
noncomputable def ref33_May.fd (k : Nat) : FD Tryd.prog GL := .of (ref33_May.V k) 51 Tryd.f51 Tryd.func51 [(.pair (.int .i64) (.pair (.int .i64) (.pair (.int .i64) (.list (.int .i64)))), true)] [(.bool, false)] id (fun v => ref33_May.f k v.1) (fun v => v.1) (fun v => (v, ())) .no (by kernel_rfl) (by intro x; kernel_rfl) (by kernel_rfl) (by intro v; kernel_rfl)
/-! digits_Put -/
noncomputable def digits_Put.f (k : Nat) (n1 : Int) : Option (ByteArray) :=
  (x_FormatInt n1 (10 : Int)).bind fun y2 =>
  some y2
@[reducible] noncomputable def digits_Put.V (k : Nat) : Env Tryd.prog GL := mkV [] [x_FormatInt_fd]
noncomputable def digits_Put.fd (k : Nat) : FD Tryd.prog GL := .of (digits_Put.V k) 74 Tryd.f74 Tryd.func74 [(.int .i64, false)] [(.str, false)] id (fun v => digits_Put.f k v.1) (fun v => v.1) (fun v => (v, ())) .no (by kernel_rfl) (by intro x; kernel_rfl) (by kernel_rfl) (by intro v; kernel_rfl)
/-! record_words -/
noncomputable def record_words.l0 (k : Nat) : Nat → (List ByteArray) → (List Int) → Int → Int → Option (((List ByteArray)))
  | 0, _, _, _, _ => none
  | n + 1, out2, x3, x4, x5 =>
    if (decide (x5 < x4)) = true then
      if 0 ≤ x5 ∧ x5 < List.length x3 then
      (digits_Put.f k (rdT (.int .i64) x3 x5)).bind fun y6 =>
      if (List.length out2 + List.length [y6]) * 16 ≤ 140737488355328 ∧ List.length out2 + List.length [y6] ≤ 9223372036854775807 then
      record_words.l0 k n (out2 ++ [y6]) x3 x4 (wrap64 (x5 + (1 : Int)))
      else none
      else none
    else
    some out2
noncomputable def record_words.f (k : Nat) (l1 : (List Int)) : Option ((List ByteArray)) :=
  (record_words.l0 k k ([] : List ByteArray) l1 (List.length l1 : Int) (0 : Int)).bind fun r7 =>
  some r7
@[reducible] noncomputable def record_words.V (k : Nat) : Env Tryd.prog GL := mkV [] [digits_Put.fd k]
def record_words.l0.s : Pt := ⟨⟨19, [(3, .one (.t .str 9 1001)), (6, .one (.v (.list (.int .i64)))), (7, .one (.v (.int .i64))), (8, .one (.v (.int .i64)))], [], [(1001, none)], []⟩, (List ByteArray) × (List Int) × Int × Int, fun v => (v.1.1, v.1.2.1, v.1.2.2.1, v.1.2.2.2.1), fun v => ((v.1, v.2.1, v.2.2.1, v.2.2.2, ()), (), ()), by intro v; kernel_rfl⟩
def record_words.l0.x : List (PE × Pt) := [(.exit 0, ⟨⟨19, [(3, .one (.t .str 9 1001))], [], [(1001, none)], []⟩, (List ByteArray), fun v => v.1.1, fun v => ((v, ()), (), ()), by intro v; kernel_rfl⟩)]
noncomputable def record_words.l0.d (k : Nat) : CD Tryd.prog GL [] := .loop (record_words.V k) (bodyOf Tryd.f81).M.M.L.M.L.L .no record_words.l0.s record_words.l0.x (fun n v => record_words.l0 k n v.1 v.2.1 v.2.2.1 v.2.2.2) k (by kernel_rfl) (fun _ => rfl) (by intro n v; kernel_rfl)
noncomputable def record_words.fd (k : Nat) : FD Tryd.prog GL := .of (record_words.V k) 81 Tryd.f81 Tryd.func81 [(.list (.int .i64), false)] [(.list .str, false)] id (fun v => record_words.f k v.1) (fun v => v.1) (fun v => (v, ())) (.node .no (.node .no (.node (.node .no (.node (.cut (record_words.l0.d k)) .no)) .no))) (by kernel_rfl) (by intro x; kernel_rfl) (by kernel_rfl) (by intro v; kernel_rfl)
/-! record_Line -/
noncomputable def record_Line.j0 (k : Nat) (sign3 : ByteArray) (nums4 : (List Int)) (r5 : Int) (r6 : Int) (r7 : Int) (r8 : (List Int)) : Option ((ByteArray × (List Int))) :=
  if (r5 == (2 : Int)) = true then
    if 0 ≤ (0 : Int) ∧ (0 : Int) ≤ (1 : Int) ∧ (1 : Int) ≤ (List.length nums4 : Int) then
    some ((bs [119]), (cutL nums4 (0 : Int) (1 : Int)))
    else none
  else
  if (r5 == (3 : Int)) = true then
    some ((bs [120]), nums4)
  else
  some (sign3, nums4)
noncomputable def record_Line.f (k : Nat) (r1 : (Int × Int × Int × (List Int))) : Option (ByteArray) :=
  (record_May.f k r1).bind fun y2 =>
  if (!y2) = true then
    some (bs [])
  else
  if (List.length [r1.2.1, r1.2.2.1] + List.length r1.2.2.2) * 8 ≤ 140737488355328 ∧ List.length [r1.2.1, r1.2.2.1] + List.length r1.2.2.2 ≤ 9223372036854775807 then
  (record_Line.j0 k (bs [101]) ([r1.2.1, r1.2.2.1] ++ r1.2.2.2) r1.1 r1.2.1 r1.2.2.1 r1.2.2.2).bind fun r9 =>
  (record_words.f k r9.2).bind fun y10 =>
  if (List.length [r9.1] + List.length y10) * 16 ≤ 140737488355328 ∧ List.length [r9.1] + List.length y10 ≤ 9223372036854775807 then
  (x_Join ([r9.1] ++ y10) (bs [32])).bind fun y11 =>
  some y11
  else none
  else none
@[reducible] noncomputable def record_Line.V (k : Nat) : Env Tryd.prog GL := mkV [] [record_May.fd k, record_words.fd k, x_Join_fd]
def record_Line.j0.s : Pt := ⟨⟨30, [(1, .one (.p 1 0)), (3, .one (.v .str)), (4, .one (.t (.int .i64) 2 1001))], [(1, [.v (.int .i64), .v (.int .i64), .v (.int .i64), .v (.list (.int .i64))])], [(1001, none)], []⟩, ByteArray × (List Int) × Int × Int × Int × (List Int), fun v => (v.1.2.1, v.1.2.2.1, v.2.1.1.1, v.2.1.1.2.1, v.2.1.1.2.2.1, v.2.1.1.2.2.2.1), fun v => (((), v.1, v.2.1, ()), ((v.2.2.1, v.2.2.2.1, v.2.2.2.2.1, v.2.2.2.2.2, ()), ()), ()), by intro v; kernel_rfl⟩
def record_Line.j0.x : List (PE × Pt) := [(.normal, ⟨⟨30, [(3, .one (.v .str)), (4, .one (.v (.list (.int .i64))))], [], [], []⟩, ByteArray × (List Int), fun v => (v.1.1, v.1.2.1), fun v => ((v.1, v.2, ()), (), ()), by intro v; kernel_rfl⟩)]
noncomputable def record_Line.j0.d (k : Nat) : CD Tryd.prog GL [] := .join (record_Line.V k) (bodyOf Tryd.f52).M.M.M.L .no record_Line.j0.s record_Line.j0.x (fun v => record_Line.j0 k v.1 v.2.1 v.2.2.1 v.2.2.2.1 v.2.2.2.2.1 v.2.2.2.2.2) (by kernel_rfl) (by intro v; kernel_rfl)
noncomputable def record_Line.fd (k : Nat) : FD Tryd.prog GL := .of (record_Line.V k) 52 Tryd.f52 Tryd.func52 [(.pair (.int .i64) (.pair (.int .i64) (.pair (.int .i64) (.list (.int .i64)))), true)] [(.str, false)] id (fun v => record_Line.f k v.1) (fun v => v.1) (fun v => (v, ())) (.node .no (.node .no (.node .no (.node (.cut (record_Line.j0.d k)) .no)))) (by kernel_rfl) (by intro x; kernel_rfl) (by kernel_rfl) (by intro v; kernel_rfl)
/-! ref10_Put -/
noncomputable def ref10_Put.f (k : Nat) (n1 : Int) : Option (ByteArray) :=
  if (decide (n1 < (0 : Int))) = true then
    (ref10_digits.f k n1).bind fun y2 =>
    if (bs [45]).size + y2.size ≤ 9223372036854775807 then
    some ((bs [45]) ++ y2)
    else none
  else
  (ref10_digits.f k n1).bind fun y3 =>
  some y3
@[reducible] noncomputable def ref10_Put.V (k : Nat) : Env Tryd.prog GL := mkV [] [ref10_digits.fd k]
noncomputable def ref10_Put.fd (k : Nat) : FD Tryd.prog GL := .of (ref10_Put.V k) 60 Tryd.f60 Tryd.func60 [(.int .i64, false)] [(.str, false)] id (fun v => ref10_Put.f k v.1) (fun v => v.1) (fun v => (v, ())) .no (by kernel_rfl) (by intro x; kernel_rfl) (by kernel_rfl) (by intro v; kernel_rfl)
/-! ref33_Line -/
noncomputable def ref33_Line.j0 (k : Nat) (s4 : ByteArray) (r5 : Int) (r6 : Int) (r7 : Int) (r8 : (List Int)) : Option ((ByteArray × Int × Int × Int × (List Int))) :=
  if (r5 != (2 : Int)) = true then
    if s4.size + (bs [32]).size ≤ 9223372036854775807 then
    (ref10_Put.f k r7).bind fun y9 =>
    if (s4 ++ (bs [32])).size + y9.size ≤ 9223372036854775807 then
    some (((s4 ++ (bs [32])) ++ y9), r5, r6, r7, r8)
    else none
    else none
  else
  some (s4, r5, r6, r7, r8)
noncomputable def ref33_Line.l1 (k : Nat) : Nat → ByteArray → Int → Int → Int → Int → (List Int) → Option ((ByteArray))
  | 0, _, _, _, _, _, _ => none
  | n + 1, s11, i12, r13, r14, r15, r16 =>
    if (decide (i12 < (List.length r16 : Int))) = true then
      if s11.size + (bs [32]).size ≤ 9223372036854775807 then
      if 0 ≤ i12 ∧ i12 < List.length r16 then
      (ref10_Put.f k (rdT (.int .i64) r16 i12)).bind fun y17 =>
      if (s11 ++ (bs [32])).size + y17.size ≤ 9223372036854775807 then
      ref33_Line.l1 k n ((s11 ++ (bs [32])) ++ y17) (wrap64 (i12 + (1 : Int))) r13 r14 r15 r16
      else none
      else none
      else none
    else
    some s11
noncomputable def ref33_Line.f (k : Nat) (r1 : (Int × Int × Int × (List Int))) : Option (ByteArray) :=
  (ref33_May.f k r1).bind fun y2 =>
  if (!y2) = true then
    some (bs [])
  else
  if 0 ≤ r1.1 ∧ r1.1 < List.length [(bs []), (bs [101, 32]), (bs [119, 32]), (bs [120, 32])] then
  (ref10_Put.f k r1.2.1).bind fun y3 =>
  if (rdT .str [(bs []), (bs [101, 32]), (bs [119, 32]), (bs [120, 32])] r1.1).size + y3.size ≤ 9223372036854775807 then
  (ref33_Line.j0 k ((rdT .str [(bs []), (bs [101, 32]), (bs [119, 32]), (bs [120, 32])] r1.1) ++ y3) r1.1 r1.2.1 r1.2.2.1 r1.2.2.2).bind fun r10 =>
  (ref33_Line.l1 k k r10.1 (0 : Int) r10.2.1 r10.2.2.1 r10.2.2.2.1 r10.2.2.2.2).bind fun r18 =>
  some r18
  else none
  else none
@[reducible] noncomputable def ref33_Line.V (k : Nat) : Env Tryd.prog GL := mkV [] [ref33_May.fd k, ref10_Put.fd k]
def ref33_Line.j0.s : Pt := ⟨⟨43, [(1, .one (.p 1 0)), (3, .one (.v .str))], [(1, [.v (.int .i64), .v (.int .i64), .v (.int .i64), .v (.list (.int .i64))])], [], []⟩, ByteArray × Int × Int × Int × (List Int), fun v => (v.1.2.1, v.2.1.1.1, v.2.1.1.2.1, v.2.1.1.2.2.1, v.2.1.1.2.2.2.1), fun v => (((), v.1, ()), ((v.2.1, v.2.2.1, v.2.2.2.1, v.2.2.2.2, ()), ()), ()), by intro v; kernel_rfl⟩
def ref33_Line.j0.x : List (PE × Pt) := [(.normal, ⟨⟨43, [(1, .one (.p 1 0)), (3, .one (.v .str))], [(1, [.v (.int .i64), .v (.int .i64), .v (.int .i64), .v (.list (.int .i64))])], [], []⟩, ByteArray × Int × Int × Int × (List Int), fun v => (v.1.2.1, v.2.1.1.1, v.2.1.1.2.1, v.2.1.1.2.2.1, v.2.1.1.2.2.2.1), fun v => (((), v.1, ()), ((v.2.1, v.2.2.1, v.2.2.2.1, v.2.2.2.2, ()), ()), ()), by intro v; kernel_rfl⟩)]
noncomputable def ref33_Line.j0.d (k : Nat) : CD Tryd.prog GL [] := .join (ref33_Line.V k) (bodyOf Tryd.f53).M.M.M.L .no ref33_Line.j0.s ref33_Line.j0.x (fun v => ref33_Line.j0 k v.1 v.2.1 v.2.2.1 v.2.2.2.1 v.2.2.2.2) (by kernel_rfl) (by intro v; kernel_rfl)
def ref33_Line.l1.s : Pt := ⟨⟨43, [(1, .one (.p 1 0)), (3, .one (.v .str)), (4, .one (.v (.int .i64)))], [(1, [.v (.int .i64), .v (.int .i64), .v (.int .i64), .v (.list (.int .i64))])], [], []⟩, ByteArray × Int × Int × Int × Int × (List Int), fun v => (v.1.2.1, v.1.2.2.1, v.2.1.1.1, v.2.1.1.2.1, v.2.1.1.2.2.1, v.2.1.1.2.2.2.1), fun v => (((), v.1, v.2.1, ()), ((v.2.2.1, v.2.2.2.1, v.2.2.2.2.1, v.2.2.2.2.2, ()), ()), ()), by intro v; kernel_rfl⟩
def ref33_Line.l1.x : List (PE × Pt) := [(.exit 0, ⟨⟨43, [(3, .one (.v .str))], [], [], []⟩, ByteArray, fun v => v.1.1, fun v => ((v, ()), (), ()), by intro v; kernel_rfl⟩)]
noncomputable def ref33_Line.l1.d (k : Nat) : CD Tryd.prog GL [] := .loop (ref33_Line.V k) (bodyOf Tryd.f53).M.M.M.M.L.M.L.L .no ref33_Line.l1.s ref33_Line.l1.x (fun n v => ref33_Line.l1 k n v.1 v.2.1 v.2.2.1 v.2.2.2.1 v.2.2.2.2.1 v.2.2.2.2.2) k (by kernel_rfl) (fun _ => rfl) (by intro n v; kernel_rfl)
noncomputable def ref33_Line.fd (k : Nat) : FD Tryd.prog GL := .of (ref33_Line.V k) 53 Tryd.f53 Tryd.func53 [(.pair (.int .i64) (.pair (.int .i64) (.pair (.int .i64) (.list (.int .i64)))), true)] [(.str, false)] id (fun v => ref33_Line.f k v.1) (fun v => v.1) (fun v => (v, ())) (.node .no (.node .no (.node .no (.node (.cut (ref33_Line.j0.d k)) (.node (.node .no (.node (.cut (ref33_Line.l1.d k)) .no)) .no))))) (by kernel_rfl) (by intro x; kernel_rfl) (by kernel_rfl) (by intro v; kernel_rfl)
/-! ref03_Nums -/
noncomputable def ref03_Nums.l0 (k : Nat) : Nat → (List Int) → (List Int) → Int → Option ((Bool) ⊕ (Unit))
  | 0, _, _, _ => none
  | n + 1, a3, b4, i5 =>
    if (decide (i5 < (List.length a3 : Int))) = true then
      if 0 ≤ i5 ∧ i5 < List.length a3 then
      if 0 ≤ i5 ∧ i5 < List.length b4 then
      if ((rdT (.int .i64) a3 i5) != (rdT (.int .i64) b4 i5)) = true then
        some (.inl false)
      else
      ref03_Nums.l0 k n a3 b4 (wrap64 (i5 + (1 : Int)))
      else none
      else none
    else
    some (.inr ())
noncomputable def ref03_Nums.f (k : Nat) (a1 : (List Int)) (b2 : (List Int)) : Option (Bool) :=
  if ((List.length a1 : Int) != (List.length b2 : Int)) = true then
    some false
  else
  (ref03_Nums.l0 k k a1 b2 (0 : Int)).bind fun r => match r with
  | .inl r6 =>
    some r6
  | .inr r7 =>
    some true
@[reducible] noncomputable def ref03_Nums.V (k : Nat) : Env Tryd.prog GL := mkV [] []
def ref03_Nums.l0.s : Pt := ⟨⟨26, [(0, .one (.v (.list (.int .i64)))), (1, .one (.v (.list (.int .i64)))), (5, .one (.v (.int .i64)))], [], [], []⟩, (List Int) × (List Int) × Int, fun v => (v.1.1, v.1.2.1, v.1.2.2.1), fun v => ((v.1, v.2.1, v.2.2, ()), (), ()), by intro v; kernel_rfl⟩
def ref03_Nums.l0.x : List (PE × Pt) := [(.ret, ⟨⟨26, [(4, .one (.v .bool))], [], [], []⟩, Bool, fun v => v.1.1, fun v => ((v, ()), (), ()), by intro v; kernel_rfl⟩), (.exit 0, ⟨⟨26, [], [], [], []⟩, Unit, fun v => (), fun v => ((), (), ()), by intro v; kernel_rfl⟩)]
noncomputable def ref03_Nums.l0.d (k : Nat) : CD Tryd.prog GL [] := .loop (ref03_Nums.V k) (bodyOf Tryd.f64).M.M.L.M.L.L .no ref03_Nums.l0.s ref03_Nums.l0.x (fun n v => ref03_Nums.l0 k n v.1 v.2.1 v.2.2) k (by kernel_rfl) (fun _ => rfl) (by intro n v; kernel_rfl)
noncomputable def ref03_Nums.fd (k : Nat) : FD Tryd.prog GL := .of (ref03_Nums.V k) 64 Tryd.f64 Tryd.func64 [(.list (.int .i64), false), (.list (.int .i64), false)] [(.bool, false)] id (fun v => ref03_Nums.f k v.1 v.2.1) (fun v => v.1) (fun v => (v, ())) (.node .no (.node .no (.node (.node .no (.node (.cut (ref03_Nums.l0.d k)) .no)) .no))) (by kernel_rfl) (by intro x; kernel_rfl) (by kernel_rfl) (by intro v; kernel_rfl)
/-! ref33_Same -/
noncomputable def ref33_Same.f (k : Nat) (a1 : (Int × Int × Int × (List Int))) (b2 : (Int × Int × Int × (List Int))) : Option (Bool) :=
  if (a1.1 == b2.1) = true then
    if (a1.2.1 == b2.2.1) = true then
      if (a1.2.2.1 == b2.2.2.1) = true then
        (ref03_Nums.f k a1.2.2.2 b2.2.2.2).bind fun y3 =>
        some y3
      else
      some false
    else
    some false
  else
  some false
@[reducible] noncomputable def ref33_Same.V (k : Nat) : Env Tryd.prog GL := mkV [] [ref03_Nums.fd k]
noncomputable def ref33_Same.fd (k : Nat) : FD Tryd.prog GL := .of (ref33_Same.V k) 31 Tryd.f31 Tryd.func31 [(.pair (.int .i64) (.pair (.int .i64) (.pair (.int .i64) (.list (.int .i64)))), true), (.pair (.int .i64) (.pair (.int .i64) (.pair (.int .i64) (.list (.int .i64)))), true)] [(.bool, false)] id (fun v => ref33_Same.f k v.1 v.2.1) (fun v => v.1) (fun v => (v, ())) .no (by kernel_rfl) (by intro x; kernel_rfl) (by kernel_rfl) (by intro v; kernel_rfl)
/-! law33_RecordLines -/
noncomputable def law33_RecordLines.f (k : Nat) (r1 : (Int × Int × Int × (List Int))) (line2 : ByteArray) : Option (Bool) :=
  if (decide ((200 : Int) < (List.length r1.2.2.2 : Int))) = true then
    (law33_lives.f k).bind fun y3 =>
    some y3
  else
  if (decide ((3000 : Int) < (line2.size : Int))) = true then
    (law33_lives.f k).bind fun y4 =>
    some y4
  else
  (record_Read.f k line2).bind fun y5 =>
  (ref33_Read.f k line2).bind fun y6 =>
  (record_May.f k r1).bind fun y7 =>
  (ref33_May.f k r1).bind fun y8 =>
  if (y7 == y8) = true then
    (record_Line.f k r1).bind fun y9 =>
    (ref33_Line.f k r1).bind fun y10 =>
    if (y9.toList == y10.toList) = true then
      (ref33_Same.f k y5.1 y6.1).bind fun y11 =>
      if y11 = true then
        if (y5.2 == y6.2) = true then
          (law33_lives.f k).bind fun y12 =>
          some y12
        else
        some false
      else
      some false
    else
    some false
  else
  some false
@[reducible] noncomputable def law33_RecordLines.V (k : Nat) : Env Tryd.prog GL := mkV [] [law33_lives.fd k, record_Read.fd k, ref33_Read.fd k, record_May.fd k, ref33_May.fd k, record_Line.fd k, ref33_Line.fd k, ref33_Same.fd k]
theorem law33_RecordLines.con (k : Nat) (v : DT [(.pair (.int .i64) (.pair (.int .i64) (.pair (.int .i64) (.list (.int .i64)))), true), (.str, false)]) (y : Bool) (h : (fun v => law33_RecordLines.f k v.1 v.2.1) (id v) = some y) : Con Tryd.prog GL 11 ((putD [(.pair (.int .i64) (.pair (.int .i64) (.pair (.int .i64) (.list (.int .i64)))), true), (.str, false)] v).map .p) [] (.ret (putR [(.bool, false)] ((fun v => (v, ())) y))) [] := con_of (law33_RecordLines.V k) 11 Tryd.f11 Tryd.func11 [(.pair (.int .i64) (.pair (.int .i64) (.pair (.int .i64) (.list (.int .i64)))), true), (.str, false)] [(.bool, false)] id (fun v => law33_RecordLines.f k v.1 v.2.1) (fun v => v.1) (fun v => (v, ())) .no (by kernel_rfl) (by intro x; kernel_rfl) (by kernel_rfl) (by intro v; kernel_rfl) v y h
/-! cmp_isNaN_int64_ -/
noncomputable def cmp_isNaN_int64_.f (k : Nat) (x1 : Int) : Option (Bool) :=
  some (x1 != x1)
@[reducible] noncomputable def cmp_isNaN_int64_.V (k : Nat) : Env Tryd.prog GL := mkV [] []
noncomputable def cmp_isNaN_int64_.fd (k : Nat) : FD Tryd.prog GL := .of (cmp_isNaN_int64_.V k) 83 Tryd.f83 Tryd.func83 [(.int .i64, false)] [(.bool, false)] id (fun v => cmp_isNaN_int64_.f k v.1) (fun v => v.1) (fun v => (v, ())) .no (by kernel_rfl) (by intro x; kernel_rfl) (by kernel_rfl) (by intro v; kernel_rfl)
/-! cmp_Compare_int64_ -/
noncomputable def cmp_Compare_int64_.f (k : Nat) (x1 : Int) (y2 : Int) : Option (Int) :=
  (cmp_isNaN_int64_.f k x1).bind fun y3 =>
  (cmp_isNaN_int64_.f k y2).bind fun y4 =>
  if y3 = true then
    if y4 = true then
      some (0 : Int)
    else
    some (-1 : Int)
  else
  if y4 = true then
    some (1 : Int)
  else
  if (decide (x1 < y2)) = true then
    some (-1 : Int)
  else
  if (decide (y2 < x1)) = true then
    some (1 : Int)
  else
  some (0 : Int)
@[reducible] noncomputable def cmp_Compare_int64_.V (k : Nat) : Env Tryd.prog GL := mkV [] [cmp_isNaN_int64_.fd k]
noncomputable def cmp_Compare_int64_.fd (k : Nat) : FD Tryd.prog GL := .of (cmp_Compare_int64_.V k) 62 Tryd.f62 Tryd.func62 [(.int .i64, false), (.int .i64, false)] [(.int .i64, false)] id (fun v => cmp_Compare_int64_.f k v.1 v.2.1) (fun v => v.1) (fun v => (v, ())) .no (by kernel_rfl) (by intro x; kernel_rfl) (by kernel_rfl) (by intro v; kernel_rfl)
/-! cmp_Or_int_ -/
noncomputable def cmp_Or_int_.l0 (k : Nat) : Nat → Int → (List Int) → Int → Int → Option ((Int) ⊕ (Int))
  | 0, _, _, _, _ => none
  | n + 1, zero2, x3, x4, x5 =>
    if (decide (x5 < x4)) = true then
      if 0 ≤ x5 ∧ x5 < List.length x3 then
      if ((rdT (.int .i64) x3 x5) != zero2) = true then
        some (.inl (rdT (.int .i64) x3 x5))
      else
      cmp_Or_int_.l0 k n zero2 x3 x4 (wrap64 (x5 + (1 : Int)))
      else none
    else
    some (.inr zero2)
noncomputable def cmp_Or_int_.f (k : Nat) (vals1 : (List Int)) : Option (Int) :=
  (cmp_Or_int_.l0 k k (0 : Int) vals1 (List.length vals1 : Int) (0 : Int)).bind fun r => match r with
  | .inl r6 =>
    some r6
  | .inr r7 =>
    some r7
@[reducible] noncomputable def cmp_Or_int_.V (k : Nat) : Env Tryd.prog GL := mkV [] []
def cmp_Or_int_.l0.s : Pt := ⟨⟨18, [(3, .one (.v (.int .i64))), (6, .one (.v (.list (.int .i64)))), (7, .one (.v (.int .i64))), (8, .one (.v (.int .i64)))], [], [], []⟩, Int × (List Int) × Int × Int, fun v => (v.1.1, v.1.2.1, v.1.2.2.1, v.1.2.2.2.1), fun v => ((v.1, v.2.1, v.2.2.1, v.2.2.2, ()), (), ()), by intro v; kernel_rfl⟩
def cmp_Or_int_.l0.x : List (PE × Pt) := [(.ret, ⟨⟨18, [(2, .one (.v (.int .i64)))], [], [], []⟩, Int, fun v => v.1.1, fun v => ((v, ()), (), ()), by intro v; kernel_rfl⟩), (.exit 0, ⟨⟨18, [(3, .one (.v (.int .i64)))], [], [], []⟩, Int, fun v => v.1.1, fun v => ((v, ()), (), ()), by intro v; kernel_rfl⟩)]
noncomputable def cmp_Or_int_.l0.d (k : Nat) : CD Tryd.prog GL [] := .loop (cmp_Or_int_.V k) (bodyOf Tryd.f61).M.M.L.M.L.L .no cmp_Or_int_.l0.s cmp_Or_int_.l0.x (fun n v => cmp_Or_int_.l0 k n v.1 v.2.1 v.2.2.1 v.2.2.2) k (by kernel_rfl) (fun _ => rfl) (by intro n v; kernel_rfl)
noncomputable def cmp_Or_int_.fd (k : Nat) : FD Tryd.prog GL := .of (cmp_Or_int_.V k) 61 Tryd.f61 Tryd.func61 [(.list (.int .i64), false)] [(.int .i64, false)] id (fun v => cmp_Or_int_.f k v.1) (fun v => v.1) (fun v => (v, ())) (.node .no (.node .no (.node (.node .no (.node (.cut (cmp_Or_int_.l0.d k)) .no)) .no))) (by kernel_rfl) (by intro x; kernel_rfl) (by kernel_rfl) (by intro v; kernel_rfl)
/-! record_Cmp -/
noncomputable def record_Cmp.f (k : Nat) (a1 : (Int × Int × Int × (List Int))) (b2 : (Int × Int × Int × (List Int))) : Option (Int) :=
  (cmp_Compare_int64_.f k a1.2.1 b2.2.1).bind fun y3 =>
  (cmp_Compare_int64_.f k a1.2.2.1 b2.2.2.1).bind fun y4 =>
  (cmp_Or_int_.f k [y3, y4]).bind fun y5 =>
  some y5
@[reducible] noncomputable def record_Cmp.V (k : Nat) : Env Tryd.prog GL := mkV [] [cmp_Compare_int64_.fd k, cmp_Or_int_.fd k]
noncomputable def record_Cmp.fd (k : Nat) : FD Tryd.prog GL := .of (record_Cmp.V k) 29 Tryd.f29 Tryd.func29 [(.pair (.int .i64) (.pair (.int .i64) (.pair (.int .i64) (.list (.int .i64)))), true), (.pair (.int .i64) (.pair (.int .i64) (.pair (.int .i64) (.list (.int .i64)))), true)] [(.int .i64, false)] id (fun v => record_Cmp.f k v.1 v.2.1) (fun v => v.1) (fun v => (v, ())) .no (by kernel_rfl) (by intro x; kernel_rfl) (by kernel_rfl) (by intro v; kernel_rfl)
/-! law33_RecordBack -/
noncomputable def law33_RecordBack.l0 (k : Nat) : Nat → ByteArray → Int → Int → Int → (List Int) → Int → Int → Int → (List Int) → Int → Int → Int → (List Int) → Int → Int → Int → Int → (List Int) → Int → Int → Int → (List Int) → Int → Int → Int → (List Int) → Option ((Bool) ⊕ (ByteArray × Int × Int × Int × (List Int) × Int × Int × Int × (List Int) × Int × Int × Int × (List Int)))
  | 0, _, _, _, _, _, _, _, _, _, _, _, _, _, _, _, _, _, _, _, _, _, _, _, _, _, _ => none
  | n + 1, line4, x5, x6, x7, x8, x9, x10, x11, x12, x13, x14, x15, x16, x17, l18, l19, l20, l21, l22, l23, l24, l25, l26, l27, l28, l29 =>
    if (decide (x17 < (3 : Int))) = true then
      if 0 ≤ x17 ∧ x17 < ((3 : Nat) : Int) then
      if (decide ((200 : Int) < (List.length (rdT (.pair (.int .i64) (.pair (.int .i64) (.pair (.int .i64) (.list (.int .i64))))) [(x5, x6, x7, x8), (x9, x10, x11, x12), (x13, x14, x15, x16)] x17).2.2.2 : Int))) = true then
        (law33_lives.f k).bind fun y30 =>
        some (.inl y30)
      else
      (record_Line.f k ((rdT (.pair (.int .i64) (.pair (.int .i64) (.pair (.int .i64) (.list (.int .i64))))) [(x5, x6, x7, x8), (x9, x10, x11, x12), (x13, x14, x15, x16)] x17).1, (rdT (.pair (.int .i64) (.pair (.int .i64) (.pair (.int .i64) (.list (.int .i64))))) [(x5, x6, x7, x8), (x9, x10, x11, x12), (x13, x14, x15, x16)] x17).2.1, (rdT (.pair (.int .i64) (.pair (.int .i64) (.pair (.int .i64) (.list (.int .i64))))) [(x5, x6, x7, x8), (x9, x10, x11, x12), (x13, x14, x15, x16)] x17).2.2.1, (rdT (.pair (.int .i64) (.pair (.int .i64) (.pair (.int .i64) (.list (.int .i64))))) [(x5, x6, x7, x8), (x9, x10, x11, x12), (x13, x14, x15, x16)] x17).2.2.2)).bind fun y31 =>
      (record_Read.f k y31).bind fun y32 =>
      (record_May.f k ((rdT (.pair (.int .i64) (.pair (.int .i64) (.pair (.int .i64) (.list (.int .i64))))) [(x5, x6, x7, x8), (x9, x10, x11, x12), (x13, x14, x15, x16)] x17).1, (rdT (.pair (.int .i64) (.pair (.int .i64) (.pair (.int .i64) (.list (.int .i64))))) [(x5, x6, x7, x8), (x9, x10, x11, x12), (x13, x14, x15, x16)] x17).2.1, (rdT (.pair (.int .i64) (.pair (.int .i64) (.pair (.int .i64) (.list (.int .i64))))) [(x5, x6, x7, x8), (x9, x10, x11, x12), (x13, x14, x15, x16)] x17).2.2.1, (rdT (.pair (.int .i64) (.pair (.int .i64) (.pair (.int .i64) (.list (.int .i64))))) [(x5, x6, x7, x8), (x9, x10, x11, x12), (x13, x14, x15, x16)] x17).2.2.2)).bind fun y33 =>
      if (!(y33 == (!(y31.toList == (bs []).toList)))) = true then
        some (.inl false)
      else
      if (!(y32.2 == (!(y31.toList == (bs []).toList)))) = true then
        some (.inl false)
      else
      if y32.2 = true then
        (ref33_Same.f k y32.1 ((rdT (.pair (.int .i64) (.pair (.int .i64) (.pair (.int .i64) (.list (.int .i64))))) [(x5, x6, x7, x8), (x9, x10, x11, x12), (x13, x14, x15, x16)] x17).1, (rdT (.pair (.int .i64) (.pair (.int .i64) (.pair (.int .i64) (.list (.int .i64))))) [(x5, x6, x7, x8), (x9, x10, x11, x12), (x13, x14, x15, x16)] x17).2.1, (rdT (.pair (.int .i64) (.pair (.int .i64) (.pair (.int .i64) (.list (.int .i64))))) [(x5, x6, x7, x8), (x9, x10, x11, x12), (x13, x14, x15, x16)] x17).2.2.1, (rdT (.pair (.int .i64) (.pair (.int .i64) (.pair (.int .i64) (.list (.int .i64))))) [(x5, x6, x7, x8), (x9, x10, x11, x12), (x13, x14, x15, x16)] x17).2.2.2)).bind fun y34 =>
        if (!y34) = true then
          some (.inl false)
        else
        law33_RecordBack.l0 k n line4 x5 x6 x7 x8 x9 x10 x11 x12 x13 x14 x15 x16 (wrap64 (x17 + (1 : Int))) l18 l19 l20 l21 l22 l23 l24 l25 l26 l27 l28 l29
      else
      law33_RecordBack.l0 k n line4 x5 x6 x7 x8 x9 x10 x11 x12 x13 x14 x15 x16 (wrap64 (x17 + (1 : Int))) l18 l19 l20 l21 l22 l23 l24 l25 l26 l27 l28 l29
      else none
    else
    some (.inr (line4, l18, l19, l20, l21, l22, l23, l24, l25, l26, l27, l28, l29))
noncomputable def law33_RecordBack.f (k : Nat) (l1 : ((Int × Int × Int × (List Int)) × (Int × Int × Int × (List Int)) × Int × Int × Int × (List Int))) (line2 : ByteArray) : Option (Bool) :=
  if (decide ((3000 : Int) < (line2.size : Int))) = true then
    (law33_lives.f k).bind fun y3 =>
    some y3
  else
  (law33_RecordBack.l0 k k line2 l1.1.1 l1.1.2.1 l1.1.2.2.1 l1.1.2.2.2 l1.2.1.1 l1.2.1.2.1 l1.2.1.2.2.1 l1.2.1.2.2.2 l1.2.2.1 l1.2.2.2.1 l1.2.2.2.2.1 l1.2.2.2.2.2 (0 : Int) l1.1.1 l1.1.2.1 l1.1.2.2.1 l1.1.2.2.2 l1.2.1.1 l1.2.1.2.1 l1.2.1.2.2.1 l1.2.1.2.2.2 l1.2.2.1 l1.2.2.2.1 l1.2.2.2.2.1 l1.2.2.2.2.2).bind fun r => match r with
  | .inl r35 =>
    some r35
  | .inr r36 =>
    (record_Read.f k r36.1).bind fun y37 =>
    if y37.2 = true then
      (record_Line.f k y37.1).bind fun y38 =>
      if (!(y38.toList == r36.1.toList)) = true then
        some false
      else
      if 0 ≤ (0 : Int) ∧ (0 : Int) < (3 : Nat) then
      if 0 ≤ (1 : Int) ∧ (1 : Int) < (3 : Nat) then
      (record_Cmp.f k (r36.2.1, r36.2.2.1, r36.2.2.2.1, r36.2.2.2.2.1) (r36.2.2.2.2.2.1, r36.2.2.2.2.2.2.1, r36.2.2.2.2.2.2.2.1, r36.2.2.2.2.2.2.2.2.1)).bind fun y39 =>
      if 0 ≤ (1 : Int) ∧ (1 : Int) < (3 : Nat) then
      if 0 ≤ (2 : Int) ∧ (2 : Int) < (3 : Nat) then
      (record_Cmp.f k (r36.2.2.2.2.2.1, r36.2.2.2.2.2.2.1, r36.2.2.2.2.2.2.2.1, r36.2.2.2.2.2.2.2.2.1) r36.2.2.2.2.2.2.2.2.2).bind fun y40 =>
      if 0 ≤ (0 : Int) ∧ (0 : Int) < (3 : Nat) then
      if 0 ≤ (2 : Int) ∧ (2 : Int) < (3 : Nat) then
      (record_Cmp.f k (r36.2.1, r36.2.2.1, r36.2.2.2.1, r36.2.2.2.2.1) r36.2.2.2.2.2.2.2.2.2).bind fun y41 =>
      if 0 ≤ (1 : Int) ∧ (1 : Int) < (3 : Nat) then
      if 0 ≤ (0 : Int) ∧ (0 : Int) < (3 : Nat) then
      (record_Cmp.f k (r36.2.2.2.2.2.1, r36.2.2.2.2.2.2.1, r36.2.2.2.2.2.2.2.1, r36.2.2.2.2.2.2.2.2.1) (r36.2.1, r36.2.2.1, r36.2.2.2.1, r36.2.2.2.2.1)).bind fun y42 =>
      if (y42 == (wrap64 (0 - y39))) = true then
        if (decide (y39 < (0 : Int))) = true then
          if (decide ((0 : Int) < y39)) = true then
            (law33_lives.f k).bind fun y43 =>
            some y43
          else
          if (decide ((0 : Int) < y40)) = true then
            (law33_lives.f k).bind fun y44 =>
            some y44
          else
          if (decide (y41 ≤ (0 : Int))) = true then
            (law33_lives.f k).bind fun y45 =>
            some y45
          else
          some false
        else
        if (decide (y40 < (0 : Int))) = true then
          if (decide ((0 : Int) < y39)) = true then
            (law33_lives.f k).bind fun y46 =>
            some y46
          else
          if (decide ((0 : Int) < y40)) = true then
            (law33_lives.f k).bind fun y47 =>
            some y47
          else
          if (decide (y41 ≤ (0 : Int))) = true then
            (law33_lives.f k).bind fun y48 =>
            some y48
          else
          some false
        else
        if (decide ((0 : Int) ≤ y41)) = true then
          if (decide ((0 : Int) < y39)) = true then
            (law33_lives.f k).bind fun y49 =>
            some y49
          else
          if (decide ((0 : Int) < y40)) = true then
            (law33_lives.f k).bind fun y50 =>
            some y50
          else
          if (decide (y41 ≤ (0 : Int))) = true then
            (law33_lives.f k).bind fun y51 =>
            some y51
          else
          some false
        else
        some false
      else
      some false
      else none
      else none
      else none
      else none
      else none
      else none
      else none
      else none
    else
    if 0 ≤ (0 : Int) ∧ (0 : Int) < (3 : Nat) then
    if 0 ≤ (1 : Int) ∧ (1 : Int) < (3 : Nat) then
    (record_Cmp.f k (r36.2.1, r36.2.2.1, r36.2.2.2.1, r36.2.2.2.2.1) (r36.2.2.2.2.2.1, r36.2.2.2.2.2.2.1, r36.2.2.2.2.2.2.2.1, r36.2.2.2.2.2.2.2.2.1)).bind fun y52 =>
    if 0 ≤ (1 : Int) ∧ (1 : Int) < (3 : Nat) then
    if 0 ≤ (2 : Int) ∧ (2 : Int) < (3 : Nat) then
    (record_Cmp.f k (r36.2.2.2.2.2.1, r36.2.2.2.2.2.2.1, r36.2.2.2.2.2.2.2.1, r36.2.2.2.2.2.2.2.2.1) r36.2.2.2.2.2.2.2.2.2).bind fun y53 =>
    if 0 ≤ (0 : Int) ∧ (0 : Int) < (3 : Nat) then
    if 0 ≤ (2 : Int) ∧ (2 : Int) < (3 : Nat) then
    (record_Cmp.f k (r36.2.1, r36.2.2.1, r36.2.2.2.1, r36.2.2.2.2.1) r36.2.2.2.2.2.2.2.2.2).bind fun y54 =>
    if 0 ≤ (1 : Int) ∧ (1 : Int) < (3 : Nat) then
    if 0 ≤ (0 : Int) ∧ (0 : Int) < (3 : Nat) then
    (record_Cmp.f k (r36.2.2.2.2.2.1, r36.2.2.2.2.2.2.1, r36.2.2.2.2.2.2.2.1, r36.2.2.2.2.2.2.2.2.1) (r36.2.1, r36.2.2.1, r36.2.2.2.1, r36.2.2.2.2.1)).bind fun y55 =>
    if (y55 == (wrap64 (0 - y52))) = true then
      if (decide (y52 < (0 : Int))) = true then
        if (decide ((0 : Int) < y52)) = true then
          (law33_lives.f k).bind fun y56 =>
          some y56
        else
        if (decide ((0 : Int) < y53)) = true then
          (law33_lives.f k).bind fun y57 =>
          some y57
        else
        if (decide (y54 ≤ (0 : Int))) = true then
          (law33_lives.f k).bind fun y58 =>
          some y58
        else
        some false
      else
      if (decide (y53 < (0 : Int))) = true then
        if (decide ((0 : Int) < y52)) = true then
          (law33_lives.f k).bind fun y59 =>
          some y59
        else
        if (decide ((0 : Int) < y53)) = true then
          (law33_lives.f k).bind fun y60 =>
          some y60
        else
        if (decide (y54 ≤ (0 : Int))) = true then
          (law33_lives.f k).bind fun y61 =>
          some y61
        else
        some false
      else
      if (decide ((0 : Int) ≤ y54)) = true then
        if (decide ((0 : Int) < y52)) = true then
          (law33_lives.f k).bind fun y62 =>
          some y62
        else
        if (decide ((0 : Int) < y53)) = true then
          (law33_lives.f k).bind fun y63 =>
          some y63
        else
        if (decide (y54 ≤ (0 : Int))) = true then
          (law33_lives.f k).bind fun y64 =>
          some y64
        else
        some false
      else
      some false
    else
    some false
    else none
    else none
    else none
    else none
    else none
    else none
    else none
    else none
@[reducible] noncomputable def law33_RecordBack.V (k : Nat) : Env Tryd.prog GL := mkV [] [law33_lives.fd k, record_Line.fd k, record_Read.fd k, record_May.fd k, ref33_Same.fd k, record_Cmp.fd k]
def law33_RecordBack.l0.s : Pt := ⟨⟨118, [(1, .one (.v .str)), (2, .one (.p 2 0)), (19, .agg [.v (.int .i64), .v (.int .i64), .v (.int .i64), .v (.list (.int .i64)), .v (.int .i64), .v (.int .i64), .v (.int .i64), .v (.list (.int .i64)), .v (.int .i64), .v (.int .i64), .v (.int .i64), .v (.list (.int .i64))]), (20, .one (.v (.int .i64)))], [(2, [.v (.int .i64), .v (.int .i64), .v (.int .i64), .v (.list (.int .i64)), .v (.int .i64), .v (.int .i64), .v (.int .i64), .v (.list (.int .i64)), .v (.int .i64), .v (.int .i64), .v (.int .i64), .v (.list (.int .i64))])], [], []⟩, ByteArray × Int × Int × Int × (List Int) × Int × Int × Int × (List Int) × Int × Int × Int × (List Int) × Int × Int × Int × Int × (List Int) × Int × Int × Int × (List Int) × Int × Int × Int × (List Int), fun v => (v.1.1, v.1.2.2.1.1, v.1.2.2.1.2.1, v.1.2.2.1.2.2.1, v.1.2.2.1.2.2.2.1, v.1.2.2.1.2.2.2.2.1, v.1.2.2.1.2.2.2.2.2.1, v.1.2.2.1.2.2.2.2.2.2.1, v.1.2.2.1.2.2.2.2.2.2.2.1, v.1.2.2.1.2.2.2.2.2.2.2.2.1, v.1.2.2.1.2.2.2.2.2.2.2.2.2.1, v.1.2.2.1.2.2.2.2.2.2.2.2.2.2.1, v.1.2.2.1.2.2.2.2.2.2.2.2.2.2.2.1, v.1.2.2.2.1, v.2.1.1.1, v.2.1.1.2.1, v.2.1.1.2.2.1, v.2.1.1.2.2.2.1, v.2.1.1.2.2.2.2.1, v.2.1.1.2.2.2.2.2.1, v.2.1.1.2.2.2.2.2.2.1, v.2.1.1.2.2.2.2.2.2.2.1, v.2.1.1.2.2.2.2.2.2.2.2.1, v.2.1.1.2.2.2.2.2.2.2.2.2.1, v.2.1.1.2.2.2.2.2.2.2.2.2.2.1, v.2.1.1.2.2.2.2.2.2.2.2.2.2.2.1), fun v => ((v.1, (), (v.2.1, v.2.2.1, v.2.2.2.1, v.2.2.2.2.1, v.2.2.2.2.2.1, v.2.2.2.2.2.2.1, v.2.2.2.2.2.2.2.1, v.2.2.2.2.2.2.2.2.1, v.2.2.2.2.2.2.2.2.2.1, v.2.2.2.2.2.2.2.2.2.2.1, v.2.2.2.2.2.2.2.2.2.2.2.1, v.2.2.2.2.2.2.2.2.2.2.2.2.1, ()), v.2.2.2.2.2.2.2.2.2.2.2.2.2.1, ()), ((v.2.2.2.2.2.2.2.2.2.2.2.2.2.2.1, v.2.2.2.2.2.2.2.2.2.2.2.2.2.2.2.1, v.2.2.2.2.2.2.2.2.2.2.2.2.2.2.2.2.1, v.2.2.2.2.2.2.2.2.2.2.2.2.2.2.2.2.2.1, v.2.2.2.2.2.2.2.2.2.2.2.2.2.2.2.2.2.2.1, v.2.2.2.2.2.2.2.2.2.2.2.2.2.2.2.2.2.2.2.1, v.2.2.2.2.2.2.2.2.2.2.2.2.2.2.2.2.2.2.2.2.1, v.2.2.2.2.2.2.2.2.2.2.2.2.2.2.2.2.2.2.2.2.2.1, v.2.2.2.2.2.2.2.2.2.2.2.2.2.2.2.2.2.2.2.2.2.2.1, v.2.2.2.2.2.2.2.2.2.2.2.2.2.2.2.2.2.2.2.2.2.2.2.1, v.2.2.2.2.2.2.2.2.2.2.2.2.2.2.2.2.2.2.2.2.2.2.2.2.1, v.2.2.2.2.2.2.2.2.2.2.2.2.2.2.2.2.2.2.2.2.2.2.2.2.2, ()), ()), ()), by intro v; kernel_rfl⟩
def law33_RecordBack.l0.x : List (PE × Pt) := [(.ret, ⟨⟨118, [(4, .one (.v .bool))], [], [], []⟩, Bool, fun v => v.1.1, fun v => ((v, ()), (), ()), by intro v; kernel_rfl⟩), (.exit 0, ⟨⟨118, [(1, .one (.v .str)), (2, .one (.p 2 0))], [(2, [.v (.int .i64), .v (.int .i64), .v (.int .i64), .v (.list (.int .i64)), .v (.int .i64), .v (.int .i64), .v (.int .i64), .v (.list (.int .i64)), .v (.int .i64), .v (.int .i64), .v (.int .i64), .v (.list (.int .i64))])], [], []⟩, ByteArray × Int × Int × Int × (List Int) × Int × Int × Int × (List Int) × Int × Int × Int × (List Int), fun v => (v.1.1, v.2.1.1.1, v.2.1.1.2.1, v.2.1.1.2.2.1, v.2.1.1.2.2.2.1, v.2.1.1.2.2.2.2.1, v.2.1.1.2.2.2.2.2.1, v.2.1.1.2.2.2.2.2.2.1, v.2.1.1.2.2.2.2.2.2.2.1, v.2.1.1.2.2.2.2.2.2.2.2.1, v.2.1.1.2.2.2.2.2.2.2.2.2.1, v.2.1.1.2.2.2.2.2.2.2.2.2.2.1, v.2.1.1.2.2.2.2.2.2.2.2.2.2.2.1), fun v => ((v.1, (), ()), ((v.2.1, v.2.2.1, v.2.2.2.1, v.2.2.2.2.1, v.2.2.2.2.2.1, v.2.2.2.2.2.2.1, v.2.2.2.2.2.2.2.1, v.2.2.2.2.2.2.2.2.1, v.2.2.2.2.2.2.2.2.2.1, v.2.2.2.2.2.2.2.2.2.2.1, v.2.2.2.2.2.2.2.2.2.2.2.1, v.2.2.2.2.2.2.2.2.2.2.2.2, ()), ()), ()), by intro v; kernel_rfl⟩)]
noncomputable def law33_RecordBack.l0.d (k : Nat) : CD Tryd.prog GL [] := .loop (law33_RecordBack.V k) (bodyOf Tryd.f12).M.M.L.M.L.L (.node .no (.node .no (.node (.node (.node .no (.node .no (.node .no (.node .no (.node .no (.view [⟨118, [(1, .one (.v .str)), (2, .one (.p 2 0)), (19, .agg [.v (.int .i64), .v (.int .i64), .v (.int .i64), .v (.list (.int .i64)), .v (.int .i64), .v (.int .i64), .v (.int .i64), .v (.list (.int .i64)), .v (.int .i64), .v (.int .i64), .v (.int .i64), .v (.list (.int .i64))]), (20, .one (.v (.int .i64))), (54, .one (.v .bool))], [(2, [.v (.int .i64), .v (.int .i64), .v (.int .i64), .v (.list (.int .i64)), .v (.int .i64), .v (.int .i64), .v (.int .i64), .v (.list (.int .i64)), .v (.int .i64), .v (.int .i64), .v (.int .i64), .v (.list (.int .i64))])], [], []⟩] .no .no)))))) .no) .no))) law33_RecordBack.l0.s law33_RecordBack.l0.x (fun n v => law33_RecordBack.l0 k n v.1 v.2.1 v.2.2.1 v.2.2.2.1 v.2.2.2.2.1 v.2.2.2.2.2.1 v.2.2.2.2.2.2.1 v.2.2.2.2.2.2.2.1 v.2.2.2.2.2.2.2.2.1 v.2.2.2.2.2.2.2.2.2.1 v.2.2.2.2.2.2.2.2.2.2.1 v.2.2.2.2.2.2.2.2.2.2.2.1 v.2.2.2.2.2.2.2.2.2.2.2.2.1 v.2.2.2.2.2.2.2.2.2.2.2.2.2.1 v.2.2.2.2.2.2.2.2.2.2.2.2.2.2.1 v.2.2.2.2.2.2.2.2.2.2.2.2.2.2.2.1 v.2.2.2.2.2.2.2.2.2.2.2.2.2.2.2.2.1 v.2.2.2.2.2.2.2.2.2.2.2.2.2.2.2.2.2.1 v.2.2.2.2.2.2.2.2.2.2.2.2.2.2.2.2.2.2.1 v.2.2.2.2.2.2.2.2.2.2.2.2.2.2.2.2.2.2.2.1 v.2.2.2.2.2.2.2.2.2.2.2.2.2.2.2.2.2.2.2.2.1 v.2.2.2.2.2.2.2.2.2.2.2.2.2.2.2.2.2.2.2.2.2.1 v.2.2.2.2.2.2.2.2.2.2.2.2.2.2.2.2.2.2.2.2.2.2.1 v.2.2.2.2.2.2.2.2.2.2.2.2.2.2.2.2.2.2.2.2.2.2.2.1 v.2.2.2.2.2.2.2.2.2.2.2.2.2.2.2.2.2.2.2.2.2.2.2.2.1 v.2.2.2.2.2.2.2.2.2.2.2.2.2.2.2.2.2.2.2.2.2.2.2.2.2) k (by kernel_rfl) (fun _ => rfl) (by intro n v; kernel_rfl)
theorem law33_RecordBack.con (k : Nat) (v : DT [(.pair (.pair (.int .i64) (.pair (.int .i64) (.pair (.int .i64) (.list (.int .i64))))) (.pair (.pair (.int .i64) (.pair (.int .i64) (.pair (.int .i64) (.list (.int .i64))))) (.pair (.int .i64) (.pair (.int .i64) (.pair (.int .i64) (.list (.int .i64)))))), true), (.str, false)]) (y : Bool) (h : (fun v => law33_RecordBack.f k v.1 v.2.1) (id v) = some y) : Con Tryd.prog GL 12 ((putD [(.pair (.pair (.int .i64) (.pair (.int .i64) (.pair (.int .i64) (.list (.int .i64))))) (.pair (.pair (.int .i64) (.pair (.int .i64) (.pair (.int .i64) (.list (.int .i64))))) (.pair (.int .i64) (.pair (.int .i64) (.pair (.int .i64) (.list (.int .i64)))))), true), (.str, false)] v).map .p) [] (.ret (putR [(.bool, false)] ((fun v => (v, ())) y))) [] := con_of (law33_RecordBack.V k) 12 Tryd.f12 Tryd.func12 [(.pair (.pair (.int .i64) (.pair (.int .i64) (.pair (.int .i64) (.list (.int .i64))))) (.pair (.pair (.int .i64) (.pair (.int .i64) (.pair (.int .i64) (.list (.int .i64))))) (.pair (.int .i64) (.pair (.int .i64) (.pair (.int .i64) (.list (.int .i64)))))), true), (.str, false)] [(.bool, false)] id (fun v => law33_RecordBack.f k v.1 v.2.1) (fun v => v.1) (fun v => (v, ())) (.node .no (.node .no (.node (.node .no (.node (.cut (law33_RecordBack.l0.d k)) .no)) (.node .no (.node .no (.node .no (.view [⟨118, [(2, .one (.p 2 0)), (12, .one (.v (.int .i64))), (13, .one (.v (.int .i64))), (14, .one (.v (.int .i64)))], [(2, [.v (.int .i64), .v (.int .i64), .v (.int .i64), .v (.list (.int .i64)), .v (.int .i64), .v (.int .i64), .v (.int .i64), .v (.list (.int .i64)), .v (.int .i64), .v (.int .i64), .v (.int .i64), .v (.list (.int .i64))])], [], []⟩] .no .no))))))) (by kernel_rfl) (by intro x; kernel_rfl) (by kernel_rfl) (by intro v; kernel_rfl) v y h
/-! delta_may -/
noncomputable def delta_may.j0 (k : Nat) (x2 : Int) (d3 : Int) (d4 : Int) (d5 : (List Int)) : Option ((Int × Bool × Int × Int × (List Int))) :=
  if (x2 == (1 : Int)) = true then
    some (x2, (x2 == (1 : Int)), d3, d4, d5)
  else
  some (x2, (x2 == (2 : Int)), d3, d4, d5)
noncomputable def delta_may.f (k : Nat) (d1 : (Int × Int × (List Int))) : Option (Bool) :=
  (delta_may.j0 k d1.1 d1.1 d1.2.1 d1.2.2).bind fun r6 =>
  if r6.2.1 = true then
    some (decide ((0 : Int) ≤ r6.2.2.2.1))
  else
  if (r6.1 == (3 : Int)) = true then
    if (decide ((0 : Int) ≤ r6.2.2.2.1)) = true then
      some ((List.length r6.2.2.2.2 : Int) == (0 : Int))
    else
    some false
  else
  some false
@[reducible] noncomputable def delta_may.V (k : Nat) : Env Tryd.prog GL := mkV [] []
def delta_may.j0.s : Pt := ⟨⟨22, [(1, .one (.p 1 0)), (4, .one (.v (.int .i64)))], [(1, [.v (.int .i64), .v (.int .i64), .v (.list (.int .i64))])], [], []⟩, Int × Int × Int × (List Int), fun v => (v.1.2.1, v.2.1.1.1, v.2.1.1.2.1, v.2.1.1.2.2.1), fun v => (((), v.1, ()), ((v.2.1, v.2.2.1, v.2.2.2, ()), ()), ()), by intro v; kernel_rfl⟩
def delta_may.j0.x : List (PE × Pt) := [(.normal, ⟨⟨22, [(1, .one (.p 1 0)), (4, .one (.v (.int .i64))), (5, .one (.v .bool))], [(1, [.v (.int .i64), .v (.int .i64), .v (.list (.int .i64))])], [], []⟩, Int × Bool × Int × Int × (List Int), fun v => (v.1.2.1, v.1.2.2.1, v.2.1.1.1, v.2.1.1.2.1, v.2.1.1.2.2.1), fun v => (((), v.1, v.2.1, ()), ((v.2.2.1, v.2.2.2.1, v.2.2.2.2, ()), ()), ()), by intro v; kernel_rfl⟩)]
noncomputable def delta_may.j0.d (k : Nat) : CD Tryd.prog GL [] := .join (delta_may.V k) (bodyOf Tryd.f73).M.L.M.L.L .no delta_may.j0.s delta_may.j0.x (fun v => delta_may.j0 k v.1 v.2.1 v.2.2.1 v.2.2.2) (by kernel_rfl) (by intro v; kernel_rfl)
noncomputable def delta_may.fd (k : Nat) : FD Tryd.prog GL := .of (delta_may.V k) 73 Tryd.f73 Tryd.func73 [(.pair (.int .i64) (.pair (.int .i64) (.list (.int .i64))), true)] [(.bool, false)] id (fun v => delta_may.f k v.1) (fun v => v.1) (fun v => (v, ())) (.node .no (.node (.node .no (.node (.node (.cut (delta_may.j0.d k)) .no) .no)) .no)) (by kernel_rfl) (by intro x; kernel_rfl) (by kernel_rfl) (by intro v; kernel_rfl)
/-! delta_Line -/
noncomputable def delta_Line.l0 (k : Nat) : Nat → (List ByteArray) → (List Int) → Int → Int → Option (((List ByteArray)))
  | 0, _, _, _, _ => none
  | n + 1, words4, x5, x6, x7 =>
    if (decide (x7 < x6)) = true then
      if 0 ≤ x7 ∧ x7 < List.length x5 then
      (digits_Put.f k (rdT (.int .i64) x5 x7)).bind fun y8 =>
      if (List.length words4 + List.length [y8]) * 16 ≤ 140737488355328 ∧ List.length words4 + List.length [y8] ≤ 9223372036854775807 then
      delta_Line.l0 k n (words4 ++ [y8]) x5 x6 (wrap64 (x7 + (1 : Int)))
      else none
      else none
    else
    some words4
noncomputable def delta_Line.f (k : Nat) (d1 : (Int × Int × (List Int))) : Option (ByteArray) :=
  (delta_may.f k d1).bind fun y2 =>
  if (!y2) = true then
    some (bs [])
  else
  if 0 ≤ d1.1 ∧ d1.1 ≤ (wrap64 (d1.1 + (1 : Int))) ∧ (wrap64 (d1.1 + (1 : Int))) ≤ ((bs [32, 43, 61, 45]).size : Int) then
  (digits_Put.f k d1.2.1).bind fun y3 =>
  (delta_Line.l0 k k [((bs [32, 43, 61, 45]).extract (d1.1).toNat ((wrap64 (d1.1 + (1 : Int)))).toNat), y3] d1.2.2 (List.length d1.2.2 : Int) (0 : Int)).bind fun r9 =>
  (x_Join r9 (bs [32])).bind fun y10 =>
  some y10
  else none
@[reducible] noncomputable def delta_Line.V (k : Nat) : Env Tryd.prog GL := mkV [] [delta_may.fd k, digits_Put.fd k, x_Join_fd]
def delta_Line.l0.s : Pt := ⟨⟨34, [(3, .one (.t .str 9 1001)), (20, .one (.v (.list (.int .i64)))), (21, .one (.v (.int .i64))), (22, .one (.v (.int .i64)))], [], [(1001, none)], []⟩, (List ByteArray) × (List Int) × Int × Int, fun v => (v.1.1, v.1.2.1, v.1.2.2.1, v.1.2.2.2.1), fun v => ((v.1, v.2.1, v.2.2.1, v.2.2.2, ()), (), ()), by intro v; kernel_rfl⟩
def delta_Line.l0.x : List (PE × Pt) := [(.exit 0, ⟨⟨34, [(3, .one (.t .str 9 1001))], [], [(1001, none)], []⟩, (List ByteArray), fun v => v.1.1, fun v => ((v, ()), (), ()), by intro v; kernel_rfl⟩)]
noncomputable def delta_Line.l0.d (k : Nat) : CD Tryd.prog GL [] := .loop (delta_Line.V k) (bodyOf Tryd.f45).M.M.M.L.M.L.L .no delta_Line.l0.s delta_Line.l0.x (fun n v => delta_Line.l0 k n v.1 v.2.1 v.2.2.1 v.2.2.2) k (by kernel_rfl) (fun _ => rfl) (by intro n v; kernel_rfl)
noncomputable def delta_Line.fd (k : Nat) : FD Tryd.prog GL := .of (delta_Line.V k) 45 Tryd.f45 Tryd.func45 [(.pair (.int .i64) (.pair (.int .i64) (.list (.int .i64))), true)] [(.str, false)] id (fun v => delta_Line.f k v.1) (fun v => v.1) (fun v => (v, ())) (.node .no (.node .no (.node .no (.node (.node .no (.node (.cut (delta_Line.l0.d k)) .no)) .no)))) (by kernel_rfl) (by intro x; kernel_rfl) (by kernel_rfl) (by intro v; kernel_rfl)
/-! law32_lives -/
noncomputable def law32_lives.f (k : Nat) : Option (Bool) :=
  (delta_Line.f k ((1 : Int), (0 : Int), [(5 : Int), (-1 : Int)])).bind fun y1 =>
  some (y1.toList == (bs [43, 32, 48, 32, 53, 32, 45, 49]).toList)
@[reducible] noncomputable def law32_lives.V (k : Nat) : Env Tryd.prog GL := mkV [] [delta_Line.fd k]
noncomputable def law32_lives.fd (k : Nat) : FD Tryd.prog GL := .of (law32_lives.V k) 37 Tryd.f37 Tryd.func37 [] [(.bool, false)] id (fun v => law32_lives.f k) (fun v => v.1) (fun v => (v, ())) .no (by kernel_rfl) (by intro x; kernel_rfl) (by kernel_rfl) (by intro v; kernel_rfl)
/-! ref32_Line -/
noncomputable def ref32_Line.l0 (k : Nat) : Nat → ByteArray → Int → Int → Int → (List Int) → Option ((ByteArray))
  | 0, _, _, _, _, _ => none
  | n + 1, s3, i4, d5, d6, d7 =>
    if (decide (i4 < (List.length d7 : Int))) = true then
      if s3.size + (bs [32]).size ≤ 9223372036854775807 then
      if 0 ≤ i4 ∧ i4 < List.length d7 then
      (ref10_Put.f k (rdT (.int .i64) d7 i4)).bind fun y8 =>
      if (s3 ++ (bs [32])).size + y8.size ≤ 9223372036854775807 then
      ref32_Line.l0 k n ((s3 ++ (bs [32])) ++ y8) (wrap64 (i4 + (1 : Int))) d5 d6 d7
      else none
      else none
      else none
    else
    some s3
noncomputable def ref32_Line.f (k : Nat) (d1 : (Int × Int × (List Int))) : Option (ByteArray) :=
  if (decide (d1.1 < (1 : Int))) = true then
    some (bs [])
  else
  if (decide ((3 : Int) < d1.1)) = true then
    some (bs [])
  else
  if (decide (d1.2.1 < (0 : Int))) = true then
    some (bs [])
  else
  if (d1.1 == (3 : Int)) = true then
    if (decide ((0 : Int) < (List.length d1.2.2 : Int))) = true then
      some (bs [])
    else
    if 0 ≤ d1.1 ∧ d1.1 < List.length [(bs []), (bs [43, 32]), (bs [61, 32]), (bs [45, 32])] then
    (ref10_Put.f k d1.2.1).bind fun y2 =>
    if (rdT .str [(bs []), (bs [43, 32]), (bs [61, 32]), (bs [45, 32])] d1.1).size + y2.size ≤ 9223372036854775807 then
    (ref32_Line.l0 k k ((rdT .str [(bs []), (bs [43, 32]), (bs [61, 32]), (bs [45, 32])] d1.1) ++ y2) (0 : Int) d1.1 d1.2.1 d1.2.2).bind fun r9 =>
    some r9
    else none
    else none
  else
  if 0 ≤ d1.1 ∧ d1.1 < List.length [(bs []), (bs [43, 32]), (bs [61, 32]), (bs [45, 32])] then
  (ref10_Put.f k d1.2.1).bind fun y10 =>
  if (rdT .str [(bs []), (bs [43, 32]), (bs [61, 32]), (bs [45, 32])] d1.1).size + y10.size ≤ 9223372036854775807 then
  (ref32_Line.l0 k k ((rdT .str [(bs []), (bs [43, 32]), (bs [61, 32]), (bs [45, 32])] d1.1) ++ y10) (0 : Int) d1.1 d1.2.1 d1.2.2).bind fun r11 =>
  some r11
  else none
  else none
@[reducible] noncomputable def ref32_Line.V (k : Nat) : Env Tryd.prog GL := mkV [] [ref10_Put.fd k]
def ref32_Line.l0.s : Pt := ⟨⟨55, [(1, .one (.p 1 0)), (3, .one (.v .str)), (4, .one (.v (.int .i64)))], [(1, [.v (.int .i64), .v (.int .i64), .v (.list (.int .i64))])], [], []⟩, ByteArray × Int × Int × Int × (List Int), fun v => (v.1.2.1, v.1.2.2.1, v.2.1.1.1, v.2.1.1.2.1, v.2.1.1.2.2.1), fun v => (((), v.1, v.2.1, ()), ((v.2.2.1, v.2.2.2.1, v.2.2.2.2, ()), ()), ()), by intro v; kernel_rfl⟩
def ref32_Line.l0.x : List (PE × Pt) := [(.exit 0, ⟨⟨55, [(3, .one (.v .str))], [], [], []⟩, ByteArray, fun v => v.1.1, fun v => ((v, ()), (), ()), by intro v; kernel_rfl⟩)]
noncomputable def ref32_Line.l0.d (k : Nat) : CD Tryd.prog GL [] := .loop (ref32_Line.V k) (bodyOf Tryd.f43).M.M.M.L.M.L.L .no ref32_Line.l0.s ref32_Line.l0.x (fun n v => ref32_Line.l0 k n v.1 v.2.1 v.2.2.1 v.2.2.2.1 v.2.2.2.2) k (by kernel_rfl) (fun _ => rfl) (by intro n v; kernel_rfl)
noncomputable def ref32_Line.fd (k : Nat) : FD Tryd.prog GL := .of (ref32_Line.V k) 43 Tryd.f43 Tryd.func43 [(.pair (.int .i64) (.pair (.int .i64) (.list (.int .i64))), true)] [(.str, false)] id (fun v => ref32_Line.f k v.1) (fun v => v.1) (fun v => (v, ())) (.node .no (.node .no (.node .no (.view [⟨55, [(1, .one (.p 1 0)), (3, .one (.v .str))], [(1, [.v (.int .i64), .v (.int .i64), .v (.list (.int .i64))])], [], []⟩] (.node .no (.node (.cut (ref32_Line.l0.d k)) .no)) .no)))) (by kernel_rfl) (by intro x; kernel_rfl) (by kernel_rfl) (by intro v; kernel_rfl)
/-! delta_Read -/
noncomputable def delta_Read.f (k : Nat) (line1 : ByteArray) : Option ((Int × Int × (List Int)) × Bool) :=
  (digits_Words.f k line1).bind fun y2 =>
  if 0 ≤ (0 : Int) ∧ (0 : Int) < List.length y2 then
  (x_Index (bs [32, 43, 61, 45]) (rdT .str y2 (0 : Int))).bind fun y3 =>
  if 0 ≤ (0 : Int) ∧ (0 : Int) < List.length y2 then
  if (((rdT .str y2 (0 : Int)).size : Int) != (1 : Int)) = true then
    some (((0 : Int), (0 : Int), ([] : List Int)), false)
  else
  if (decide (y3 < (1 : Int))) = true then
    some (((0 : Int), (0 : Int), ([] : List Int)), false)
  else
  if (decide ((List.length y2 : Int) < (2 : Int))) = true then
    some (((0 : Int), (0 : Int), ([] : List Int)), false)
  else
  if 0 ≤ (1 : Int) ∧ (1 : Int) ≤ (List.length y2 : Int) ∧ (List.length y2 : Int) ≤ (List.length y2 : Int) then
  (digits_Nums.f k (cutL y2 (1 : Int) (List.length y2 : Int))).bind fun y4 =>
  if (!y4.2) = true then
    some (((0 : Int), (0 : Int), ([] : List Int)), false)
  else
  if 0 ≤ (0 : Int) ∧ (0 : Int) < List.length y4.1 then
  if (decide ((rdT (.int .i64) y4.1 (0 : Int)) < (0 : Int))) = true then
    some (((0 : Int), (0 : Int), ([] : List Int)), false)
  else
  if 0 ≤ (0 : Int) ∧ (0 : Int) < List.length y4.1 then
  if 0 ≤ (1 : Int) ∧ (1 : Int) ≤ (List.length y4.1 : Int) ∧ (List.length y4.1 : Int) ≤ (List.length y4.1 : Int) then
  (delta_may.f k (y3, (rdT (.int .i64) y4.1 (0 : Int)), (cutL y4.1 (1 : Int) (List.length y4.1 : Int)))).bind fun y5 =>
  if (!y5) = true then
    some (((0 : Int), (0 : Int), ([] : List Int)), false)
  else
  some ((y3, (rdT (.int .i64) y4.1 (0 : Int)), (cutL y4.1 (1 : Int) (List.length y4.1 : Int))), true)
  else none
  else none
  else none
  else none
  else none
  else none
@[reducible] noncomputable def delta_Read.V (k : Nat) : Env Tryd.prog GL := mkV [] [digits_Words.fd k, x_Index_fd, digits_Nums.fd k, delta_may.fd k]
noncomputable def delta_Read.fd (k : Nat) : FD Tryd.prog GL := .of (delta_Read.V k) 44 Tryd.f44 Tryd.func44 [(.str, false)] [(.pair (.int .i64) (.pair (.int .i64) (.list (.int .i64))), true), (.bool, false)] id (fun v => delta_Read.f k v.1) (fun v => (v.1, v.2.1)) (fun v => (v.1, v.2, ())) (.node .no (.node .no (.node .no (.node .no (.node .no (.view [⟨57, [(2, .one (.p 2 0)), (5, .one (.v (.int .i64))), (6, .one (.v (.list (.int .i64)))), (7, .one (.v .bool))], [(2, [.v (.int .i64), .v (.int .i64), .t (.int .i64) 2 2001])], [(2001, none)], []⟩] .no .no)))))) (by kernel_rfl) (by intro x; kernel_rfl) (by kernel_rfl) (by intro v; kernel_rfl)
/-! ref16_Same -/
noncomputable def ref16_Same.l0 (k : Nat) : Nat → (List (Int × Int × (List Int))) → (List (Int × Int × (List Int))) → Int → Option ((Bool) ⊕ (Unit))
  | 0, _, _, _ => none
  | n + 1, a3, b4, i5 =>
    if (decide (i5 < (List.length a3 : Int))) = true then
      if 0 ≤ i5 ∧ i5 < List.length a3 then
      if 0 ≤ i5 ∧ i5 < List.length b4 then
      if ((rdT (.pair (.int .i64) (.pair (.int .i64) (.list (.int .i64)))) a3 i5).1 != (rdT (.pair (.int .i64) (.pair (.int .i64) (.list (.int .i64)))) b4 i5).1) = true then
        some (.inl false)
      else
      if 0 ≤ i5 ∧ i5 < List.length a3 then
      if 0 ≤ i5 ∧ i5 < List.length b4 then
      if ((rdT (.pair (.int .i64) (.pair (.int .i64) (.list (.int .i64)))) a3 i5).2.1 != (rdT (.pair (.int .i64) (.pair (.int .i64) (.list (.int .i64)))) b4 i5).2.1) = true then
        some (.inl false)
      else
      if 0 ≤ i5 ∧ i5 < List.length a3 then
      if 0 ≤ i5 ∧ i5 < List.length b4 then
      (ref03_Nums.f k (rdT (.pair (.int .i64) (.pair (.int .i64) (.list (.int .i64)))) a3 i5).2.2 (rdT (.pair (.int .i64) (.pair (.int .i64) (.list (.int .i64)))) b4 i5).2.2).bind fun y6 =>
      if (!y6) = true then
        some (.inl false)
      else
      ref16_Same.l0 k n a3 b4 (wrap64 (i5 + (1 : Int)))
      else none
      else none
      else none
      else none
      else none
      else none
    else
    some (.inr ())
noncomputable def ref16_Same.f (k : Nat) (a1 : (List (Int × Int × (List Int)))) (b2 : (List (Int × Int × (List Int)))) : Option (Bool) :=
  if ((List.length a1 : Int) != (List.length b2 : Int)) = true then
    some false
  else
  (ref16_Same.l0 k k a1 b2 (0 : Int)).bind fun r => match r with
  | .inl r7 =>
    some r7
  | .inr r8 =>
    some true
@[reducible] noncomputable def ref16_Same.V (k : Nat) : Env Tryd.prog GL := mkV [] [ref03_Nums.fd k]
def ref16_Same.l0.s : Pt := ⟨⟨55, [(0, .one (.v (.list (.pair (.int .i64) (.pair (.int .i64) (.list (.int .i64))))))), (1, .one (.v (.list (.pair (.int .i64) (.pair (.int .i64) (.list (.int .i64))))))), (5, .one (.v (.int .i64)))], [], [], []⟩, (List (Int × Int × (List Int))) × (List (Int × Int × (List Int))) × Int, fun v => (v.1.1, v.1.2.1, v.1.2.2.1), fun v => ((v.1, v.2.1, v.2.2, ()), (), ()), by intro v; kernel_rfl⟩
def ref16_Same.l0.x : List (PE × Pt) := [(.ret, ⟨⟨55, [(4, .one (.v .bool))], [], [], []⟩, Bool, fun v => v.1.1, fun v => ((v, ()), (), ()), by intro v; kernel_rfl⟩), (.exit 0, ⟨⟨55, [], [], [], []⟩, Unit, fun v => (), fun v => ((), (), ()), by intro v; kernel_rfl⟩)]
noncomputable def ref16_Same.l0.d (k : Nat) : CD Tryd.prog GL [] := .loop (ref16_Same.V k) (bodyOf Tryd.f46).M.M.L.M.L.L (.node .no (.node (.node (.node .no (.view [⟨55, [(0, .one (.v (.list (.pair (.int .i64) (.pair (.int .i64) (.list (.int .i64))))))), (1, .one (.v (.list (.pair (.int .i64) (.pair (.int .i64) (.list (.int .i64))))))), (5, .one (.v (.int .i64))), (54, .one (.v .bool))], [], [], []⟩] .no .no)) .no) .no)) ref16_Same.l0.s ref16_Same.l0.x (fun n v => ref16_Same.l0 k n v.1 v.2.1 v.2.2) k (by kernel_rfl) (fun _ => rfl) (by intro n v; kernel_rfl)
noncomputable def ref16_Same.fd (k : Nat) : FD Tryd.prog GL := .of (ref16_Same.V k) 46 Tryd.f46 Tryd.func46 [(.list (.pair (.int .i64) (.pair (.int .i64) (.list (.int .i64)))), false), (.list (.pair (.int .i64) (.pair (.int .i64) (.list (.int .i64)))), false)] [(.bool, false)] id (fun v => ref16_Same.f k v.1 v.2.1) (fun v => v.1) (fun v => (v, ())) (.node .no (.node .no (.node (.node .no (.node (.cut (ref16_Same.l0.d k)) .no)) .no))) (by kernel_rfl) (by intro x; kernel_rfl) (by kernel_rfl) (by intro v; kernel_rfl)
/-! law32_DeltaLines -/
noncomputable def law32_DeltaLines.f (k : Nat) (d1 : (Int × Int × (List Int))) (line2 : ByteArray) : Option (Bool) :=
  if (decide ((100 : Int) < (List.length d1.2.2 : Int))) = true then
    (law32_lives.f k).bind fun y3 =>
    some y3
  else
  if (decide ((1000 : Int) < (line2.size : Int))) = true then
    (law32_lives.f k).bind fun y4 =>
    some y4
  else
  (ref32_Line.f k d1).bind fun y5 =>
  (delta_Read.f k y5).bind fun y6 =>
  (delta_Read.f k line2).bind fun y7 =>
  (delta_Line.f k d1).bind fun y8 =>
  if (!(y8.toList == y5.toList)) = true then
    some false
  else
  if (!(y6.2 == (!(y5.toList == (bs []).toList)))) = true then
    some false
  else
  if y6.2 = true then
    (ref16_Same.f k [y6.1] [d1]).bind fun y9 =>
    if (!y9) = true then
      some false
    else
    if y7.2 = true then
      (ref32_Line.f k y7.1).bind fun y10 =>
      if (y10.toList == line2.toList) = true then
        (law32_lives.f k).bind fun y11 =>
        some y11
      else
      if (!y7.2) = true then
        (ref16_Same.f k [y7.1] [((0 : Int), (0 : Int), ([] : List Int))]).bind fun y12 =>
        if y12 = true then
          (law32_lives.f k).bind fun y13 =>
          some y13
        else
        some false
      else
      some false
    else
    if (!y7.2) = true then
      (ref16_Same.f k [y7.1] [((0 : Int), (0 : Int), ([] : List Int))]).bind fun y14 =>
      if y14 = true then
        (law32_lives.f k).bind fun y15 =>
        some y15
      else
      some false
    else
    some false
  else
  if y7.2 = true then
    (ref32_Line.f k y7.1).bind fun y16 =>
    if (y16.toList == line2.toList) = true then
      (law32_lives.f k).bind fun y17 =>
      some y17
    else
    if (!y7.2) = true then
      (ref16_Same.f k [y7.1] [((0 : Int), (0 : Int), ([] : List Int))]).bind fun y18 =>
      if y18 = true then
        (law32_lives.f k).bind fun y19 =>
        some y19
      else
      some false
    else
    some false
  else
  if (!y7.2) = true then
    (ref16_Same.f k [y7.1] [((0 : Int), (0 : Int), ([] : List Int))]).bind fun y20 =>
    if y20 = true then
      (law32_lives.f k).bind fun y21 =>
      some y21
    else
    some false
  else
  some false
@[reducible] noncomputable def law32_DeltaLines.V (k : Nat) : Env Tryd.prog GL := mkV [] [law32_lives.fd k, ref32_Line.fd k, delta_Read.fd k, delta_Line.fd k, ref16_Same.fd k]
theorem law32_DeltaLines.con (k : Nat) (v : DT [(.pair (.int .i64) (.pair (.int .i64) (.list (.int .i64))), true), (.str, false)]) (y : Bool) (h : (fun v => law32_DeltaLines.f k v.1 v.2.1) (id v) = some y) : Con Tryd.prog GL 9 ((putD [(.pair (.int .i64) (.pair (.int .i64) (.list (.int .i64))), true), (.str, false)] v).map .p) [] (.ret (putR [(.bool, false)] ((fun v => (v, ())) y))) [] := con_of (law32_DeltaLines.V k) 9 Tryd.f9 Tryd.func9 [(.pair (.int .i64) (.pair (.int .i64) (.list (.int .i64))), true), (.str, false)] [(.bool, false)] id (fun v => law32_DeltaLines.f k v.1 v.2.1) (fun v => v.1) (fun v => (v, ())) (.node .no (.node .no (.node .no (.node .no (.node .no (.view [⟨74, [(1, .one (.v .str)), (2, .one (.p 2 0)), (5, .one (.v .str)), (6, .one (.p 6 0)), (7, .one (.v .bool)), (8, .one (.p 8 0)), (9, .one (.v .bool))], [(2, [.v (.int .i64), .v (.int .i64), .v (.list (.int .i64))]), (6, [.v (.int .i64), .v (.int .i64), .v (.list (.int .i64))]), (8, [.v (.int .i64), .v (.int .i64), .v (.list (.int .i64))])], [], []⟩] .no .no)))))) (by kernel_rfl) (by intro x; kernel_rfl) (by kernel_rfl) (by intro v; kernel_rfl) v y h
/-! delta_New -/
noncomputable def delta_New.f (k : Nat) (width1 : Int) : Option ((Int) ⊕ (Int × Int × (List (List Int)))) :=
  if (decide (width1 < (0 : Int))) = true then
    some (.inl (1 : Int))
  else
  if (decide ((64 : Int) < width1)) = true then
    some (.inl (1 : Int))
  else
  some (.inr ((0 : Int), width1, ([] : List (List Int))))
def delta_New.i : Pt := ⟨⟨13, [(0, .one (.v (.int .i64)))], [], [], []⟩, Int, fun v => v.1.1, fun v => ((v, ()), (), ()), by intro v; kernel_rfl⟩
def delta_New.o : List (PE × Pt) := [(.ret, ⟨⟨13, [(2, .one (.np)), (3, .one (.v (.int .i64)))], [], [], []⟩, Int, fun v => v.1.2.1, fun v => (((), v, ()), (), ()), by intro v; kernel_rfl⟩), (.ret, ⟨⟨13, [(2, .one (.p 12 0)), (3, .one (.v (.int .i64)))], [(12, [.r (.list (.int .i64)) 47 2001, .v (.int .i64)])], [(2001, some ((.list (.int .i64)), 47))], []⟩, Int × Int × (List (List Int)), fun v => (v.1.2.1, v.2.1.1.2.1, v.2.2.1), fun v => (((), v.1, ()), (((), v.2.1, ()), ()), (v.2.2, ())), by intro v; kernel_rfl⟩)]
@[reducible] noncomputable def delta_New.V (k : Nat) : Env Tryd.prog GL := mkV [] []
noncomputable def delta_New.fd (k : Nat) : FD Tryd.prog GL := .ofR (delta_New.V k) 36 Tryd.f36 Tryd.func36 delta_New.i delta_New.o (fun v => delta_New.f k v) .no (by kernel_rfl) ⟨by intro y; kernel_rfl, by intro y; kernel_rfl, trivial⟩ (by kernel_rfl) (by intro v; kernel_rfl)
/-! law32_Great -/
noncomputable def law32_Great.l0 (k : Nat) : Nat → (List (Int × Int × (List Int))) → Int → Option ((Bool) ⊕ ((List (Int × Int × (List Int)))))
  | 0, _, _ => none
  | n + 1, l2, i3 =>
    if (decide (i3 < (List.length l2 : Int))) = true then
      if (decide (i3 < (60 : Int))) = true then
        if 0 ≤ i3 ∧ i3 < List.length l2 then
        if (decide ((100 : Int) < (List.length (rdT (.pair (.int .i64) (.pair (.int .i64) (.list (.int .i64)))) l2 i3).2.2 : Int))) = true then
          some (.inl true)
        else
        law32_Great.l0 k n l2 (wrap64 (i3 + (1 : Int)))
        else none
      else
      some (.inr l2)
    else
    some (.inr l2)
noncomputable def law32_Great.f (k : Nat) (l1 : (List (Int × Int × (List Int)))) : Option (Bool) :=
  (law32_Great.l0 k k l1 (0 : Int)).bind fun r => match r with
  | .inl r4 =>
    some r4
  | .inr r5 =>
    some (decide ((60 : Int) < (List.length r5 : Int)))
@[reducible] noncomputable def law32_Great.V (k : Nat) : Env Tryd.prog GL := mkV [] []
def law32_Great.l0.s : Pt := ⟨⟨24, [(0, .one (.v (.list (.pair (.int .i64) (.pair (.int .i64) (.list (.int .i64))))))), (3, .one (.v (.int .i64)))], [], [], []⟩, (List (Int × Int × (List Int))) × Int, fun v => (v.1.1, v.1.2.1), fun v => ((v.1, v.2, ()), (), ()), by intro v; kernel_rfl⟩
def law32_Great.l0.x : List (PE × Pt) := [(.ret, ⟨⟨24, [(2, .one (.v .bool))], [], [], []⟩, Bool, fun v => v.1.1, fun v => ((v, ()), (), ()), by intro v; kernel_rfl⟩), (.exit 0, ⟨⟨24, [(0, .one (.v (.list (.pair (.int .i64) (.pair (.int .i64) (.list (.int .i64)))))))], [], [], []⟩, (List (Int × Int × (List Int))), fun v => v.1.1, fun v => ((v, ()), (), ()), by intro v; kernel_rfl⟩)]
noncomputable def law32_Great.l0.d (k : Nat) : CD Tryd.prog GL [] := .loop (law32_Great.V k) (bodyOf Tryd.f38).M.L.M.L.L .no law32_Great.l0.s law32_Great.l0.x (fun n v => law32_Great.l0 k n v.1 v.2) k (by kernel_rfl) (fun _ => rfl) (by intro n v; kernel_rfl)
noncomputable def law32_Great.fd (k : Nat) : FD Tryd.prog GL := .of (law32_Great.V k) 38 Tryd.f38 Tryd.func38 [(.list (.pair (.int .i64) (.pair (.int .i64) (.list (.int .i64)))), false)] [(.bool, false)] id (fun v => law32_Great.f k v.1) (fun v => v.1) (fun v => (v, ())) (.node .no (.node (.node .no (.node (.cut (law32_Great.l0.d k)) .no)) .no)) (by kernel_rfl) (by intro x; kernel_rfl) (by kernel_rfl) (by intro v; kernel_rfl)
/-! __delta_View__place -/
noncomputable def __delta_View__place.f (k : Nat) (d1 : Int) (d2 : Int) (d3 : (List Int)) (f1_4 : Int) (row5 : (List (List Int))) : Option ((Int × Int × (List (List Int)))) :=
  if (d1 == (1 : Int)) = true then
    if (d2 != (List.length row5 : Int)) = true then
      some ((1 : Int), f1_4, row5)
    else
    if ((List.length d3 : Int) != f1_4) = true then
      some ((3 : Int), f1_4, row5)
    else
    some ((0 : Int), f1_4, row5)
  else
  if (d1 == (2 : Int)) = true then
    if (decide (d2 < (0 : Int))) = true then
      some ((1 : Int), f1_4, row5)
    else
    if (decide ((List.length row5 : Int) ≤ d2)) = true then
      some ((1 : Int), f1_4, row5)
    else
    if ((List.length d3 : Int) != f1_4) = true then
      some ((3 : Int), f1_4, row5)
    else
    some ((0 : Int), f1_4, row5)
  else
  if (d1 == (3 : Int)) = true then
    if ((List.length row5 : Int) == (0 : Int)) = true then
      some ((1 : Int), f1_4, row5)
    else
    if (d2 != (wrap64 ((List.length row5 : Int) - (1 : Int)))) = true then
      some ((1 : Int), f1_4, row5)
    else
    if (decide ((0 : Int) < (List.length d3 : Int))) = true then
      some ((1 : Int), f1_4, row5)
    else
    some ((0 : Int), f1_4, row5)
  else
  some ((22 : Int), f1_4, row5)
def __delta_View__place.i : Pt := ⟨⟨55, [(0, .one (.p 5000 0)), (1, .agg [.v (.int .i64), .v (.int .i64), .v (.list (.int .i64))])], [(5000, [.r (.list (.int .i64)) 47 6000, .v (.int .i64)])], [(6000, some ((.list (.int .i64)), 47))], []⟩, Int × Int × (List Int) × Int × (List (List Int)), fun v => (v.1.2.1.1, v.1.2.1.2.1, v.1.2.1.2.2.1, v.2.1.1.2.1, v.2.2.1), fun v => (((), (v.1, v.2.1, v.2.2.1, ()), ()), (((), v.2.2.2.1, ()), ()), (v.2.2.2.2, ())), by intro v; kernel_rfl⟩
def __delta_View__place.o : List (PE × Pt) := [(.ret, ⟨⟨55, [(4, .one (.v (.int .i64)))], [(5000, [.r (.list (.int .i64)) 47 1001, .v (.int .i64)])], [(1001, some ((.list (.int .i64)), 47))], [(6000, .row (.list (.int .i64)) [] 47 1)]⟩, Int × Int × (List (List Int)), fun v => (v.1.1, v.2.1.1.2.1, v.2.2.1), fun v => ((v.1, ()), (((), v.2.1, ()), ()), (v.2.2, ())), by intro v; kernel_rfl⟩)]
@[reducible] noncomputable def __delta_View__place.V (k : Nat) : Env Tryd.prog GL := mkV [] []
noncomputable def __delta_View__place.fd (k : Nat) : FD Tryd.prog GL := .ofR (__delta_View__place.V k) 65 Tryd.f65 Tryd.func65 __delta_View__place.i __delta_View__place.o (fun v => __delta_View__place.f k v.1 v.2.1 v.2.2.1 v.2.2.2.1 v.2.2.2.2) (.view [⟨55, [(0, .one (.p 5000 0)), (1, .agg [.v (.int .i64), .v (.int .i64), .v (.list (.int .i64))])], [(5000, [.r (.list (.int .i64)) 47 1001, .v (.int .i64)])], [(1001, some ((.list (.int .i64)), 47))], [(6000, .row (.list (.int .i64)) [] 47 1)]⟩] .no (.node .no (.node (.node .no (.node (.node .no (.node .no (.node .no (.node .no (.node .no (.node (.node (.node .no (.view [⟨55, [(46, .one (.v .bool))], [(5000, [.r (.list (.int .i64)) 47 1001, .v (.int .i64)])], [(1001, some ((.list (.int .i64)), 47))], [(6000, .row (.list (.int .i64)) [] 47 1)]⟩] .no .no)) .no) .no)))))) .no)) (.node (.node .no (.view [⟨55, [(54, .one (.v .bool))], [(5000, [.r (.list (.int .i64)) 47 1001, .v (.int .i64)])], [(1001, some ((.list (.int .i64)), 47))], [(6000, .row (.list (.int .i64)) [] 47 1)]⟩] .no .no)) .no)))) (by kernel_rfl) ⟨by intro y; kernel_rfl, trivial⟩ (by kernel_rfl) (by intro v; kernel_rfl)
/-! __delta_View__Do -/
noncomputable def __delta_View__Do.f (k : Nat) (d1 : Int) (d2 : Int) (d3 : (List Int)) (f1_4 : Int) (row5 : (List (List Int))) : Option ((Int × Int × (List (List Int)))) :=
  (__delta_View__place.f k d1 d2 d3 f1_4 row5).bind fun y6 =>
  if (y6.1 != (0 : Int)) = true then
    some (y6.1, y6.2.1, y6.2.2)
  else
  if (d1 == (1 : Int)) = true then
    (x_Clone47 d3).bind fun y7 =>
    if (List.length y6.2.2 + List.length [y7]) * 24 ≤ 140737488355328 ∧ List.length y6.2.2 + List.length [y7] ≤ 9223372036854775807 then
    some ((0 : Int), y6.2.1, (y6.2.2 ++ [y7]))
    else none
  else
  if (d1 == (2 : Int)) = true then
    (x_Clone47 d3).bind fun y8 =>
    if 0 ≤ d2 ∧ d2 < List.length y6.2.2 then
    some ((0 : Int), y6.2.1, (y6.2.2.set (d2).toNat y8))
    else none
  else
  if (d1 == (3 : Int)) = true then
    if 0 ≤ d2 ∧ d2 ≤ (List.length y6.2.2 : Int) then
    some ((0 : Int), y6.2.1, (y6.2.2.take (d2).toNat))
    else none
  else
  some ((0 : Int), y6.2.1, y6.2.2)
def __delta_View__Do.i : Pt := ⟨⟨54, [(0, .one (.p 5000 0)), (1, .agg [.v (.int .i64), .v (.int .i64), .v (.list (.int .i64))])], [(5000, [.r (.list (.int .i64)) 47 6000, .v (.int .i64)])], [(6000, some ((.list (.int .i64)), 47))], []⟩, Int × Int × (List Int) × Int × (List (List Int)), fun v => (v.1.2.1.1, v.1.2.1.2.1, v.1.2.1.2.2.1, v.2.1.1.2.1, v.2.2.1), fun v => (((), (v.1, v.2.1, v.2.2.1, ()), ()), (((), v.2.2.2.1, ()), ()), (v.2.2.2.2, ())), by intro v; kernel_rfl⟩
def __delta_View__Do.o : List (PE × Pt) := [(.ret, ⟨⟨54, [(4, .one (.v (.int .i64)))], [(5000, [.r (.list (.int .i64)) 47 1001, .v (.int .i64)])], [(1001, some ((.list (.int .i64)), 47))], [(6000, .row (.list (.int .i64)) [] 47 1)]⟩, Int × Int × (List (List Int)), fun v => (v.1.1, v.2.1.1.2.1, v.2.2.1), fun v => ((v.1, ()), (((), v.2.1, ()), ()), (v.2.2, ())), by intro v; kernel_rfl⟩)]
@[reducible] noncomputable def __delta_View__Do.V (k : Nat) : Env Tryd.prog GL := mkV [27] [__delta_View__place.fd k, x_Clone47_fd]
noncomputable def __delta_View__Do.fd (k : Nat) : FD Tryd.prog GL := .ofR (__delta_View__Do.V k) 33 Tryd.f33 Tryd.func33 __delta_View__Do.i __delta_View__Do.o (fun v => __delta_View__Do.f k v.1 v.2.1 v.2.2.1 v.2.2.2.1 v.2.2.2.2) (.view [⟨54, [(0, .one (.p 5000 0)), (1, .agg [.v (.int .i64), .v (.int .i64), .v (.list (.int .i64))])], [(5000, [.r (.list (.int .i64)) 47 1001, .v (.int .i64)])], [(1001, some ((.list (.int .i64)), 47))], [(6000, .row (.list (.int .i64)) [] 47 1)]⟩] .no (.node .no (.node (.node .no (.node .no (.node (.node .no (.view [⟨54, [(4, .one (.v (.int .i64)))], [(5000, [.r (.list (.int .i64)) 47 1001, .v (.int .i64)])], [(1001, some ((.list (.int .i64)), 47))], [(6000, .row (.list (.int .i64)) [] 47 1)]⟩] .no .no)) .no))) (.node .no (.view [⟨54, [], [(5000, [.r (.list (.int .i64)) 47 1001, .v (.int .i64)])], [(1001, some ((.list (.int .i64)), 47))], [(6000, .row (.list (.int .i64)) [] 47 1)]⟩] .no (.view [⟨54, [(4, .one (.v (.int .i64)))], [(5000, [.r (.list (.int .i64)) 47 1001, .v (.int .i64)])], [(1001, some ((.list (.int .i64)), 47))], [(6000, .row (.list (.int .i64)) [] 47 1)]⟩] .no .no)))))) (by kernel_rfl) ⟨by intro y; kernel_rfl, trivial⟩ (by kernel_rfl) (by intro v; kernel_rfl)
/-! __delta_View__All -/
noncomputable def __delta_View__All.l0 (k : Nat) : Nat → (List (Int × Int × (List Int))) → (List (Int × Int × (List Int))) → Int → Int → Int → (List (List Int)) → Option ((Int × Int × Int × (List (List Int))) ⊕ ((List (Int × Int × (List Int))) × Int × (List (List Int))))
  | 0, _, _, _, _, _, _ => none
  | n + 1, l4, x5, x6, x7, x8, row9 =>
    if (decide (x7 < x6)) = true then
      if 0 ≤ x7 ∧ x7 < List.length x5 then
      (__delta_View__Do.f k (rdT (.pair (.int .i64) (.pair (.int .i64) (.list (.int .i64)))) x5 x7).1 (rdT (.pair (.int .i64) (.pair (.int .i64) (.list (.int .i64)))) x5 x7).2.1 (rdT (.pair (.int .i64) (.pair (.int .i64) (.list (.int .i64)))) x5 x7).2.2 x8 row9).bind fun y10 =>
      if (y10.1 != (0 : Int)) = true then
        some (.inl (x7, y10.1, y10.2.1, y10.2.2))
      else
      __delta_View__All.l0 k n l4 x5 x6 (wrap64 (x7 + (1 : Int))) y10.2.1 y10.2.2
      else none
    else
    some (.inr (l4, x8, row9))
noncomputable def __delta_View__All.f (k : Nat) (l1 : (List (Int × Int × (List Int)))) (f1_2 : Int) (row3 : (List (List Int))) : Option ((Int × Int × Int × (List (List Int)))) :=
  (__delta_View__All.l0 k k l1 l1 (List.length l1 : Int) (0 : Int) f1_2 row3).bind fun r => match r with
  | .inl r11 =>
    some (r11.1, r11.2.1, r11.2.2.1, r11.2.2.2)
  | .inr r12 =>
    some ((List.length r12.1 : Int), (0 : Int), r12.2.1, r12.2.2)
def __delta_View__All.i : Pt := ⟨⟨28, [(0, .one (.p 5000 0)), (1, .one (.v (.list (.pair (.int .i64) (.pair (.int .i64) (.list (.int .i64)))))))], [(5000, [.r (.list (.int .i64)) 47 6000, .v (.int .i64)])], [(6000, some ((.list (.int .i64)), 47))], []⟩, (List (Int × Int × (List Int))) × Int × (List (List Int)), fun v => (v.1.2.1, v.2.1.1.2.1, v.2.2.1), fun v => (((), v.1, ()), (((), v.2.1, ()), ()), (v.2.2, ())), by intro v; kernel_rfl⟩
def __delta_View__All.o : List (PE × Pt) := [(.ret, ⟨⟨28, [(4, .one (.v (.int .i64))), (5, .one (.v (.int .i64)))], [(5000, [.r (.list (.int .i64)) 47 1001, .v (.int .i64)])], [(1001, some ((.list (.int .i64)), 47))], [(6000, .row (.list (.int .i64)) [] 47 1)]⟩, Int × Int × Int × (List (List Int)), fun v => (v.1.1, v.1.2.1, v.2.1.1.2.1, v.2.2.1), fun v => ((v.1, v.2.1, ()), (((), v.2.2.1, ()), ()), (v.2.2.2, ())), by intro v; kernel_rfl⟩)]
@[reducible] noncomputable def __delta_View__All.V (k : Nat) : Env Tryd.prog GL := mkV [] [__delta_View__Do.fd k]
def __delta_View__All.l0.s : Pt := ⟨⟨28, [(0, .one (.p 5000 0)), (1, .one (.v (.list (.pair (.int .i64) (.pair (.int .i64) (.list (.int .i64))))))), (11, .one (.v (.list (.pair (.int .i64) (.pair (.int .i64) (.list (.int .i64))))))), (12, .one (.v (.int .i64))), (13, .one (.v (.int .i64)))], [(5000, [.r (.list (.int .i64)) 47 1001, .v (.int .i64)])], [(1001, some ((.list (.int .i64)), 47))], [(6000, .row (.list (.int .i64)) [] 47 1)]⟩, (List (Int × Int × (List Int))) × (List (Int × Int × (List Int))) × Int × Int × Int × (List (List Int)), fun v => (v.1.2.1, v.1.2.2.1, v.1.2.2.2.1, v.1.2.2.2.2.1, v.2.1.1.2.1, v.2.2.1), fun v => (((), v.1, v.2.1, v.2.2.1, v.2.2.2.1, ()), (((), v.2.2.2.2.1, ()), ()), (v.2.2.2.2.2, ())), by intro v; kernel_rfl⟩
def __delta_View__All.l0.x : List (PE × Pt) := [(.ret, ⟨⟨28, [(4, .one (.v (.int .i64))), (5, .one (.v (.int .i64)))], [(5000, [.r (.list (.int .i64)) 47 1001, .v (.int .i64)])], [(1001, some ((.list (.int .i64)), 47))], [(6000, .row (.list (.int .i64)) [] 47 1)]⟩, Int × Int × Int × (List (List Int)), fun v => (v.1.1, v.1.2.1, v.2.1.1.2.1, v.2.2.1), fun v => ((v.1, v.2.1, ()), (((), v.2.2.1, ()), ()), (v.2.2.2, ())), by intro v; kernel_rfl⟩), (.exit 0, ⟨⟨28, [(1, .one (.v (.list (.pair (.int .i64) (.pair (.int .i64) (.list (.int .i64)))))))], [(5000, [.r (.list (.int .i64)) 47 1001, .v (.int .i64)])], [(1001, some ((.list (.int .i64)), 47))], [(6000, .row (.list (.int .i64)) [] 47 1)]⟩, (List (Int × Int × (List Int))) × Int × (List (List Int)), fun v => (v.1.1, v.2.1.1.2.1, v.2.2.1), fun v => ((v.1, ()), (((), v.2.1, ()), ()), (v.2.2, ())), by intro v; kernel_rfl⟩)]
noncomputable def __delta_View__All.l0.d (k : Nat) : CD Tryd.prog GL __delta_View__All.i.sh.keys := .loop (__delta_View__All.V k) (bodyOf Tryd.f32).M.M.L.M.L.L .no __delta_View__All.l0.s __delta_View__All.l0.x (fun n v => __delta_View__All.l0 k n v.1 v.2.1 v.2.2.1 v.2.2.2.1 v.2.2.2.2.1 v.2.2.2.2.2) k (by kernel_rfl) (fun _ => rfl) (by intro n v; kernel_rfl)
noncomputable def __delta_View__All.fd (k : Nat) : FD Tryd.prog GL := .ofR (__delta_View__All.V k) 32 Tryd.f32 Tryd.func32 __delta_View__All.i __delta_View__All.o (fun v => __delta_View__All.f k v.1 v.2.1 v.2.2) (.view [⟨28, [(0, .one (.p 5000 0)), (1, .one (.v (.list (.pair (.int .i64) (.pair (.int .i64) (.list (.int .i64)))))))], [(5000, [.r (.list (.int .i64)) 47 1001, .v (.int .i64)])], [(1001, some ((.list (.int .i64)), 47))], [(6000, .row (.list (.int .i64)) [] 47 1)]⟩] .no (.node .no (.node (.node .no (.node (.cut (__delta_View__All.l0.d k)) .no)) .no))) (by kernel_rfl) ⟨by intro y; kernel_rfl, trivial⟩ (by kernel_rfl) (by intro v; kernel_rfl)
/-! __delta_View__Len -/
noncomputable def __delta_View__Len.f (k : Nat) (f1_1 : Int) (row2 : (List (List Int))) : Option ((Int × Int × (List (List Int)))) :=
  some ((List.length row2 : Int), f1_1, row2)
def __delta_View__Len.i : Pt := ⟨⟨10, [(0, .one (.p 5000 0))], [(5000, [.r (.list (.int .i64)) 47 6000, .v (.int .i64)])], [(6000, some ((.list (.int .i64)), 47))], []⟩, Int × (List (List Int)), fun v => (v.2.1.1.2.1, v.2.2.1), fun v => (((), ()), (((), v.1, ()), ()), (v.2, ())), by intro v; kernel_rfl⟩
def __delta_View__Len.o : List (PE × Pt) := [(.ret, ⟨⟨10, [(2, .one (.v (.int .i64)))], [(5000, [.r (.list (.int .i64)) 47 1001, .v (.int .i64)])], [(1001, some ((.list (.int .i64)), 47))], [(6000, .row (.list (.int .i64)) [] 47 1)]⟩, Int × Int × (List (List Int)), fun v => (v.1.1, v.2.1.1.2.1, v.2.2.1), fun v => ((v.1, ()), (((), v.2.1, ()), ()), (v.2.2, ())), by intro v; kernel_rfl⟩)]
@[reducible] noncomputable def __delta_View__Len.V (k : Nat) : Env Tryd.prog GL := mkV [] []
noncomputable def __delta_View__Len.fd (k : Nat) : FD Tryd.prog GL := .ofR (__delta_View__Len.V k) 35 Tryd.f35 Tryd.func35 __delta_View__Len.i __delta_View__Len.o (fun v => __delta_View__Len.f k v.1 v.2) (.view [⟨10, [(0, .one (.p 5000 0))], [(5000, [.r (.list (.int .i64)) 47 1001, .v (.int .i64)])], [(1001, some ((.list (.int .i64)), 47))], [(6000, .row (.list (.int .i64)) [] 47 1)]⟩] .no .no) (by kernel_rfl) ⟨by intro y; kernel_rfl, trivial⟩ (by kernel_rfl) (by intro v; kernel_rfl)
/-! __delta_View__Rows -/
noncomputable def __delta_View__Rows.l0 (k : Nat) : Nat → (List (List Int)) → Int → Int → Int → (List (List Int)) → Option (((List (List Int)) × Int × (List (List Int))))
  | 0, _, _, _, _, _ => none
  | n + 1, out4, x5, x6, x7, row8 =>
    if (decide (x6 < x5)) = true then
      if 0 ≤ x6 ∧ x6 < List.length row8 then
      (x_Clone47 (row8.getD (x6).toNat (Ty.dflt (.list (.int .i64))))).bind fun y9 =>
      if (List.length out4 + List.length [y9]) * 24 ≤ 140737488355328 ∧ List.length out4 + List.length [y9] ≤ 9223372036854775807 then
      __delta_View__Rows.l0 k n (out4 ++ [y9]) x5 (wrap64 (x6 + (1 : Int))) x7 row8
      else none
      else none
    else
    some (out4, x7, row8)
noncomputable def __delta_View__Rows.f (k : Nat) (f1_1 : Int) (row2 : (List (List Int))) : Option (((List (List Int)) × Int × (List (List Int)))) :=
  (__delta_View__Len.f k f1_1 row2).bind fun y3 =>
  (__delta_View__Rows.l0 k k ([] : List (List Int)) y3.1 (0 : Int) y3.2.1 y3.2.2).bind fun r10 =>
  some (r10.1, r10.2.1, r10.2.2)
def __delta_View__Rows.i : Pt := ⟨⟨23, [(0, .one (.p 5000 0))], [(5000, [.r (.list (.int .i64)) 47 6000, .v (.int .i64)])], [(6000, some ((.list (.int .i64)), 47))], []⟩, Int × (List (List Int)), fun v => (v.2.1.1.2.1, v.2.2.1), fun v => (((), ()), (((), v.1, ()), ()), (v.2, ())), by intro v; kernel_rfl⟩
def __delta_View__Rows.o : List (PE × Pt) := [(.ret, ⟨⟨23, [(2, .one (.t (.list (.int .i64)) 47 1001))], [(5000, [.r (.list (.int .i64)) 47 1002, .v (.int .i64)])], [(1001, none), (1002, some ((.list (.int .i64)), 47))], [(6000, .row (.list (.int .i64)) [] 47 1)]⟩, (List (List Int)) × Int × (List (List Int)), fun v => (v.1.1, v.2.1.1.2.1, v.2.2.1), fun v => ((v.1, ()), (((), v.2.1, ()), ()), (v.2.2, ())), by intro v; kernel_rfl⟩)]
@[reducible] noncomputable def __delta_View__Rows.V (k : Nat) : Env Tryd.prog GL := mkV [] [__delta_View__Len.fd k, x_Clone47_fd]
def __delta_View__Rows.l0.s : Pt := ⟨⟨23, [(0, .one (.p 5000 0)), (3, .one (.t (.list (.int .i64)) 47 1001)), (6, .one (.v (.int .i64))), (7, .one (.v (.int .i64)))], [(5000, [.r (.list (.int .i64)) 47 1002, .v (.int .i64)])], [(1001, none), (1002, some ((.list (.int .i64)), 47))], [(6000, .row (.list (.int .i64)) [] 47 1)]⟩, (List (List Int)) × Int × Int × Int × (List (List Int)), fun v => (v.1.2.1, v.1.2.2.1, v.1.2.2.2.1, v.2.1.1.2.1, v.2.2.1), fun v => (((), v.1, v.2.1, v.2.2.1, ()), (((), v.2.2.2.1, ()), ()), (v.2.2.2.2, ())), by intro v; kernel_rfl⟩
def __delta_View__Rows.l0.x : List (PE × Pt) := [(.exit 0, ⟨⟨23, [(3, .one (.t (.list (.int .i64)) 47 1001))], [(5000, [.r (.list (.int .i64)) 47 1002, .v (.int .i64)])], [(1001, none), (1002, some ((.list (.int .i64)), 47))], [(6000, .row (.list (.int .i64)) [] 47 1)]⟩, (List (List Int)) × Int × (List (List Int)), fun v => (v.1.1, v.2.1.1.2.1, v.2.2.1), fun v => ((v.1, ()), (((), v.2.1, ()), ()), (v.2.2, ())), by intro v; kernel_rfl⟩)]
noncomputable def __delta_View__Rows.l0.d (k : Nat) : CD Tryd.prog GL __delta_View__Rows.i.sh.keys := .loop (__delta_View__Rows.V k) (bodyOf Tryd.f34).M.M.L.M.L.L .no __delta_View__Rows.l0.s __delta_View__Rows.l0.x (fun n v => __delta_View__Rows.l0 k n v.1 v.2.1 v.2.2.1 v.2.2.2.1 v.2.2.2.2) k (by kernel_rfl) (fun _ => rfl) (by intro n v; kernel_rfl)
noncomputable def __delta_View__Rows.fd (k : Nat) : FD Tryd.prog GL := .ofR (__delta_View__Rows.V k) 34 Tryd.f34 Tryd.func34 __delta_View__Rows.i __delta_View__Rows.o (fun v => __delta_View__Rows.f k v.1 v.2) (.view [⟨23, [(0, .one (.p 5000 0))], [(5000, [.r (.list (.int .i64)) 47 1001, .v (.int .i64)])], [(1001, some ((.list (.int .i64)), 47))], [(6000, .row (.list (.int .i64)) [] 47 1)]⟩] .no (.node .no (.node (.node .no (.node (.cut (__delta_View__Rows.l0.d k)) .no)) .no))) (by kernel_rfl) ⟨by intro y; kernel_rfl, trivial⟩ (by kernel_rfl) (by intro v; kernel_rfl)
/-! ref28_Same -/
noncomputable def ref28_Same.l0 (k : Nat) : Nat → (List (List Int)) → (List (List Int)) → Int → Option ((Bool) ⊕ (Unit))
  | 0, _, _, _ => none
  | n + 1, a3, b4, i5 =>
    if (decide (i5 < (List.length a3 : Int))) = true then
      if 0 ≤ i5 ∧ i5 < List.length a3 then
      if 0 ≤ i5 ∧ i5 < List.length b4 then
      (ref03_Nums.f k (rdT (.list (.int .i64)) a3 i5) (rdT (.list (.int .i64)) b4 i5)).bind fun y6 =>
      if (!y6) = true then
        some (.inl false)
      else
      ref28_Same.l0 k n a3 b4 (wrap64 (i5 + (1 : Int)))
      else none
      else none
    else
    some (.inr ())
noncomputable def ref28_Same.f (k : Nat) (a1 : (List (List Int))) (b2 : (List (List Int))) : Option (Bool) :=
  if ((List.length a1 : Int) != (List.length b2 : Int)) = true then
    some false
  else
  (ref28_Same.l0 k k a1 b2 (0 : Int)).bind fun r => match r with
  | .inl r7 =>
    some r7
  | .inr r8 =>
    some true
@[reducible] noncomputable def ref28_Same.V (k : Nat) : Env Tryd.prog GL := mkV [] [ref03_Nums.fd k]
def ref28_Same.l0.s : Pt := ⟨⟨27, [(0, .one (.v (.list (.list (.int .i64))))), (1, .one (.v (.list (.list (.int .i64))))), (5, .one (.v (.int .i64)))], [], [], []⟩, (List (List Int)) × (List (List Int)) × Int, fun v => (v.1.1, v.1.2.1, v.1.2.2.1), fun v => ((v.1, v.2.1, v.2.2, ()), (), ()), by intro v; kernel_rfl⟩
def ref28_Same.l0.x : List (PE × Pt) := [(.ret, ⟨⟨27, [(4, .one (.v .bool))], [], [], []⟩, Bool, fun v => v.1.1, fun v => ((v, ()), (), ()), by intro v; kernel_rfl⟩), (.exit 0, ⟨⟨27, [], [], [], []⟩, Unit, fun v => (), fun v => ((), (), ()), by intro v; kernel_rfl⟩)]
noncomputable def ref28_Same.l0.d (k : Nat) : CD Tryd.prog GL [] := .loop (ref28_Same.V k) (bodyOf Tryd.f40).M.M.L.M.L.L .no ref28_Same.l0.s ref28_Same.l0.x (fun n v => ref28_Same.l0 k n v.1 v.2.1 v.2.2) k (by kernel_rfl) (fun _ => rfl) (by intro n v; kernel_rfl)
noncomputable def ref28_Same.fd (k : Nat) : FD Tryd.prog GL := .of (ref28_Same.V k) 40 Tryd.f40 Tryd.func40 [(.list (.list (.int .i64)), false), (.list (.list (.int .i64)), false)] [(.bool, false)] id (fun v => ref28_Same.f k v.1 v.2.1) (fun v => v.1) (fun v => (v, ())) (.node .no (.node .no (.node (.node .no (.node (.cut (ref28_Same.l0.d k)) .no)) .no))) (by kernel_rfl) (by intro x; kernel_rfl) (by kernel_rfl) (by intro v; kernel_rfl)
/-! law32_DeltaUndone -/
noncomputable def law32_DeltaUndone.j0 (k : Nat) (was21 : (List (List Int))) (d22 : Int) (d23 : Int) (d24 : (List Int)) (back25 : Int) (back26 : Int) (back27 : (List Int)) (x28 : Int) (row29 : (List (List Int))) : Option (((List (List Int)) × Int × Int × (List Int) × Int × (List (List Int)))) :=
  if (d22 == (2 : Int)) = true then
    if 0 ≤ d23 ∧ d23 < List.length was21 then
    some (was21, (2 : Int), d23, (rdT (.list (.int .i64)) was21 d23), x28, row29)
    else none
  else
  if (d22 == (3 : Int)) = true then
    if 0 ≤ d23 ∧ d23 < List.length was21 then
    some (was21, (1 : Int), d23, (rdT (.list (.int .i64)) was21 d23), x28, row29)
    else none
  else
  some (was21, back25, back26, back27, x28, row29)
noncomputable def law32_DeltaUndone.f (k : Nat) (width1 : Int) (l2 : (List (Int × Int × (List Int)))) (d3 : (Int × Int × (List Int))) : Option (Bool) :=
  (delta_New.f k width1).bind fun r => match r with
  | .inl y4 =>
    if (y4 != (0 : Int)) = true then
      (law32_lives.f k).bind fun y5 =>
      some y5
    else
    (law32_Great.f k l2).bind fun y6 =>
    if y6 = true then
      (law32_lives.f k).bind fun y7 =>
      some y7
    else
    if (decide ((100 : Int) < (List.length d3.2.2 : Int))) = true then
      (law32_lives.f k).bind fun y8 =>
      some y8
    else
    (law32_lives.f k).bind fun y9 =>
    some y9
  | .inr y10 =>
    if (y10.1 != (0 : Int)) = true then
      (law32_lives.f k).bind fun y11 =>
      some y11
    else
    (law32_Great.f k l2).bind fun y12 =>
    if y12 = true then
      (law32_lives.f k).bind fun y13 =>
      some y13
    else
    if (decide ((100 : Int) < (List.length d3.2.2 : Int))) = true then
      (law32_lives.f k).bind fun y14 =>
      some y14
    else
    (__delta_View__All.f k l2 y10.2.1 y10.2.2).bind fun y15 =>
    (__delta_View__Rows.f k y15.2.2.1 y15.2.2.2).bind fun y16 =>
    (__delta_View__Do.f k d3.1 d3.2.1 d3.2.2 y16.2.1 y16.2.2).bind fun y17 =>
    if (y17.1 != (0 : Int)) = true then
      (__delta_View__Rows.f k y17.2.1 y17.2.2).bind fun y18 =>
      (ref28_Same.f k y18.1 y16.1).bind fun y19 =>
      if y19 = true then
        (law32_lives.f k).bind fun y20 =>
        some y20
      else
      some false
    else
    if (d3.1 != (1 : Int)) = true then
      if (decide (d3.2.1 < (0 : Int))) = true then
        some false
      else
      if (decide ((List.length y16.1 : Int) ≤ d3.2.1)) = true then
        some false
      else
      (law32_DeltaUndone.j0 k y16.1 d3.1 d3.2.1 d3.2.2 (3 : Int) d3.2.1 ([] : List Int) y17.2.1 y17.2.2).bind fun r30 =>
      (__delta_View__Do.f k r30.2.1 r30.2.2.1 r30.2.2.2.1 r30.2.2.2.2.1 r30.2.2.2.2.2).bind fun y31 =>
      if (y31.1 == (0 : Int)) = true then
        (__delta_View__Rows.f k y31.2.1 y31.2.2).bind fun y32 =>
        (ref28_Same.f k y32.1 r30.1).bind fun y33 =>
        if y33 = true then
          (law32_lives.f k).bind fun y34 =>
          some y34
        else
        some false
      else
      some false
    else
    (law32_DeltaUndone.j0 k y16.1 d3.1 d3.2.1 d3.2.2 (3 : Int) d3.2.1 ([] : List Int) y17.2.1 y17.2.2).bind fun r35 =>
    (__delta_View__Do.f k r35.2.1 r35.2.2.1 r35.2.2.2.1 r35.2.2.2.2.1 r35.2.2.2.2.2).bind fun y36 =>
    if (y36.1 == (0 : Int)) = true then
      (__delta_View__Rows.f k y36.2.1 y36.2.2).bind fun y37 =>
      (ref28_Same.f k y37.1 r35.1).bind fun y38 =>
      if y38 = true then
        (law32_lives.f k).bind fun y39 =>
        some y39
      else
      some false
    else
    some false
@[reducible] noncomputable def law32_DeltaUndone.V (k : Nat) : Env Tryd.prog GL := mkV [] [delta_New.fd k, law32_lives.fd k, law32_Great.fd k, __delta_View__All.fd k, __delta_View__Rows.fd k, __delta_View__Do.fd k, ref28_Same.fd k]
def law32_DeltaUndone.j0.s : Pt := ⟨⟨102, [(5, .one (.p 5 0)), (7, .one (.p 101012 0)), (9, .one (.t (.list (.int .i64)) 47 1001)), (10, .one (.p 10 0))], [(5, [.v (.int .i64), .v (.int .i64), .v (.list (.int .i64))]), (10, [.v (.int .i64), .v (.int .i64), .t (.int .i64) 2 1002]), (101012, [.r (.list (.int .i64)) 47 1003, .v (.int .i64)])], [(1001, none), (1002, none), (1003, some ((.list (.int .i64)), 47))], []⟩, (List (List Int)) × Int × Int × (List Int) × Int × Int × (List Int) × Int × (List (List Int)), fun v => (v.1.2.2.1, v.2.1.1.1, v.2.1.1.2.1, v.2.1.1.2.2.1, v.2.1.2.1.1, v.2.1.2.1.2.1, v.2.1.2.1.2.2.1, v.2.1.2.2.1.2.1, v.2.2.1), fun v => (((), (), v.1, (), ()), ((v.2.1, v.2.2.1, v.2.2.2.1, ()), (v.2.2.2.2.1, v.2.2.2.2.2.1, v.2.2.2.2.2.2.1, ()), ((), v.2.2.2.2.2.2.2.1, ()), ()), (v.2.2.2.2.2.2.2.2, ())), by intro v; kernel_rfl⟩
def law32_DeltaUndone.j0.x : List (PE × Pt) := [(.normal, ⟨⟨102, [(7, .one (.p 101012 0)), (9, .one (.t (.list (.int .i64)) 47 1001)), (10, .one (.p 10 0))], [(10, [.v (.int .i64), .v (.int .i64), .v (.list (.int .i64))]), (101012, [.r (.list (.int .i64)) 47 1002, .v (.int .i64)])], [(1001, none), (1002, some ((.list (.int .i64)), 47))], []⟩, (List (List Int)) × Int × Int × (List Int) × Int × (List (List Int)), fun v => (v.1.2.1, v.2.1.1.1, v.2.1.1.2.1, v.2.1.1.2.2.1, v.2.1.2.1.2.1, v.2.2.1), fun v => (((), v.1, (), ()), ((v.2.1, v.2.2.1, v.2.2.2.1, ()), ((), v.2.2.2.2.1, ()), ()), (v.2.2.2.2.2, ())), by intro v; kernel_rfl⟩)]
noncomputable def law32_DeltaUndone.j0.d (k : Nat) : CD Tryd.prog GL [] := .join (law32_DeltaUndone.V k) (bodyOf Tryd.f7).M.M.M.M.M.M.M.M.L .no law32_DeltaUndone.j0.s law32_DeltaUndone.j0.x (fun v => law32_DeltaUndone.j0 k v.1 v.2.1 v.2.2.1 v.2.2.2.1 v.2.2.2.2.1 v.2.2.2.2.2.1 v.2.2.2.2.2.2.1 v.2.2.2.2.2.2.2.1 v.2.2.2.2.2.2.2.2) (by kernel_rfl) (by intro v; kernel_rfl)
theorem law32_DeltaUndone.con (k : Nat) (v : DT [(.int .i64, false), (.list (.pair (.int .i64) (.pair (.int .i64) (.list (.int .i64)))), false), (.pair (.int .i64) (.pair (.int .i64) (.list (.int .i64))), true)]) (y : Bool) (h : (fun v => law32_DeltaUndone.f k v.1 v.2.1 v.2.2.1) (id v) = some y) : Con Tryd.prog GL 7 ((putD [(.int .i64, false), (.list (.pair (.int .i64) (.pair (.int .i64) (.list (.int .i64)))), false), (.pair (.int .i64) (.pair (.int .i64) (.list (.int .i64))), true)] v).map .p) [] (.ret (putR [(.bool, false)] ((fun v => (v, ())) y))) [] := con_of (law32_DeltaUndone.V k) 7 Tryd.f7 Tryd.func7 [(.int .i64, false), (.list (.pair (.int .i64) (.pair (.int .i64) (.list (.int .i64)))), false), (.pair (.int .i64) (.pair (.int .i64) (.list (.int .i64))), true)] [(.bool, false)] id (fun v => law32_DeltaUndone.f k v.1 v.2.1 v.2.2.1) (fun v => v.1) (fun v => (v, ())) (.node .no (.node .no (.node .no (.node .no (.node .no (.view [⟨102, [(5, .one (.p 5 0)), (7, .one (.p 101012 0)), (9, .one (.t (.list (.int .i64)) 47 1001))], [(5, [.v (.int .i64), .v (.int .i64), .v (.list (.int .i64))]), (101012, [.r (.list (.int .i64)) 47 1002, .v (.int .i64)])], [(1001, none), (1002, some ((.list (.int .i64)), 47))], []⟩] .no (.node .no (.node .no (.view [⟨102, [(5, .one (.p 5 0)), (7, .one (.p 101012 0)), (9, .one (.t (.list (.int .i64)) 47 1001)), (10, .one (.p 10 0))], [(5, [.v (.int .i64), .v (.int .i64), .v (.list (.int .i64))]), (10, [.v (.int .i64), .v (.int .i64), .t (.int .i64) 2 2001]), (101012, [.r (.list (.int .i64)) 47 1002, .v (.int .i64)])], [(1001, none), (2001, none), (1002, some ((.list (.int .i64)), 47))], []⟩] (.cut (law32_DeltaUndone.j0.d k)) .no))))))))) (by kernel_rfl) (by intro x; kernel_rfl) (by kernel_rfl) (by intro v; kernel_rfl) v y h
/-! __delta_View__All -/
noncomputable def __delta_View__All_1.f (k : Nat) (l1 : (List (Int × Int × (List Int)))) : Option ((Int × Int)) :=
  some ((0 : Int), (1 : Int))
def __delta_View__All_1.i : Pt := ⟨⟨28, [(0, .one (.np)), (1, .one (.v (.list (.pair (.int .i64) (.pair (.int .i64) (.list (.int .i64)))))))], [], [], []⟩, (List (Int × Int × (List Int))), fun v => v.1.2.1, fun v => (((), v, ()), (), ()), by intro v; kernel_rfl⟩
def __delta_View__All_1.o : List (PE × Pt) := [(.ret, ⟨⟨28, [(4, .one (.v (.int .i64))), (5, .one (.v (.int .i64)))], [], [], []⟩, Int × Int, fun v => (v.1.1, v.1.2.1), fun v => ((v.1, v.2, ()), (), ()), by intro v; kernel_rfl⟩)]
@[reducible] noncomputable def __delta_View__All_1.V (k : Nat) : Env Tryd.prog GL := mkV [] []
theorem __delta_View__All_1.ex (k : Nat) : ∃ g : (List (Int × Int × (List Int))) → Option ((Int × Int)), g = __delta_View__All_1.f k := ⟨_, rfl⟩
noncomputable def __delta_View__All_1.g (k : Nat) : (List (Int × Int × (List Int))) → Option ((Int × Int)) := Classical.choose (__delta_View__All_1.ex k)
theorem __delta_View__All_1.g_eq (k : Nat) : __delta_View__All_1.g k = __delta_View__All_1.f k := Classical.choose_spec (__delta_View__All_1.ex k)
noncomputable def __delta_View__All_1.fd (k : Nat) : FD Tryd.prog GL := .ofR (__delta_View__All_1.V k) 32 Tryd.f32 Tryd.func32 __delta_View__All_1.i __delta_View__All_1.o (fun v => __delta_View__All_1.g k v) .no (by kernel_rfl) ⟨by intro y; kernel_rfl, trivial⟩ (by kernel_rfl) (by intro v; exact (congrFun (__delta_View__All_1.g_eq k) v).trans (by kernel_rfl))
/-! __delta_View__Do -/
noncomputable def __delta_View__Do_1.f (k : Nat) (d1 : Int) (d2 : Int) : Option ((Int)) :=
  some (1 : Int)
def __delta_View__Do_1.i : Pt := ⟨⟨54, [(0, .one (.np)), (1, .agg [.v (.int .i64), .v (.int .i64), .nl])], [], [], []⟩, Int × Int, fun v => (v.1.2.1.1, v.1.2.1.2.1), fun v => (((), (v.1, v.2, (), ()), ()), (), ()), by intro v; kernel_rfl⟩
def __delta_View__Do_1.o : List (PE × Pt) := [(.ret, ⟨⟨54, [(4, .one (.v (.int .i64)))], [], [], []⟩, Int, fun v => v.1.1, fun v => ((v, ()), (), ()), by intro v; kernel_rfl⟩)]
@[reducible] noncomputable def __delta_View__Do_1.V (k : Nat) : Env Tryd.prog GL := mkV [27] []
theorem __delta_View__Do_1.ex (k : Nat) : ∃ g : Int → Int → Option ((Int)), g = __delta_View__Do_1.f k := ⟨_, rfl⟩
noncomputable def __delta_View__Do_1.g (k : Nat) : Int → Int → Option ((Int)) := Classical.choose (__delta_View__Do_1.ex k)
theorem __delta_View__Do_1.g_eq (k : Nat) : __delta_View__Do_1.g k = __delta_View__Do_1.f k := Classical.choose_spec (__delta_View__Do_1.ex k)
noncomputable def __delta_View__Do_1.fd (k : Nat) : FD Tryd.prog GL := .ofR (__delta_View__Do_1.V k) 33 Tryd.f33 Tryd.func33 __delta_View__Do_1.i __delta_View__Do_1.o (fun v => __delta_View__Do_1.g k v.1 v.2) (.node .no (.node (.node .no (.node (.node .no (.view [⟨54, [(4, .one (.v (.int .i64)))], [], [], []⟩] .no .no)) .no)) .no)) (by kernel_rfl) ⟨by intro y; kernel_rfl, trivial⟩ (by kernel_rfl) (by intro v; exact (congrFun (congrFun (__delta_View__Do_1.g_eq k) v.1) v.2).trans (by kernel_rfl))
/-! __delta_View__Len -/
noncomputable def __delta_View__Len_1.f (k : Nat) : Option ((Int)) :=
  some (0 : Int)
def __delta_View__Len_1.i : Pt := ⟨⟨10, [(0, .one (.np))], [], [], []⟩, Unit, fun v => (), fun v => (((), ()), (), ()), by intro v; kernel_rfl⟩
def __delta_View__Len_1.o : List (PE × Pt) := [(.ret, ⟨⟨10, [(2, .one (.v (.int .i64)))], [], [], []⟩, Int, fun v => v.1.1, fun v => ((v, ()), (), ()), by intro v; kernel_rfl⟩)]
@[reducible] noncomputable def __delta_View__Len_1.V (k : Nat) : Env Tryd.prog GL := mkV [] []
theorem __delta_View__Len_1.ex (k : Nat) : ∃ g : Option ((Int)), g = __delta_View__Len_1.f k := ⟨_, rfl⟩
noncomputable def __delta_View__Len_1.g (k : Nat) : Option ((Int)) := Classical.choose (__delta_View__Len_1.ex k)
theorem __delta_View__Len_1.g_eq (k : Nat) : __delta_View__Len_1.g k = __delta_View__Len_1.f k := Classical.choose_spec (__delta_View__Len_1.ex k)
noncomputable def __delta_View__Len_1.fd (k : Nat) : FD Tryd.prog GL := .ofR (__delta_View__Len_1.V k) 35 Tryd.f35 Tryd.func35 __delta_View__Len_1.i __delta_View__Len_1.o (fun v => __delta_View__Len_1.g k) .no (by kernel_rfl) ⟨by intro y; kernel_rfl, trivial⟩ (by kernel_rfl) (by intro v; exact (__delta_View__Len_1.g_eq k).trans (by kernel_rfl))
/-! __delta_View__Rows -/
noncomputable def __delta_View__Rows_1.l0 (k : Nat) : Nat → (List (List Int)) → Int → Int → Option (((List (List Int))))
  | 0, _, _, _ => none
  | n + 1, out2, x3, x4 =>
    if (decide (x4 < x3)) = true then
      none
    else
    some out2
noncomputable def __delta_View__Rows_1.f (k : Nat) : Option (((List (List Int)))) :=
  (__delta_View__Len_1.g k).bind fun y1 =>
  (__delta_View__Rows_1.l0 k k ([] : List (List Int)) y1 (0 : Int)).bind fun r5 =>
  some r5
def __delta_View__Rows_1.i : Pt := ⟨⟨23, [(0, .one (.np))], [], [], []⟩, Unit, fun v => (), fun v => (((), ()), (), ()), by intro v; kernel_rfl⟩
def __delta_View__Rows_1.o : List (PE × Pt) := [(.ret, ⟨⟨23, [(2, .one (.t (.list (.int .i64)) 47 1001))], [], [(1001, none)], []⟩, (List (List Int)), fun v => v.1.1, fun v => ((v, ()), (), ()), by intro v; kernel_rfl⟩)]
@[reducible] noncomputable def __delta_View__Rows_1.V (k : Nat) : Env Tryd.prog GL := mkV [] [__delta_View__Len_1.fd k]
def __delta_View__Rows_1.l0.s : Pt := ⟨⟨23, [(0, .one (.np)), (3, .one (.t (.list (.int .i64)) 47 2001)), (6, .one (.v (.int .i64))), (7, .one (.v (.int .i64)))], [], [(2001, none)], []⟩, (List (List Int)) × Int × Int, fun v => (v.1.2.1, v.1.2.2.1, v.1.2.2.2.1), fun v => (((), v.1, v.2.1, v.2.2, ()), (), ()), by intro v; kernel_rfl⟩
def __delta_View__Rows_1.l0.x : List (PE × Pt) := [(.exit 0, ⟨⟨23, [(3, .one (.t (.list (.int .i64)) 47 1001))], [], [(1001, none)], []⟩, (List (List Int)), fun v => v.1.1, fun v => ((v, ()), (), ()), by intro v; kernel_rfl⟩)]
noncomputable def __delta_View__Rows_1.l0.d (k : Nat) : CD Tryd.prog GL __delta_View__Rows_1.i.sh.keys := .loop (__delta_View__Rows_1.V k) (bodyOf Tryd.f34).M.M.L.M.L.L .no __delta_View__Rows_1.l0.s __delta_View__Rows_1.l0.x (fun n v => __delta_View__Rows_1.l0 k n v.1 v.2.1 v.2.2) k (by kernel_rfl) (fun _ => rfl) (by intro n v; kernel_rfl)
theorem __delta_View__Rows_1.ex (k : Nat) : ∃ g : Option (((List (List Int)))), g = __delta_View__Rows_1.f k := ⟨_, rfl⟩
noncomputable def __delta_View__Rows_1.g (k : Nat) : Option (((List (List Int)))) := Classical.choose (__delta_View__Rows_1.ex k)
theorem __delta_View__Rows_1.g_eq (k : Nat) : __delta_View__Rows_1.g k = __delta_View__Rows_1.f k := Classical.choose_spec (__delta_View__Rows_1.ex k)
noncomputable def __delta_View__Rows_1.fd (k : Nat) : FD Tryd.prog GL := .ofR (__delta_View__Rows_1.V k) 34 Tryd.f34 Tryd.func34 __delta_View__Rows_1.i __delta_View__Rows_1.o (fun v => __delta_View__Rows_1.g k) (.node .no (.node .no (.node (.node .no (.node (.cut (__delta_View__Rows_1.l0.d k)) .no)) .no))) (by kernel_rfl) ⟨by intro y; kernel_rfl, trivial⟩ (by kernel_rfl) (by intro v; exact (__delta_View__Rows_1.g_eq k).trans (by kernel_rfl))
/-! ref16_Fold -/
noncomputable def ref16_Fold.l0 (k : Nat) : Nat → (List (Int × Int × (List Int))) → Int → (List (List Int)) → Option (((List (List Int)) × Bool) ⊕ ((List (List Int))))
  | 0, _, _, _ => none
  | n + 1, l3, i4, row5 =>
    if (decide (i4 < (List.length l3 : Int))) = true then
      if 0 ≤ i4 ∧ i4 < List.length l3 then
      if ((rdT (.pair (.int .i64) (.pair (.int .i64) (.list (.int .i64)))) l3 i4).1 == (1 : Int)) = true then
        if ((rdT (.pair (.int .i64) (.pair (.int .i64) (.list (.int .i64)))) l3 i4).2.1 != (List.length row5 : Int)) = true then
          some (.inl (([] : List (List Int)), false))
        else
        if (List.length row5 + List.length [(rdT (.pair (.int .i64) (.pair (.int .i64) (.list (.int .i64)))) l3 i4).2.2]) * 24 ≤ 140737488355328 ∧ List.length row5 + List.length [(rdT (.pair (.int .i64) (.pair (.int .i64) (.list (.int .i64)))) l3 i4).2.2] ≤ 9223372036854775807 then
        ref16_Fold.l0 k n l3 (wrap64 (i4 + (1 : Int))) (row5 ++ [(rdT (.pair (.int .i64) (.pair (.int .i64) (.list (.int .i64)))) l3 i4).2.2])
        else none
      else
      if ((rdT (.pair (.int .i64) (.pair (.int .i64) (.list (.int .i64)))) l3 i4).1 == (2 : Int)) = true then
        if (decide ((rdT (.pair (.int .i64) (.pair (.int .i64) (.list (.int .i64)))) l3 i4).2.1 < (0 : Int))) = true then
          some (.inl (([] : List (List Int)), false))
        else
        if (decide ((List.length row5 : Int) ≤ (rdT (.pair (.int .i64) (.pair (.int .i64) (.list (.int .i64)))) l3 i4).2.1)) = true then
          some (.inl (([] : List (List Int)), false))
        else
        if 0 ≤ (rdT (.pair (.int .i64) (.pair (.int .i64) (.list (.int .i64)))) l3 i4).2.1 ∧ (rdT (.pair (.int .i64) (.pair (.int .i64) (.list (.int .i64)))) l3 i4).2.1 < List.length row5 then
        ref16_Fold.l0 k n l3 (wrap64 (i4 + (1 : Int))) (row5.set ((rdT (.pair (.int .i64) (.pair (.int .i64) (.list (.int .i64)))) l3 i4).2.1).toNat (rdT (.pair (.int .i64) (.pair (.int .i64) (.list (.int .i64)))) l3 i4).2.2)
        else none
      else
      if ((rdT (.pair (.int .i64) (.pair (.int .i64) (.list (.int .i64)))) l3 i4).1 == (3 : Int)) = true then
        if (decide ((rdT (.pair (.int .i64) (.pair (.int .i64) (.list (.int .i64)))) l3 i4).2.1 < (0 : Int))) = true then
          some (.inl (([] : List (List Int)), false))
        else
        if ((rdT (.pair (.int .i64) (.pair (.int .i64) (.list (.int .i64)))) l3 i4).2.1 != (wrap64 ((List.length row5 : Int) - (1 : Int)))) = true then
          some (.inl (([] : List (List Int)), false))
        else
        if (decide ((0 : Int) < (List.length (rdT (.pair (.int .i64) (.pair (.int .i64) (.list (.int .i64)))) l3 i4).2.2 : Int))) = true then
          some (.inl (([] : List (List Int)), false))
        else
        if 0 ≤ (rdT (.pair (.int .i64) (.pair (.int .i64) (.list (.int .i64)))) l3 i4).2.1 ∧ (rdT (.pair (.int .i64) (.pair (.int .i64) (.list (.int .i64)))) l3 i4).2.1 ≤ (List.length row5 : Int) then
        if (List.length ([] : List (List Int)) + List.length (row5.take ((rdT (.pair (.int .i64) (.pair (.int .i64) (.list (.int .i64)))) l3 i4).2.1).toNat)) * 24 ≤ 140737488355328 ∧ List.length ([] : List (List Int)) + List.length (row5.take ((rdT (.pair (.int .i64) (.pair (.int .i64) (.list (.int .i64)))) l3 i4).2.1).toNat) ≤ 9223372036854775807 then
        ref16_Fold.l0 k n l3 (wrap64 (i4 + (1 : Int))) (([] : List (List Int)) ++ (row5.take ((rdT (.pair (.int .i64) (.pair (.int .i64) (.list (.int .i64)))) l3 i4).2.1).toNat))
        else none
        else none
      else
      some (.inl (([] : List (List Int)), false))
      else none
    else
    some (.inr row5)
noncomputable def ref16_Fold.f (k : Nat) (rows1 : (List (List Int))) (l2 : (List (Int × Int × (List Int)))) : Option ((List (List Int)) × Bool) :=
  if (List.length ([] : List (List Int)) + List.length rows1) * 24 ≤ 140737488355328 ∧ List.length ([] : List (List Int)) + List.length rows1 ≤ 9223372036854775807 then
  (ref16_Fold.l0 k k l2 (0 : Int) (([] : List (List Int)) ++ rows1)).bind fun r => match r with
  | .inl r6 =>
    some (r6.1, r6.2)
  | .inr r7 =>
    some (r7, true)
  else none
@[reducible] noncomputable def ref16_Fold.V (k : Nat) : Env Tryd.prog GL := mkV [9, 11, 35, 73, 78] []
def ref16_Fold.l0.s : Pt := ⟨⟨80, [(1, .one (.v (.list (.pair (.int .i64) (.pair (.int .i64) (.list (.int .i64))))))), (6, .one (.r (.list (.int .i64)) 47 1001)), (7, .one (.v (.int .i64)))], [], [(1001, some ((.list (.int .i64)), 47))], []⟩, (List (Int × Int × (List Int))) × Int × (List (List Int)), fun v => (v.1.1, v.1.2.2.1, v.2.2.1), fun v => ((v.1, (), v.2.1, ()), (), (v.2.2, ())), by intro v; kernel_rfl⟩
def ref16_Fold.l0.x : List (PE × Pt) := [(.ret, ⟨⟨80, [(4, .one (.t (.list (.int .i64)) 47 1001)), (5, .one (.v .bool))], [], [(1001, none)], []⟩, (List (List Int)) × Bool, fun v => (v.1.1, v.1.2.1), fun v => ((v.1, v.2, ()), (), ()), by intro v; kernel_rfl⟩), (.exit 0, ⟨⟨80, [(6, .one (.r (.list (.int .i64)) 47 1001))], [], [(1001, some ((.list (.int .i64)), 47))], []⟩, (List (List Int)), fun v => v.2.2.1, fun v => (((), ()), (), (v, ())), by intro v; kernel_rfl⟩)]
noncomputable def ref16_Fold.l0.d (k : Nat) : CD Tryd.prog GL [] := .loop (ref16_Fold.V k) (bodyOf Tryd.f67).M.M.L.M.L.L (.node .no (.node (.node (.node .no (.node .no (.node (.node .no (.node (.node (.node .no (.node (.node .no (.view [⟨80, [(4, .one (.t (.list (.int .i64)) 47 2005)), (5, .one (.v .bool))], [], [(2005, none)], []⟩] .no .no)) .no)) .no) (.node .no (.node (.node (.node .no (.node (.node .no (.view [⟨80, [(4, .one (.t (.list (.int .i64)) 47 2006)), (5, .one (.v .bool))], [], [(2006, none)], []⟩] .no .no)) .no)) .no) (.node .no (.node (.node (.node .no (.view [⟨80, [(1, .one (.v (.list (.pair (.int .i64) (.pair (.int .i64) (.list (.int .i64))))))), (6, .one (.r (.list (.int .i64)) 47 1001)), (7, .one (.v (.int .i64))), (8, .one (.p 8 0)), (72, .one (.v .bool))], [(8, [.v (.int .i64), .v (.int .i64), .v (.list (.int .i64))])], [(1001, some ((.list (.int .i64)), 47))], []⟩] (.node .no (.view [⟨80, [(4, .one (.t (.list (.int .i64)) 47 2007)), (5, .one (.v .bool))], [], [(2007, none)], []⟩] .no .no)) .no)) .no) (.node .no (.view [⟨80, [(4, .one (.t (.list (.int .i64)) 47 2008)), (5, .one (.v .bool))], [], [(2008, none)], []⟩] .no .no)))))))) .no))) .no) (.view [⟨80, [(1, .one (.v (.list (.pair (.int .i64) (.pair (.int .i64) (.list (.int .i64))))))), (6, .one (.r (.list (.int .i64)) 47 1001)), (7, .one (.v (.int .i64)))], [], [(1001, some ((.list (.int .i64)), 47))], []⟩] .no .no))) ref16_Fold.l0.s ref16_Fold.l0.x (fun n v => ref16_Fold.l0 k n v.1 v.2.1 v.2.2) k (by kernel_rfl) (fun _ => rfl) (by intro n v; kernel_rfl)
noncomputable def ref16_Fold.fd (k : Nat) : FD Tryd.prog GL := .of (ref16_Fold.V k) 67 Tryd.f67 Tryd.func67 [(.list (.list (.int .i64)), false), (.list (.pair (.int .i64) (.pair (.int .i64) (.list (.int .i64)))), false)] [(.list (.list (.int .i64)), false), (.bool, false)] id (fun v => ref16_Fold.f k v.1 v.2.1) (fun v => (v.1, v.2.1)) (fun v => (v.1, v.2, ())) (.node .no (.node .no (.node (.node .no (.node (.cut (ref16_Fold.l0.d k)) .no)) (.node .no (.view [⟨80, [(4, .one (.v (.list (.list (.int .i64))))), (5, .one (.v .bool))], [], [], []⟩] .no .no))))) (by kernel_rfl) (by intro x; kernel_rfl) (by kernel_rfl) (by intro v; kernel_rfl)
/-! ref32_Do -/
noncomputable def ref32_Do.f (k : Nat) (rows1 : (List (List Int))) (width2 : Int) (d3 : (Int × Int × (List Int))) : Option ((List (List Int)) × Int) :=
  if (decide (d3.1 < (1 : Int))) = true then
    some (rows1, (22 : Int))
  else
  if (decide ((3 : Int) < d3.1)) = true then
    some (rows1, (22 : Int))
  else
  (ref16_Fold.f k rows1 [d3]).bind fun y4 =>
  if (!y4.2) = true then
    some (rows1, (1 : Int))
  else
  if (decide (d3.1 < (3 : Int))) = true then
    if ((List.length d3.2.2 : Int) != width2) = true then
      some (rows1, (3 : Int))
    else
    some (y4.1, (0 : Int))
  else
  some (y4.1, (0 : Int))
@[reducible] noncomputable def ref32_Do.V (k : Nat) : Env Tryd.prog GL := mkV [] [ref16_Fold.fd k]
noncomputable def ref32_Do.fd (k : Nat) : FD Tryd.prog GL := .of (ref32_Do.V k) 39 Tryd.f39 Tryd.func39 [(.list (.list (.int .i64)), false), (.int .i64, false), (.pair (.int .i64) (.pair (.int .i64) (.list (.int .i64))), true)] [(.list (.list (.int .i64)), false), (.int .i64, false)] id (fun v => ref32_Do.f k v.1 v.2.1 v.2.2.1) (fun v => (v.1, v.2.1)) (fun v => (v.1, v.2, ())) (.node .no (.node .no (.node .no (.node .no (.node (.node .no (.view [⟨41, [(0, .one (.v (.list (.list (.int .i64))))), (8, .one (.v (.list (.list (.int .i64))))), (38, .one (.v .bool))], [], [], []⟩] .no .no)) .no))))) (by kernel_rfl) (by intro x; kernel_rfl) (by kernel_rfl) (by intro v; kernel_rfl)
/-! law32_DeltaViews -/
noncomputable def law32_DeltaViews.l0 (k : Nat) : Nat → Int → (List (Int × Int × (List Int))) → (List (List Int)) → (List (List Int)) → Int → Int → (List (Int × Int × (List Int))) → Int → Int → Int → Int → (List (List Int)) → (List (List Int)) → Option ((Bool) ⊕ ((List (Int × Int × (List Int))) × (List (List Int)) × (List (List Int)) × Int × Int × Int × (List (List Int))))
  | 0, _, _, _, _, _, _, _, _, _, _, _, _, _ => none
  | n + 1, width19, l20, rows21, first22, bad23, why24, x25, x26, x27, x28, x29, row30, row31 =>
    if (decide (x27 < x26)) = true then
      if 0 ≤ x27 ∧ x27 < List.length x25 then
      (ref32_Do.f k rows21 width19 ((rdT (.pair (.int .i64) (.pair (.int .i64) (.list (.int .i64)))) x25 x27).1, (rdT (.pair (.int .i64) (.pair (.int .i64) (.list (.int .i64)))) x25 x27).2.1, (rdT (.pair (.int .i64) (.pair (.int .i64) (.list (.int .i64)))) x25 x27).2.2)).bind fun y32 =>
      (__delta_View__Do.f k (rdT (.pair (.int .i64) (.pair (.int .i64) (.list (.int .i64)))) x25 x27).1 (rdT (.pair (.int .i64) (.pair (.int .i64) (.list (.int .i64)))) x25 x27).2.1 (rdT (.pair (.int .i64) (.pair (.int .i64) (.list (.int .i64)))) x25 x27).2.2 x28 row30).bind fun y33 =>
      if (y33.1 != y32.2) = true then
        some (.inl false)
      else
      (__delta_View__Rows.f k y33.2.1 y33.2.2).bind fun y34 =>
      (ref28_Same.f k y34.1 y32.1).bind fun y35 =>
      if (!y35) = true then
        some (.inl false)
      else
      (__delta_View__Len.f k y34.2.1 y34.2.2).bind fun y36 =>
      if (y36.1 != (List.length y32.1 : Int)) = true then
        some (.inl false)
      else
      if (y32.2 != (0 : Int)) = true then
        if (decide (bad23 < (0 : Int))) = true then
          law32_DeltaViews.l0 k n width19 l20 y32.1 rows21 x27 y32.2 x25 x26 (wrap64 (x27 + (1 : Int))) y36.2.1 x29 y36.2.2 row31
        else
        law32_DeltaViews.l0 k n width19 l20 y32.1 first22 bad23 why24 x25 x26 (wrap64 (x27 + (1 : Int))) y36.2.1 x29 y36.2.2 row31
      else
      law32_DeltaViews.l0 k n width19 l20 y32.1 first22 bad23 why24 x25 x26 (wrap64 (x27 + (1 : Int))) y36.2.1 x29 y36.2.2 row31
      else none
    else
    some (.inr (l20, rows21, first22, bad23, why24, x29, row31))
noncomputable def law32_DeltaViews.j1 (k : Nat) (l39 : (List (Int × Int × (List Int)))) (rows40 : (List (List Int))) (first41 : (List (List Int))) (bad42 : Int) (why43 : Int) (x44 : Int) (row45 : (List (List Int))) : Option (((List (Int × Int × (List Int))) × (List (List Int)) × Int × Int × Int × (List (List Int)))) :=
  if (decide (bad42 < (0 : Int))) = true then
    some (l39, rows40, (List.length l39 : Int), why43, x44, row45)
  else
  some (l39, first41, bad42, why43, x44, row45)
noncomputable def law32_DeltaViews.f (k : Nat) (width1 : Int) (l2 : (List (Int × Int × (List Int)))) : Option (Bool) :=
  (__delta_View__All_1.g k l2).bind fun y3 =>
  (__delta_View__Do_1.g k (1 : Int) (0 : Int)).bind fun y4 =>
  if (y4 != (1 : Int)) = true then
    some false
  else
  if (y3.1 != (0 : Int)) = true then
    some false
  else
  if (y3.2 != (1 : Int)) = true then
    some false
  else
  (__delta_View__Rows_1.g k).bind fun y5 =>
  (__delta_View__Len_1.g k).bind fun y6 =>
  if ((wrap64 ((List.length y5 : Int) + y6)) != (0 : Int)) = true then
    some false
  else
  (delta_New.f k width1).bind fun r => match r with
  | .inl y7 =>
    (delta_New.f k width1).bind fun r => match r with
    | .inl y8 =>
      if (decide (width1 < (0 : Int))) = true then
        if (y7 == (1 : Int)) = true then
          (law32_lives.f k).bind fun y9 =>
          some y9
        else
        some false
      else
      if (decide ((64 : Int) < width1)) = true then
        if (y7 == (1 : Int)) = true then
          (law32_lives.f k).bind fun y10 =>
          some y10
        else
        some false
      else
      if (y7 != (0 : Int)) = true then
        some false
      else
      some false
    | .inr y11 =>
      if (decide (width1 < (0 : Int))) = true then
        if (y7 == (1 : Int)) = true then
          (law32_lives.f k).bind fun y12 =>
          some y12
        else
        some false
      else
      if (decide ((64 : Int) < width1)) = true then
        if (y7 == (1 : Int)) = true then
          (law32_lives.f k).bind fun y13 =>
          some y13
        else
        some false
      else
      if (y7 != (0 : Int)) = true then
        some false
      else
      some false
  | .inr y14 =>
    (delta_New.f k width1).bind fun r => match r with
    | .inl y15 =>
      if (decide (width1 < (0 : Int))) = true then
        some false
      else
      if (decide ((64 : Int) < width1)) = true then
        some false
      else
      if (y14.1 != (0 : Int)) = true then
        some false
      else
      some false
    | .inr y16 =>
      if (decide (width1 < (0 : Int))) = true then
        some false
      else
      if (decide ((64 : Int) < width1)) = true then
        some false
      else
      if (y14.1 != (0 : Int)) = true then
        some false
      else
      (law32_Great.f k l2).bind fun y17 =>
      if y17 = true then
        (law32_lives.f k).bind fun y18 =>
        some y18
      else
      (law32_DeltaViews.l0 k k width1 l2 ([] : List (List Int)) ([] : List (List Int)) (-1 : Int) (0 : Int) l2 (List.length l2 : Int) (0 : Int) y14.2.1 y16.2.1 y14.2.2 y16.2.2).bind fun r => match r with
      | .inl r37 =>
        some r37
      | .inr r38 =>
        (law32_DeltaViews.j1 k r38.1 r38.2.1 r38.2.2.1 r38.2.2.2.1 r38.2.2.2.2.1 r38.2.2.2.2.2.1 r38.2.2.2.2.2.2).bind fun r46 =>
        (__delta_View__All.f k r46.1 r46.2.2.2.2.1 r46.2.2.2.2.2).bind fun y47 =>
        if (y47.1 == r46.2.2.1) = true then
          if (y47.2.1 == r46.2.2.2.1) = true then
            (__delta_View__Rows.f k y47.2.2.1 y47.2.2.2).bind fun y48 =>
            (ref28_Same.f k y48.1 r46.2.1).bind fun y49 =>
            if y49 = true then
              (law32_lives.f k).bind fun y50 =>
              some y50
            else
            some false
          else
          some false
        else
        some false
@[reducible] noncomputable def law32_DeltaViews.V (k : Nat) : Env Tryd.prog GL := mkV [] [__delta_View__All_1.fd k, __delta_View__Do_1.fd k, __delta_View__Rows_1.fd k, __delta_View__Len_1.fd k, delta_New.fd k, law32_lives.fd k, law32_Great.fd k, ref32_Do.fd k, __delta_View__Do.fd k, __delta_View__Rows.fd k, ref28_Same.fd k, __delta_View__Len.fd k, __delta_View__All.fd k]
def law32_DeltaViews.l0.s : Pt := ⟨⟨157, [(0, .one (.v (.int .i64))), (1, .one (.v (.list (.pair (.int .i64) (.pair (.int .i64) (.list (.int .i64))))))), (8, .one (.p 100012 0)), (10, .one (.p 102012 0)), (12, .one (.v (.list (.list (.int .i64))))), (13, .one (.v (.list (.list (.int .i64))))), (14, .one (.v (.int .i64))), (15, .one (.v (.int .i64))), (85, .one (.v (.list (.pair (.int .i64) (.pair (.int .i64) (.list (.int .i64))))))), (86, .one (.v (.int .i64))), (87, .one (.v (.int .i64)))], [(100012, [.r (.list (.int .i64)) 47 1001, .v (.int .i64)]), (102012, [.r (.list (.int .i64)) 47 1002, .v (.int .i64)])], [(1001, some ((.list (.int .i64)), 47)), (1002, some ((.list (.int .i64)), 47))], []⟩, Int × (List (Int × Int × (List Int))) × (List (List Int)) × (List (List Int)) × Int × Int × (List (Int × Int × (List Int))) × Int × Int × Int × Int × (List (List Int)) × (List (List Int)), fun v => (v.1.1, v.1.2.1, v.1.2.2.2.2.1, v.1.2.2.2.2.2.1, v.1.2.2.2.2.2.2.1, v.1.2.2.2.2.2.2.2.1, v.1.2.2.2.2.2.2.2.2.1, v.1.2.2.2.2.2.2.2.2.2.1, v.1.2.2.2.2.2.2.2.2.2.2.1, v.2.1.1.2.1, v.2.1.2.1.2.1, v.2.2.1, v.2.2.2.1), fun v => ((v.1, v.2.1, (), (), v.2.2.1, v.2.2.2.1, v.2.2.2.2.1, v.2.2.2.2.2.1, v.2.2.2.2.2.2.1, v.2.2.2.2.2.2.2.1, v.2.2.2.2.2.2.2.2.1, ()), (((), v.2.2.2.2.2.2.2.2.2.1, ()), ((), v.2.2.2.2.2.2.2.2.2.2.1, ()), ()), (v.2.2.2.2.2.2.2.2.2.2.2.1, v.2.2.2.2.2.2.2.2.2.2.2.2, ())), by intro v; kernel_rfl⟩
def law32_DeltaViews.l0.x : List (PE × Pt) := [(.ret, ⟨⟨157, [(4, .one (.v .bool))], [], [], []⟩, Bool, fun v => v.1.1, fun v => ((v, ()), (), ()), by intro v; kernel_rfl⟩), (.exit 0, ⟨⟨157, [(1, .one (.v (.list (.pair (.int .i64) (.pair (.int .i64) (.list (.int .i64))))))), (10, .one (.p 102012 0)), (12, .one (.v (.list (.list (.int .i64))))), (13, .one (.v (.list (.list (.int .i64))))), (14, .one (.v (.int .i64))), (15, .one (.v (.int .i64)))], [(102012, [.r (.list (.int .i64)) 47 1001, .v (.int .i64)])], [(1001, some ((.list (.int .i64)), 47))], []⟩, (List (Int × Int × (List Int))) × (List (List Int)) × (List (List Int)) × Int × Int × Int × (List (List Int)), fun v => (v.1.1, v.1.2.2.1, v.1.2.2.2.1, v.1.2.2.2.2.1, v.1.2.2.2.2.2.1, v.2.1.1.2.1, v.2.2.1), fun v => ((v.1, (), v.2.1, v.2.2.1, v.2.2.2.1, v.2.2.2.2.1, ()), (((), v.2.2.2.2.2.1, ()), ()), (v.2.2.2.2.2.2, ())), by intro v; kernel_rfl⟩)]
noncomputable def law32_DeltaViews.l0.d (k : Nat) : CD Tryd.prog GL [] := .loop (law32_DeltaViews.V k) (bodyOf Tryd.f6).M.M.M.M.M.M.M.M.M.M.M.L.M.L.L (.node .no (.node .no (.node (.node (.node .no (.node .no (.node (.node .no (.view [⟨157, [(0, .one (.v (.int .i64))), (1, .one (.v (.list (.pair (.int .i64) (.pair (.int .i64) (.list (.int .i64))))))), (8, .one (.p 100012 0)), (10, .one (.p 102012 0)), (12, .one (.v (.list (.list (.int .i64))))), (13, .one (.v (.list (.list (.int .i64))))), (14, .one (.v (.int .i64))), (15, .one (.v (.int .i64))), (16, .one (.v (.int .i64))), (18, .one (.v (.list (.list (.int .i64))))), (19, .one (.v (.int .i64))), (85, .one (.v (.list (.pair (.int .i64) (.pair (.int .i64) (.list (.int .i64))))))), (86, .one (.v (.int .i64))), (87, .one (.v (.int .i64))), (117, .one (.v .bool))], [(100012, [.r (.list (.int .i64)) 47 1001, .v (.int .i64)]), (102012, [.r (.list (.int .i64)) 47 1002, .v (.int .i64)])], [(1001, some ((.list (.int .i64)), 47)), (1002, some ((.list (.int .i64)), 47))], []⟩] .no .no)) .no))) .no) .no))) law32_DeltaViews.l0.s law32_DeltaViews.l0.x (fun n v => law32_DeltaViews.l0 k n v.1 v.2.1 v.2.2.1 v.2.2.2.1 v.2.2.2.2.1 v.2.2.2.2.2.1 v.2.2.2.2.2.2.1 v.2.2.2.2.2.2.2.1 v.2.2.2.2.2.2.2.2.1 v.2.2.2.2.2.2.2.2.2.1 v.2.2.2.2.2.2.2.2.2.2.1 v.2.2.2.2.2.2.2.2.2.2.2.1 v.2.2.2.2.2.2.2.2.2.2.2.2) k (by kernel_rfl) (fun _ => rfl) (by intro n v; kernel_rfl)
def law32_DeltaViews.j1.s : Pt := ⟨⟨157, [(1, .one (.v (.list (.pair (.int .i64) (.pair (.int .i64) (.list (.int .i64))))))), (10, .one (.p 102012 0)), (12, .one (.v (.list (.list (.int .i64))))), (13, .one (.v (.list (.list (.int .i64))))), (14, .one (.v (.int .i64))), (15, .one (.v (.int .i64)))], [(102012, [.r (.list (.int .i64)) 47 1001, .v (.int .i64)])], [(1001, some ((.list (.int .i64)), 47))], []⟩, (List (Int × Int × (List Int))) × (List (List Int)) × (List (List Int)) × Int × Int × Int × (List (List Int)), fun v => (v.1.1, v.1.2.2.1, v.1.2.2.2.1, v.1.2.2.2.2.1, v.1.2.2.2.2.2.1, v.2.1.1.2.1, v.2.2.1), fun v => ((v.1, (), v.2.1, v.2.2.1, v.2.2.2.1, v.2.2.2.2.1, ()), (((), v.2.2.2.2.2.1, ()), ()), (v.2.2.2.2.2.2, ())), by intro v; kernel_rfl⟩
def law32_DeltaViews.j1.x : List (PE × Pt) := [(.normal, ⟨⟨157, [(1, .one (.v (.list (.pair (.int .i64) (.pair (.int .i64) (.list (.int .i64))))))), (10, .one (.p 102012 0)), (13, .one (.v (.list (.list (.int .i64))))), (14, .one (.v (.int .i64))), (15, .one (.v (.int .i64)))], [(102012, [.r (.list (.int .i64)) 47 1001, .v (.int .i64)])], [(1001, some ((.list (.int .i64)), 47))], []⟩, (List (Int × Int × (List Int))) × (List (List Int)) × Int × Int × Int × (List (List Int)), fun v => (v.1.1, v.1.2.2.1, v.1.2.2.2.1, v.1.2.2.2.2.1, v.2.1.1.2.1, v.2.2.1), fun v => ((v.1, (), v.2.1, v.2.2.1, v.2.2.2.1, ()), (((), v.2.2.2.2.1, ()), ()), (v.2.2.2.2.2, ())), by intro v; kernel_rfl⟩)]
noncomputable def law32_DeltaViews.j1.d (k : Nat) : CD Tryd.prog GL [] := .join (law32_DeltaViews.V k) (bodyOf Tryd.f6).M.M.M.M.M.M.M.M.M.M.M.M.L .no law32_DeltaViews.j1.s law32_DeltaViews.j1.x (fun v => law32_DeltaViews.j1 k v.1 v.2.1 v.2.2.1 v.2.2.2.1 v.2.2.2.2.1 v.2.2.2.2.2.1 v.2.2.2.2.2.2) (by kernel_rfl) (by intro v; kernel_rfl)
theorem law32_DeltaViews.con (k : Nat) (v : DT [(.int .i64, false), (.list (.pair (.int .i64) (.pair (.int .i64) (.list (.int .i64)))), false)]) (y : Bool) (h : (fun v => law32_DeltaViews.f k v.1 v.2.1) (id v) = some y) : Con Tryd.prog GL 6 ((putD [(.int .i64, false), (.list (.pair (.int .i64) (.pair (.int .i64) (.list (.int .i64)))), false)] v).map .p) [] (.ret (putR [(.bool, false)] ((fun v => (v, ())) y))) [] := con_of (law32_DeltaViews.V k) 6 Tryd.f6 Tryd.func6 [(.int .i64, false), (.list (.pair (.int .i64) (.pair (.int .i64) (.list (.int .i64)))), false)] [(.bool, false)] id (fun v => law32_DeltaViews.f k v.1 v.2.1) (fun v => v.1) (fun v => (v, ())) (.node .no (.node .no (.node .no (.node (.node .no (.view [⟨157, [(0, .one (.v (.int .i64))), (1, .one (.v (.list (.pair (.int .i64) (.pair (.int .i64) (.list (.int .i64))))))), (46, .one (.v .bool))], [], [], []⟩] .no .no)) (.node .no (.node .no (.node .no (.view [⟨157, [(0, .one (.v (.int .i64))), (1, .one (.v (.list (.pair (.int .i64) (.pair (.int .i64) (.list (.int .i64))))))), (8, .one (.np)), (9, .one (.v (.int .i64))), (10, .one (.np))], [], [], []⟩, ⟨157, [(0, .one (.v (.int .i64))), (1, .one (.v (.list (.pair (.int .i64) (.pair (.int .i64) (.list (.int .i64))))))), (8, .one (.np)), (9, .one (.v (.int .i64))), (10, .one (.p 100012 0))], [(100012, [.r (.list (.int .i64)) 47 1001, .v (.int .i64)])], [(1001, some ((.list (.int .i64)), 47))], []⟩, ⟨157, [(0, .one (.v (.int .i64))), (1, .one (.v (.list (.pair (.int .i64) (.pair (.int .i64) (.list (.int .i64))))))), (8, .one (.p 100012 0)), (9, .one (.v (.int .i64))), (10, .one (.np))], [(100012, [.r (.list (.int .i64)) 47 1001, .v (.int .i64)])], [(1001, some ((.list (.int .i64)), 47))], []⟩, ⟨157, [(0, .one (.v (.int .i64))), (1, .one (.v (.list (.pair (.int .i64) (.pair (.int .i64) (.list (.int .i64))))))), (8, .one (.p 100012 0)), (9, .one (.v (.int .i64))), (10, .one (.p 102012 0))], [(100012, [.r (.list (.int .i64)) 47 1001, .v (.int .i64)]), (102012, [.r (.list (.int .i64)) 47 1002, .v (.int .i64)])], [(1001, some ((.list (.int .i64)), 47)), (1002, some ((.list (.int .i64)), 47))], []⟩] .no (.node .no (.node .no (.node .no (.node (.node .no (.node (.cut (law32_DeltaViews.l0.d k)) .no)) (.node (.cut (law32_DeltaViews.j1.d k)) .no))))))))))))) (by kernel_rfl) (by intro x; kernel_rfl) (by kernel_rfl) (by intro v; kernel_rfl) v y h
end Go.Proofs.YtpmnhbjbkoackaaDoor.En
