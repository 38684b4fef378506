/- The functions of the program as plain functions, and that they are so. -/
import Derived.Test.YtpmnhbjbkoackaaDoorTb
namespace Go.Proofs.YtpmnhbjbkoackaaDoor.En
open Go Go.RowKit Go.Proofs
set_option linter.unusedVariables false
set_option linter.unusedSimpArgs false
set_option maxRecDepth 20000

/-! delta_may -/
def delta_may.j0 (k : Nat) (x2 : Int) (d3 : Int) (d4 : Int) (d5 : (List Int)) : Option ((Int × Bool × Int × Int × (List Int))) :=
  if (x2 == (1 : Int)) = true then
    some (x2, (x2 == (1 : Int)), d3, d4, d5)
  else
  some (x2, (x2 == (2 : Int)), d3, d4, d5)
def delta_may.f (k : Nat) (d1 : (Int × Int × (List Int))) : Option (Bool) :=
  (delta_may.j0 k d1.1 d1.1 d1.2.1 d1.2.2).bind fun r6 =>
  if r6.2.1 = true then
    some (decide ((0 : Int) ≤ r6.2.2.2.1))
  else
  if (r6.1 == (3 : Int)) = true then
    if (decide ((0 : Int) ≤ r6.2.2.2.1)) = true then
      some ((List.length r6.2.2.2.2 : Int) == (0 : Int))
    else
    some false
  else
  some false
@[reducible] noncomputable def delta_may.V (k : Nat) : Env Tryd.prog GL := mkV []
def delta_may.j0.s : Pt := ⟨⟨22, [(1, .one (.p 1 0)), (4, .one (.v (.int .i64)))], [(1, [.v (.int .i64), .v (.int .i64), .v (.list (.int .i64))])], []⟩, Int × Int × Int × (List Int), fun v => (v.1.2.1, v.2.1.1, v.2.1.2.1, v.2.1.2.2.1), fun v => (((), v.1, ()), ((v.2.1, v.2.2.1, v.2.2.2, ()), ())), by intro v; kernel_rfl⟩
def delta_may.j0.x : List (PE × Pt) := [(.normal, ⟨⟨22, [(1, .one (.p 1 0)), (4, .one (.v (.int .i64))), (5, .one (.v .bool))], [(1, [.v (.int .i64), .v (.int .i64), .v (.list (.int .i64))])], []⟩, Int × Bool × Int × Int × (List Int), fun v => (v.1.2.1, v.1.2.2.1, v.2.1.1, v.2.1.2.1, v.2.1.2.2.1), fun v => (((), v.1, v.2.1, ()), ((v.2.2.1, v.2.2.2.1, v.2.2.2.2, ()), ())), by intro v; kernel_rfl⟩)]
noncomputable def delta_may.j0.d (k : Nat) : CD Tryd.prog GL [] := .join (delta_may.V k) (bodyOf Tryd.f73).M.L.M.L.L .no delta_may.j0.s delta_may.j0.x (fun v => delta_may.j0 k v.1 v.2.1 v.2.2.1 v.2.2.2) (by kernel_rfl) (by intro v; kernel_rfl)
noncomputable def delta_may.fd (k : Nat) : FD Tryd.prog GL := .of (delta_may.V k) 73 Tryd.f73 Tryd.func73 [(.pair (.int .i64) (.pair (.int .i64) (.list (.int .i64))), true)] [(.bool, false)] id (fun v => delta_may.f k v.1) (fun v => v.1) (fun v => (v, ())) (.node .no (.node (.node .no (.node (.node (.cut (delta_may.j0.d k)) .no) .no)) .no)) (by kernel_rfl) (by intro x; kernel_rfl) (by kernel_rfl) (by intro v; kernel_rfl)
/-! digits_Put -/
def digits_Put.f (k : Nat) (n1 : Int) : Option (ByteArray) :=
  (x_FormatInt n1 (10 : Int)).bind fun y2 =>
  some y2
@[reducible] noncomputable def digits_Put.V (k : Nat) : Env Tryd.prog GL := mkV [x_FormatInt_fd]
noncomputable def digits_Put.fd (k : Nat) : FD Tryd.prog GL := .of (digits_Put.V k) 74 Tryd.f74 Tryd.func74 [(.int .i64, false)] [(.str, false)] id (fun v => digits_Put.f k v.1) (fun v => v.1) (fun v => (v, ())) .no (by kernel_rfl) (by intro x; kernel_rfl) (by kernel_rfl) (by intro v; kernel_rfl)
/-! delta_Line -/
def delta_Line.l0 (k : Nat) : Nat → (List ByteArray) → (List Int) → Int → Int → Option (((List ByteArray)))
  | 0, _, _, _, _ => none
  | n + 1, words4, x5, x6, x7 =>
    if (decide (x7 < x6)) = true then
      if 0 ≤ x7 ∧ x7 < List.length x5 then
      (digits_Put.f k (rdT (.int .i64) x5 x7)).bind fun y8 =>
      if (List.length words4 + List.length [y8]) * 16 ≤ 140737488355328 ∧ List.length words4 + List.length [y8] ≤ 9223372036854775807 then
      delta_Line.l0 k n (words4 ++ [y8]) x5 x6 (wrap64 (x7 + (1 : Int)))
      else none
      else none
    else
    some words4
def delta_Line.f (k : Nat) (d1 : (Int × Int × (List Int))) : Option (ByteArray) :=
  (delta_may.f k d1).bind fun y2 =>
  if (!y2) = true then
    some (bs [])
  else
  if 0 ≤ d1.1 ∧ d1.1 ≤ (wrap64 (d1.1 + (1 : Int))) ∧ (wrap64 (d1.1 + (1 : Int))) ≤ ((bs [32, 43, 61, 45]).size : Int) then
  (digits_Put.f k d1.2.1).bind fun y3 =>
  (delta_Line.l0 k k [((bs [32, 43, 61, 45]).extract (d1.1).toNat ((wrap64 (d1.1 + (1 : Int)))).toNat), y3] d1.2.2 (List.length d1.2.2 : Int) (0 : Int)).bind fun r9 =>
  (x_Join r9 (bs [32])).bind fun y10 =>
  some y10
  else none
@[reducible] noncomputable def delta_Line.V (k : Nat) : Env Tryd.prog GL := mkV [delta_may.fd k, digits_Put.fd k, x_Join_fd]
def delta_Line.l0.s : Pt := ⟨⟨34, [(3, .one (.t .str 9 1001)), (20, .one (.v (.list (.int .i64)))), (21, .one (.v (.int .i64))), (22, .one (.v (.int .i64)))], [], []⟩, (List ByteArray) × (List Int) × Int × Int, fun v => (v.1.1, v.1.2.1, v.1.2.2.1, v.1.2.2.2.1), fun v => ((v.1, v.2.1, v.2.2.1, v.2.2.2, ()), ()), by intro v; kernel_rfl⟩
def delta_Line.l0.x : List (PE × Pt) := [(.exit 0, ⟨⟨34, [(3, .one (.t .str 9 1001))], [], []⟩, (List ByteArray), fun v => v.1.1, fun v => ((v, ()), ()), by intro v; kernel_rfl⟩)]
noncomputable def delta_Line.l0.d (k : Nat) : CD Tryd.prog GL [] := .loop (delta_Line.V k) (bodyOf Tryd.f45).M.M.M.L.M.L.L .no delta_Line.l0.s delta_Line.l0.x (fun n v => delta_Line.l0 k n v.1 v.2.1 v.2.2.1 v.2.2.2) k (by kernel_rfl) (fun _ => rfl) (by intro n v; kernel_rfl)
noncomputable def delta_Line.fd (k : Nat) : FD Tryd.prog GL := .of (delta_Line.V k) 45 Tryd.f45 Tryd.func45 [(.pair (.int .i64) (.pair (.int .i64) (.list (.int .i64))), true)] [(.str, false)] id (fun v => delta_Line.f k v.1) (fun v => v.1) (fun v => (v, ())) (.node .no (.node .no (.node .no (.node (.node .no (.node (.cut (delta_Line.l0.d k)) .no)) .no)))) (by kernel_rfl) (by intro x; kernel_rfl) (by kernel_rfl) (by intro v; kernel_rfl)
/-! law32_lives -/
def law32_lives.f (k : Nat) : Option (Bool) :=
  (delta_Line.f k ((1 : Int), (0 : Int), [(5 : Int), (-1 : Int)])).bind fun y1 =>
  some (y1.toList == (bs [43, 32, 48, 32, 53, 32, 45, 49]).toList)
@[reducible] noncomputable def law32_lives.V (k : Nat) : Env Tryd.prog GL := mkV [delta_Line.fd k]
noncomputable def law32_lives.fd (k : Nat) : FD Tryd.prog GL := .of (law32_lives.V k) 37 Tryd.f37 Tryd.func37 [] [(.bool, false)] id (fun v => law32_lives.f k) (fun v => v.1) (fun v => (v, ())) .no (by kernel_rfl) (by intro x; kernel_rfl) (by kernel_rfl) (by intro v; kernel_rfl)
/-! ref10_digits -/
def ref10_digits.j0 (rf : Int → Option (ByteArray)) (k : Nat) (n2 : Int) (d3 : Int) : Option ((Int × Int)) :=
  if (decide (d3 < (0 : Int))) = true then
    some (n2, (wrap64 ((0 : Int) - d3)))
  else
  some (n2, d3)
def ref10_digits.f : Nat → Int → Option (ByteArray)
  | 0, _ => none
  | k + 1, n1 =>
  if (10 : Int) ≠ 0 then
  (ref10_digits.j0 (ref10_digits.f k) k n1 (n1.tmod (10 : Int))).bind fun r4 =>
  if (10 : Int) ≠ 0 then
  if ((wrap64 (r4.1.tdiv (10 : Int))) == (0 : Int)) = true then
    some (strOfNums [((wrap64 ((48 : Int) + r4.2)) % 256)])
  else
  if (10 : Int) ≠ 0 then
  (ref10_digits.f k (wrap64 (r4.1.tdiv (10 : Int)))).bind fun y5 =>
  if y5.size + (strOfNums [((wrap64 ((48 : Int) + r4.2)) % 256)]).size ≤ 9223372036854775807 then
  some (y5 ++ (strOfNums [((wrap64 ((48 : Int) + r4.2)) % 256)]))
  else none
  else none
  else none
  else none
def ref10_digits.C (k : Nat) : Prop := ∀ (v : DT [(.int .i64, false)]) y, (fun v => ref10_digits.f k v.1) (id v) = some y → Con Tryd.prog GL 82 ((putD [(.int .i64, false)] v).map .p) [] (.ret (putR [(.str, false)] ((fun v => (v, ())) y))) []
@[reducible] noncomputable def ref10_digits.V (k : Nat) (ih : ref10_digits.C k) : Env Tryd.prog GL := mkV [.data 82 [(.int .i64, false)] [(.str, false)] id (fun v => ref10_digits.f k v.1) (fun v => (v, ())) (fnOk Tryd.func82 (by kernel_rfl)) ih]
def ref10_digits.j0.s : Pt := ⟨⟨25, [(0, .one (.v (.int .i64))), (3, .one (.v (.int .i64)))], [], []⟩, Int × Int, fun v => (v.1.1, v.1.2.1), fun v => ((v.1, v.2, ()), ()), by intro v; kernel_rfl⟩
def ref10_digits.j0.x : List (PE × Pt) := [(.normal, ⟨⟨25, [(0, .one (.v (.int .i64))), (3, .one (.v (.int .i64)))], [], []⟩, Int × Int, fun v => (v.1.1, v.1.2.1), fun v => ((v.1, v.2, ()), ()), by intro v; kernel_rfl⟩)]
noncomputable def ref10_digits.j0.d (k : Nat) (ih : ref10_digits.C k) : CD Tryd.prog GL [] := .join (ref10_digits.V k ih) (bodyOf Tryd.f82).M.M.L .no ref10_digits.j0.s ref10_digits.j0.x (fun v => ref10_digits.j0 (ref10_digits.f k) k v.1 v.2) (by kernel_rfl) (by intro v; kernel_rfl)
theorem ref10_digits.con (k : Nat) : ref10_digits.C k := by
  induction k with
  | zero => intro v y h; cases h
  | succ k ih => exact con_of (ref10_digits.V k ih) 82 Tryd.f82 Tryd.func82 [(.int .i64, false)] [(.str, false)] id (fun v => ref10_digits.f (k + 1) v.1) (fun v => v.1) (fun v => (v, ())) (.node .no (.node .no (.node (.cut (ref10_digits.j0.d k ih)) .no))) (by kernel_rfl) (by intro x; kernel_rfl) (by kernel_rfl) (by intro v; kernel_rfl)
noncomputable def ref10_digits.fd (k : Nat) : FD Tryd.prog GL := .data 82 [(.int .i64, false)] [(.str, false)] id (fun v => ref10_digits.f k v.1) (fun v => (v, ())) (fnOk Tryd.func82 (by kernel_rfl)) (ref10_digits.con k)
/-! ref10_Put -/
def ref10_Put.f (k : Nat) (n1 : Int) : Option (ByteArray) :=
  if (decide (n1 < (0 : Int))) = true then
    (ref10_digits.f k n1).bind fun y2 =>
    if (bs [45]).size + y2.size ≤ 9223372036854775807 then
    some ((bs [45]) ++ y2)
    else none
  else
  (ref10_digits.f k n1).bind fun y3 =>
  some y3
@[reducible] noncomputable def ref10_Put.V (k : Nat) : Env Tryd.prog GL := mkV [ref10_digits.fd k]
noncomputable def ref10_Put.fd (k : Nat) : FD Tryd.prog GL := .of (ref10_Put.V k) 60 Tryd.f60 Tryd.func60 [(.int .i64, false)] [(.str, false)] id (fun v => ref10_Put.f k v.1) (fun v => v.1) (fun v => (v, ())) .no (by kernel_rfl) (by intro x; kernel_rfl) (by kernel_rfl) (by intro v; kernel_rfl)
/-! ref32_Line -/
def ref32_Line.l0 (k : Nat) : Nat → ByteArray → Int → Int → Int → (List Int) → Option ((ByteArray))
  | 0, _, _, _, _, _ => none
  | n + 1, s3, i4, d5, d6, d7 =>
    if (decide (i4 < (List.length d7 : Int))) = true then
      if s3.size + (bs [32]).size ≤ 9223372036854775807 then
      if 0 ≤ i4 ∧ i4 < List.length d7 then
      (ref10_Put.f k (rdT (.int .i64) d7 i4)).bind fun y8 =>
      if (s3 ++ (bs [32])).size + y8.size ≤ 9223372036854775807 then
      ref32_Line.l0 k n ((s3 ++ (bs [32])) ++ y8) (wrap64 (i4 + (1 : Int))) d5 d6 d7
      else none
      else none
      else none
    else
    some s3
def ref32_Line.f (k : Nat) (d1 : (Int × Int × (List Int))) : Option (ByteArray) :=
  if (decide (d1.1 < (1 : Int))) = true then
    some (bs [])
  else
  if (decide ((3 : Int) < d1.1)) = true then
    some (bs [])
  else
  if (decide (d1.2.1 < (0 : Int))) = true then
    some (bs [])
  else
  if (d1.1 == (3 : Int)) = true then
    if (decide ((0 : Int) < (List.length d1.2.2 : Int))) = true then
      some (bs [])
    else
    if 0 ≤ d1.1 ∧ d1.1 < List.length [(bs []), (bs [43, 32]), (bs [61, 32]), (bs [45, 32])] then
    (ref10_Put.f k d1.2.1).bind fun y2 =>
    if (rdT .str [(bs []), (bs [43, 32]), (bs [61, 32]), (bs [45, 32])] d1.1).size + y2.size ≤ 9223372036854775807 then
    (ref32_Line.l0 k k ((rdT .str [(bs []), (bs [43, 32]), (bs [61, 32]), (bs [45, 32])] d1.1) ++ y2) (0 : Int) d1.1 d1.2.1 d1.2.2).bind fun r9 =>
    some r9
    else none
    else none
  else
  if 0 ≤ d1.1 ∧ d1.1 < List.length [(bs []), (bs [43, 32]), (bs [61, 32]), (bs [45, 32])] then
  (ref10_Put.f k d1.2.1).bind fun y10 =>
  if (rdT .str [(bs []), (bs [43, 32]), (bs [61, 32]), (bs [45, 32])] d1.1).size + y10.size ≤ 9223372036854775807 then
  (ref32_Line.l0 k k ((rdT .str [(bs []), (bs [43, 32]), (bs [61, 32]), (bs [45, 32])] d1.1) ++ y10) (0 : Int) d1.1 d1.2.1 d1.2.2).bind fun r11 =>
  some r11
  else none
  else none
@[reducible] noncomputable def ref32_Line.V (k : Nat) : Env Tryd.prog GL := mkV [ref10_Put.fd k]
def ref32_Line.l0.s : Pt := ⟨⟨55, [(1, .one (.p 1 0)), (3, .one (.v .str)), (4, .one (.v (.int .i64)))], [(1, [.v (.int .i64), .v (.int .i64), .v (.list (.int .i64))])], []⟩, ByteArray × Int × Int × Int × (List Int), fun v => (v.1.2.1, v.1.2.2.1, v.2.1.1, v.2.1.2.1, v.2.1.2.2.1), fun v => (((), v.1, v.2.1, ()), ((v.2.2.1, v.2.2.2.1, v.2.2.2.2, ()), ())), by intro v; kernel_rfl⟩
def ref32_Line.l0.x : List (PE × Pt) := [(.exit 0, ⟨⟨55, [(3, .one (.v .str))], [], []⟩, ByteArray, fun v => v.1.1, fun v => ((v, ()), ()), by intro v; kernel_rfl⟩)]
noncomputable def ref32_Line.l0.d (k : Nat) : CD Tryd.prog GL [] := .loop (ref32_Line.V k) (bodyOf Tryd.f43).M.M.M.L.M.L.L .no ref32_Line.l0.s ref32_Line.l0.x (fun n v => ref32_Line.l0 k n v.1 v.2.1 v.2.2.1 v.2.2.2.1 v.2.2.2.2) k (by kernel_rfl) (fun _ => rfl) (by intro n v; kernel_rfl)
noncomputable def ref32_Line.fd (k : Nat) : FD Tryd.prog GL := .of (ref32_Line.V k) 43 Tryd.f43 Tryd.func43 [(.pair (.int .i64) (.pair (.int .i64) (.list (.int .i64))), true)] [(.str, false)] id (fun v => ref32_Line.f k v.1) (fun v => v.1) (fun v => (v, ())) (.node .no (.node .no (.node .no (.view [⟨55, [(1, .one (.p 1 0)), (3, .one (.v .str))], [(1, [.v (.int .i64), .v (.int .i64), .v (.list (.int .i64))])], []⟩] (.node .no (.node (.cut (ref32_Line.l0.d k)) .no)) .no)))) (by kernel_rfl) (by intro x; kernel_rfl) (by kernel_rfl) (by intro v; kernel_rfl)
/-! digits_Words -/
def digits_Words.f (k : Nat) (s1 : ByteArray) : Option ((List ByteArray)) :=
  (x_Split s1 (bs [32])).bind fun y2 =>
  some y2
@[reducible] noncomputable def digits_Words.V (k : Nat) : Env Tryd.prog GL := mkV [x_Split_fd]
noncomputable def digits_Words.fd (k : Nat) : FD Tryd.prog GL := .of (digits_Words.V k) 70 Tryd.f70 Tryd.func70 [(.str, false)] [(.list .str, false)] id (fun v => digits_Words.f k v.1) (fun v => v.1) (fun v => (v, ())) .no (by kernel_rfl) (by intro x; kernel_rfl) (by kernel_rfl) (by intro v; kernel_rfl)
/-! internal_stringslite_HasPrefix -/
def internal_stringslite_HasPrefix.f (k : Nat) (s1 : ByteArray) (prefix2 : ByteArray) : Option (Bool) :=
  if (decide ((prefix2.size : Int) ≤ (s1.size : Int))) = true then
    if 0 ≤ (0 : Int) ∧ (0 : Int) ≤ (prefix2.size : Int) ∧ (prefix2.size : Int) ≤ (s1.size : Int) then
    some ((s1.extract ((0 : Int)).toNat ((prefix2.size : Int)).toNat).toList == prefix2.toList)
    else none
  else
  some false
@[reducible] noncomputable def internal_stringslite_HasPrefix.V (k : Nat) : Env Tryd.prog GL := mkV []
noncomputable def internal_stringslite_HasPrefix.fd (k : Nat) : FD Tryd.prog GL := .of (internal_stringslite_HasPrefix.V k) 114 Tryd.f114 Tryd.func114 [(.str, false), (.str, false)] [(.bool, false)] id (fun v => internal_stringslite_HasPrefix.f k v.1 v.2.1) (fun v => v.1) (fun v => (v, ())) .no (by kernel_rfl) (by intro x; kernel_rfl) (by kernel_rfl) (by intro v; kernel_rfl)
/-! internal_stringslite_CutPrefix -/
def internal_stringslite_CutPrefix.f (k : Nat) (s1 : ByteArray) (prefix2 : ByteArray) : Option (ByteArray × Bool) :=
  (internal_stringslite_HasPrefix.f k s1 prefix2).bind fun y3 =>
  if (!y3) = true then
    some (s1, false)
  else
  if 0 ≤ (prefix2.size : Int) ∧ (prefix2.size : Int) ≤ (s1.size : Int) ∧ (s1.size : Int) ≤ (s1.size : Int) then
  some ((s1.extract ((prefix2.size : Int)).toNat ((s1.size : Int)).toNat), true)
  else none
@[reducible] noncomputable def internal_stringslite_CutPrefix.V (k : Nat) : Env Tryd.prog GL := mkV [internal_stringslite_HasPrefix.fd k]
noncomputable def internal_stringslite_CutPrefix.fd (k : Nat) : FD Tryd.prog GL := .of (internal_stringslite_CutPrefix.V k) 104 Tryd.f104 Tryd.func104 [(.str, false), (.str, false)] [(.str, false), (.bool, false)] id (fun v => internal_stringslite_CutPrefix.f k v.1 v.2.1) (fun v => (v.1, v.2.1)) (fun v => (v.1, v.2, ())) .no (by kernel_rfl) (by intro x; kernel_rfl) (by kernel_rfl) (by intro v; kernel_rfl)
/-! strings_CutPrefix -/
def strings_CutPrefix.f (k : Nat) (s1 : ByteArray) (prefix2 : ByteArray) : Option (ByteArray × Bool) :=
  (internal_stringslite_CutPrefix.f k s1 prefix2).bind fun y3 =>
  some (y3.1, y3.2)
@[reducible] noncomputable def strings_CutPrefix.V (k : Nat) : Env Tryd.prog GL := mkV [internal_stringslite_CutPrefix.fd k]
noncomputable def strings_CutPrefix.fd (k : Nat) : FD Tryd.prog GL := .of (strings_CutPrefix.V k) 91 Tryd.f91 Tryd.func91 [(.str, false), (.str, false)] [(.str, false), (.bool, false)] id (fun v => strings_CutPrefix.f k v.1 v.2.1) (fun v => (v.1, v.2.1)) (fun v => (v.1, v.2, ())) .no (by kernel_rfl) (by intro x; kernel_rfl) (by kernel_rfl) (by intro v; kernel_rfl)
/-! digits_Get -/
def digits_Get.f (k : Nat) (s1 : ByteArray) : Option (Int × Bool) :=
  (strings_CutPrefix.f k s1 (bs [45])).bind fun y2 =>
  (x_long y2.1).bind fun y3 =>
  if (y3 != (y2.1.size : Int)) = true then
    some ((0 : Int), false)
  else
  (x_valued y2.1 y2.2).bind fun y4 =>
  some (y4.1, y4.2)
@[reducible] noncomputable def digits_Get.V (k : Nat) : Env Tryd.prog GL := mkV [strings_CutPrefix.fd k, x_long_fd, x_valued_fd]
noncomputable def digits_Get.fd (k : Nat) : FD Tryd.prog GL := .of (digits_Get.V k) 84 Tryd.f84 Tryd.func84 [(.str, false)] [(.int .i64, false), (.bool, false)] id (fun v => digits_Get.f k v.1) (fun v => (v.1, v.2.1)) (fun v => (v.1, v.2, ())) .no (by kernel_rfl) (by intro x; kernel_rfl) (by kernel_rfl) (by intro v; kernel_rfl)
/-! digits_Nums -/
def digits_Nums.l0 (k : Nat) : Nat → (List Int) → (List ByteArray) → Int → Int → Option (((List Int) × Bool) ⊕ ((List Int)))
  | 0, _, _, _, _ => none
  | n + 1, out2, x3, x4, x5 =>
    if (decide (x5 < x4)) = true then
      if 0 ≤ x5 ∧ x5 < List.length x3 then
      (digits_Get.f k (rdT .str x3 x5)).bind fun y6 =>
      if (!y6.2) = true then
        some (.inl (([] : List Int), false))
      else
      if (List.length out2 + List.length [y6.1]) * 8 ≤ 140737488355328 ∧ List.length out2 + List.length [y6.1] ≤ 9223372036854775807 then
      digits_Nums.l0 k n (out2 ++ [y6.1]) x3 x4 (wrap64 (x5 + (1 : Int)))
      else none
      else none
    else
    some (.inr out2)
def digits_Nums.f (k : Nat) (words1 : (List ByteArray)) : Option ((List Int) × Bool) :=
  (digits_Nums.l0 k k ([] : List Int) words1 (List.length words1 : Int) (0 : Int)).bind fun r => match r with
  | .inl r7 =>
    some (r7.1, r7.2)
  | .inr r8 =>
    some (r8, true)
@[reducible] noncomputable def digits_Nums.V (k : Nat) : Env Tryd.prog GL := mkV [digits_Get.fd k]
def digits_Nums.l0.s : Pt := ⟨⟨28, [(4, .one (.t (.int .i64) 2 1001)), (9, .one (.v (.list .str))), (10, .one (.v (.int .i64))), (11, .one (.v (.int .i64)))], [], []⟩, (List Int) × (List ByteArray) × Int × Int, fun v => (v.1.1, v.1.2.1, v.1.2.2.1, v.1.2.2.2.1), fun v => ((v.1, v.2.1, v.2.2.1, v.2.2.2, ()), ()), by intro v; kernel_rfl⟩
def digits_Nums.l0.x : List (PE × Pt) := [(.ret, ⟨⟨28, [(2, .one (.t (.int .i64) 2 2002)), (3, .one (.v .bool))], [], []⟩, (List Int) × Bool, fun v => (v.1.1, v.1.2.1), fun v => ((v.1, v.2, ()), ()), by intro v; kernel_rfl⟩), (.exit 0, ⟨⟨28, [(4, .one (.t (.int .i64) 2 1001))], [], []⟩, (List Int), fun v => v.1.1, fun v => ((v, ()), ()), by intro v; kernel_rfl⟩)]
noncomputable def digits_Nums.l0.d (k : Nat) : CD Tryd.prog GL [] := .loop (digits_Nums.V k) (bodyOf Tryd.f72).M.M.L.M.L.L .no digits_Nums.l0.s digits_Nums.l0.x (fun n v => digits_Nums.l0 k n v.1 v.2.1 v.2.2.1 v.2.2.2) k (by kernel_rfl) (fun _ => rfl) (by intro n v; kernel_rfl)
noncomputable def digits_Nums.fd (k : Nat) : FD Tryd.prog GL := .of (digits_Nums.V k) 72 Tryd.f72 Tryd.func72 [(.list .str, false)] [(.list (.int .i64), false), (.bool, false)] id (fun v => digits_Nums.f k v.1) (fun v => (v.1, v.2.1)) (fun v => (v.1, v.2, ())) (.node .no (.node .no (.node (.node .no (.node (.cut (digits_Nums.l0.d k)) .no)) .no))) (by kernel_rfl) (by intro x; kernel_rfl) (by kernel_rfl) (by intro v; kernel_rfl)
/-! delta_Read -/
def delta_Read.f (k : Nat) (line1 : ByteArray) : Option ((Int × Int × (List Int)) × Bool) :=
  (digits_Words.f k line1).bind fun y2 =>
  if 0 ≤ (0 : Int) ∧ (0 : Int) < List.length y2 then
  (x_Index (bs [32, 43, 61, 45]) (rdT .str y2 (0 : Int))).bind fun y3 =>
  if 0 ≤ (0 : Int) ∧ (0 : Int) < List.length y2 then
  if (((rdT .str y2 (0 : Int)).size : Int) != (1 : Int)) = true then
    some (((0 : Int), (0 : Int), ([] : List Int)), false)
  else
  if (decide (y3 < (1 : Int))) = true then
    some (((0 : Int), (0 : Int), ([] : List Int)), false)
  else
  if (decide ((List.length y2 : Int) < (2 : Int))) = true then
    some (((0 : Int), (0 : Int), ([] : List Int)), false)
  else
  if 0 ≤ (1 : Int) ∧ (1 : Int) ≤ (List.length y2 : Int) ∧ (List.length y2 : Int) ≤ (List.length y2 : Int) then
  (digits_Nums.f k (cutL y2 (1 : Int) (List.length y2 : Int))).bind fun y4 =>
  if (!y4.2) = true then
    some (((0 : Int), (0 : Int), ([] : List Int)), false)
  else
  if 0 ≤ (0 : Int) ∧ (0 : Int) < List.length y4.1 then
  if (decide ((rdT (.int .i64) y4.1 (0 : Int)) < (0 : Int))) = true then
    some (((0 : Int), (0 : Int), ([] : List Int)), false)
  else
  if 0 ≤ (0 : Int) ∧ (0 : Int) < List.length y4.1 then
  if 0 ≤ (1 : Int) ∧ (1 : Int) ≤ (List.length y4.1 : Int) ∧ (List.length y4.1 : Int) ≤ (List.length y4.1 : Int) then
  (delta_may.f k (y3, (rdT (.int .i64) y4.1 (0 : Int)), (cutL y4.1 (1 : Int) (List.length y4.1 : Int)))).bind fun y5 =>
  if (!y5) = true then
    some (((0 : Int), (0 : Int), ([] : List Int)), false)
  else
  some ((y3, (rdT (.int .i64) y4.1 (0 : Int)), (cutL y4.1 (1 : Int) (List.length y4.1 : Int))), true)
  else none
  else none
  else none
  else none
  else none
  else none
@[reducible] noncomputable def delta_Read.V (k : Nat) : Env Tryd.prog GL := mkV [digits_Words.fd k, x_Index_fd, digits_Nums.fd k, delta_may.fd k]
noncomputable def delta_Read.fd (k : Nat) : FD Tryd.prog GL := .of (delta_Read.V k) 44 Tryd.f44 Tryd.func44 [(.str, false)] [(.pair (.int .i64) (.pair (.int .i64) (.list (.int .i64))), true), (.bool, false)] id (fun v => delta_Read.f k v.1) (fun v => (v.1, v.2.1)) (fun v => (v.1, v.2, ())) (.node .no (.node .no (.node .no (.node .no (.node .no (.view [⟨57, [(2, .one (.p 2 0)), (5, .one (.v (.int .i64))), (6, .one (.v (.list (.int .i64)))), (7, .one (.v .bool))], [(2, [.v (.int .i64), .v (.int .i64), .t (.int .i64) 2 2001])], []⟩] .no .no)))))) (by kernel_rfl) (by intro x; kernel_rfl) (by kernel_rfl) (by intro v; kernel_rfl)
/-! ref03_Nums -/
def ref03_Nums.l0 (k : Nat) : Nat → (List Int) → (List Int) → Int → Option ((Bool) ⊕ (Unit))
  | 0, _, _, _ => none
  | n + 1, a3, b4, i5 =>
    if (decide (i5 < (List.length a3 : Int))) = true then
      if 0 ≤ i5 ∧ i5 < List.length a3 then
      if 0 ≤ i5 ∧ i5 < List.length b4 then
      if ((rdT (.int .i64) a3 i5) != (rdT (.int .i64) b4 i5)) = true then
        some (.inl false)
      else
      ref03_Nums.l0 k n a3 b4 (wrap64 (i5 + (1 : Int)))
      else none
      else none
    else
    some (.inr ())
def ref03_Nums.f (k : Nat) (a1 : (List Int)) (b2 : (List Int)) : Option (Bool) :=
  if ((List.length a1 : Int) != (List.length b2 : Int)) = true then
    some false
  else
  (ref03_Nums.l0 k k a1 b2 (0 : Int)).bind fun r => match r with
  | .inl r6 =>
    some r6
  | .inr r7 =>
    some true
@[reducible] noncomputable def ref03_Nums.V (k : Nat) : Env Tryd.prog GL := mkV []
def ref03_Nums.l0.s : Pt := ⟨⟨26, [(0, .one (.v (.list (.int .i64)))), (1, .one (.v (.list (.int .i64)))), (5, .one (.v (.int .i64)))], [], []⟩, (List Int) × (List Int) × Int, fun v => (v.1.1, v.1.2.1, v.1.2.2.1), fun v => ((v.1, v.2.1, v.2.2, ()), ()), by intro v; kernel_rfl⟩
def ref03_Nums.l0.x : List (PE × Pt) := [(.ret, ⟨⟨26, [(4, .one (.v .bool))], [], []⟩, Bool, fun v => v.1.1, fun v => ((v, ()), ()), by intro v; kernel_rfl⟩), (.exit 0, ⟨⟨26, [], [], []⟩, Unit, fun v => (), fun v => ((), ()), by intro v; kernel_rfl⟩)]
noncomputable def ref03_Nums.l0.d (k : Nat) : CD Tryd.prog GL [] := .loop (ref03_Nums.V k) (bodyOf Tryd.f64).M.M.L.M.L.L .no ref03_Nums.l0.s ref03_Nums.l0.x (fun n v => ref03_Nums.l0 k n v.1 v.2.1 v.2.2) k (by kernel_rfl) (fun _ => rfl) (by intro n v; kernel_rfl)
noncomputable def ref03_Nums.fd (k : Nat) : FD Tryd.prog GL := .of (ref03_Nums.V k) 64 Tryd.f64 Tryd.func64 [(.list (.int .i64), false), (.list (.int .i64), false)] [(.bool, false)] id (fun v => ref03_Nums.f k v.1 v.2.1) (fun v => v.1) (fun v => (v, ())) (.node .no (.node .no (.node (.node .no (.node (.cut (ref03_Nums.l0.d k)) .no)) .no))) (by kernel_rfl) (by intro x; kernel_rfl) (by kernel_rfl) (by intro v; kernel_rfl)
/-! ref16_Same -/
def ref16_Same.l0 (k : Nat) : Nat → (List (Int × Int × (List Int))) → (List (Int × Int × (List Int))) → Int → Option ((Bool) ⊕ (Unit))
  | 0, _, _, _ => none
  | n + 1, a3, b4, i5 =>
    if (decide (i5 < (List.length a3 : Int))) = true then
      if 0 ≤ i5 ∧ i5 < List.length a3 then
      if 0 ≤ i5 ∧ i5 < List.length b4 then
      if ((rdT (.pair (.int .i64) (.pair (.int .i64) (.list (.int .i64)))) a3 i5).1 != (rdT (.pair (.int .i64) (.pair (.int .i64) (.list (.int .i64)))) b4 i5).1) = true then
        some (.inl false)
      else
      if 0 ≤ i5 ∧ i5 < List.length a3 then
      if 0 ≤ i5 ∧ i5 < List.length b4 then
      if ((rdT (.pair (.int .i64) (.pair (.int .i64) (.list (.int .i64)))) a3 i5).2.1 != (rdT (.pair (.int .i64) (.pair (.int .i64) (.list (.int .i64)))) b4 i5).2.1) = true then
        some (.inl false)
      else
      if 0 ≤ i5 ∧ i5 < List.length a3 then
      if 0 ≤ i5 ∧ i5 < List.length b4 then
      (ref03_Nums.f k (rdT (.pair (.int .i64) (.pair (.int .i64) (.list (.int .i64)))) a3 i5).2.2 (rdT (.pair (.int .i64) (.pair (.int .i64) (.list (.int .i64)))) b4 i5).2.2).bind fun y6 =>
      if (!y6) = true then
        some (.inl false)
      else
      ref16_Same.l0 k n a3 b4 (wrap64 (i5 + (1 : Int)))
      else none
      else none
      else none
      else none
      else none
      else none
    else
    some (.inr ())
def ref16_Same.f (k : Nat) (a1 : (List (Int × Int × (List Int)))) (b2 : (List (Int × Int × (List Int)))) : Option (Bool) :=
  if ((List.length a1 : Int) != (List.length b2 : Int)) = true then
    some false
  else
  (ref16_Same.l0 k k a1 b2 (0 : Int)).bind fun r => match r with
  | .inl r7 =>
    some r7
  | .inr r8 =>
    some true
@[reducible] noncomputable def ref16_Same.V (k : Nat) : Env Tryd.prog GL := mkV [ref03_Nums.fd k]
def ref16_Same.l0.s : Pt := ⟨⟨55, [(0, .one (.v (.list (.pair (.int .i64) (.pair (.int .i64) (.list (.int .i64))))))), (1, .one (.v (.list (.pair (.int .i64) (.pair (.int .i64) (.list (.int .i64))))))), (5, .one (.v (.int .i64)))], [], []⟩, (List (Int × Int × (List Int))) × (List (Int × Int × (List Int))) × Int, fun v => (v.1.1, v.1.2.1, v.1.2.2.1), fun v => ((v.1, v.2.1, v.2.2, ()), ()), by intro v; kernel_rfl⟩
def ref16_Same.l0.x : List (PE × Pt) := [(.ret, ⟨⟨55, [(4, .one (.v .bool))], [], []⟩, Bool, fun v => v.1.1, fun v => ((v, ()), ()), by intro v; kernel_rfl⟩), (.exit 0, ⟨⟨55, [], [], []⟩, Unit, fun v => (), fun v => ((), ()), by intro v; kernel_rfl⟩)]
noncomputable def ref16_Same.l0.d (k : Nat) : CD Tryd.prog GL [] := .loop (ref16_Same.V k) (bodyOf Tryd.f46).M.M.L.M.L.L (.node .no (.node (.node (.node .no (.view [⟨55, [(0, .one (.v (.list (.pair (.int .i64) (.pair (.int .i64) (.list (.int .i64))))))), (1, .one (.v (.list (.pair (.int .i64) (.pair (.int .i64) (.list (.int .i64))))))), (5, .one (.v (.int .i64))), (54, .one (.v .bool))], [], []⟩] .no .no)) .no) .no)) ref16_Same.l0.s ref16_Same.l0.x (fun n v => ref16_Same.l0 k n v.1 v.2.1 v.2.2) k (by kernel_rfl) (fun _ => rfl) (by intro n v; kernel_rfl)
noncomputable def ref16_Same.fd (k : Nat) : FD Tryd.prog GL := .of (ref16_Same.V k) 46 Tryd.f46 Tryd.func46 [(.list (.pair (.int .i64) (.pair (.int .i64) (.list (.int .i64)))), false), (.list (.pair (.int .i64) (.pair (.int .i64) (.list (.int .i64)))), false)] [(.bool, false)] id (fun v => ref16_Same.f k v.1 v.2.1) (fun v => v.1) (fun v => (v, ())) (.node .no (.node .no (.node (.node .no (.node (.cut (ref16_Same.l0.d k)) .no)) .no))) (by kernel_rfl) (by intro x; kernel_rfl) (by kernel_rfl) (by intro v; kernel_rfl)
/-! law32_DeltaLines -/
def law32_DeltaLines.f (k : Nat) (d1 : (Int × Int × (List Int))) (line2 : ByteArray) : Option (Bool) :=
  if (decide ((100 : Int) < (List.length d1.2.2 : Int))) = true then
    (law32_lives.f k).bind fun y3 =>
    some y3
  else
  if (decide ((1000 : Int) < (line2.size : Int))) = true then
    (law32_lives.f k).bind fun y4 =>
    some y4
  else
  (ref32_Line.f k d1).bind fun y5 =>
  (delta_Read.f k y5).bind fun y6 =>
  (delta_Read.f k line2).bind fun y7 =>
  (delta_Line.f k d1).bind fun y8 =>
  if (!(y8.toList == y5.toList)) = true then
    some false
  else
  if (!(y6.2 == (!(y5.toList == (bs []).toList)))) = true then
    some false
  else
  if y6.2 = true then
    (ref16_Same.f k [y6.1] [d1]).bind fun y9 =>
    if (!y9) = true then
      some false
    else
    if y7.2 = true then
      (ref32_Line.f k y7.1).bind fun y10 =>
      if (y10.toList == line2.toList) = true then
        (law32_lives.f k).bind fun y11 =>
        some y11
      else
      if (!y7.2) = true then
        (ref16_Same.f k [y7.1] [((0 : Int), (0 : Int), ([] : List Int))]).bind fun y12 =>
        if y12 = true then
          (law32_lives.f k).bind fun y13 =>
          some y13
        else
        some false
      else
      some false
    else
    if (!y7.2) = true then
      (ref16_Same.f k [y7.1] [((0 : Int), (0 : Int), ([] : List Int))]).bind fun y14 =>
      if y14 = true then
        (law32_lives.f k).bind fun y15 =>
        some y15
      else
      some false
    else
    some false
  else
  if y7.2 = true then
    (ref32_Line.f k y7.1).bind fun y16 =>
    if (y16.toList == line2.toList) = true then
      (law32_lives.f k).bind fun y17 =>
      some y17
    else
    if (!y7.2) = true then
      (ref16_Same.f k [y7.1] [((0 : Int), (0 : Int), ([] : List Int))]).bind fun y18 =>
      if y18 = true then
        (law32_lives.f k).bind fun y19 =>
        some y19
      else
      some false
    else
    some false
  else
  if (!y7.2) = true then
    (ref16_Same.f k [y7.1] [((0 : Int), (0 : Int), ([] : List Int))]).bind fun y20 =>
    if y20 = true then
      (law32_lives.f k).bind fun y21 =>
      some y21
    else
    some false
  else
  some false
@[reducible] noncomputable def law32_DeltaLines.V (k : Nat) : Env Tryd.prog GL := mkV [law32_lives.fd k, ref32_Line.fd k, delta_Read.fd k, delta_Line.fd k, ref16_Same.fd k]
theorem law32_DeltaLines.con (k : Nat) (v : DT [(.pair (.int .i64) (.pair (.int .i64) (.list (.int .i64))), true), (.str, false)]) (y : Bool) (h : (fun v => law32_DeltaLines.f k v.1 v.2.1) (id v) = some y) : Con Tryd.prog GL 9 ((putD [(.pair (.int .i64) (.pair (.int .i64) (.list (.int .i64))), true), (.str, false)] v).map .p) [] (.ret (putR [(.bool, false)] ((fun v => (v, ())) y))) [] := con_of (law32_DeltaLines.V k) 9 Tryd.f9 Tryd.func9 [(.pair (.int .i64) (.pair (.int .i64) (.list (.int .i64))), true), (.str, false)] [(.bool, false)] id (fun v => law32_DeltaLines.f k v.1 v.2.1) (fun v => v.1) (fun v => (v, ())) (.node .no (.node .no (.node .no (.node .no (.node .no (.view [⟨74, [(1, .one (.v .str)), (2, .one (.p 2 0)), (5, .one (.v .str)), (6, .one (.p 6 0)), (7, .one (.v .bool)), (8, .one (.p 8 0)), (9, .one (.v .bool))], [(2, [.v (.int .i64), .v (.int .i64), .v (.list (.int .i64))]), (6, [.v (.int .i64), .v (.int .i64), .v (.list (.int .i64))]), (8, [.v (.int .i64), .v (.int .i64), .v (.list (.int .i64))])], []⟩] .no .no)))))) (by kernel_rfl) (by intro x; kernel_rfl) (by kernel_rfl) (by intro v; kernel_rfl) v y h
/-! record_Read -/
def record_Read.j0 (k : Nat) (l4 : (List ByteArray)) (nums5 : (List Int)) (x6 : Int) (x7 : Int) (x8 : Int) (x9 : (List Int)) (r10 : Int) (r11 : Int) (r12 : Int) (r13 : (List Int)) : Option ((Bool × Int × Int × Int × (List Int)) ⊕ ((List Int) × Int × Int × Int × (List Int) × Int × Int × Int × (List Int))) :=
  if 0 ≤ (0 : Int) ∧ (0 : Int) < List.length l4 then
  if ((rdT .str l4 (0 : Int)).toList == (bs [119]).toList) = true then
    if (decide ((1 : Int) < (List.length nums5 : Int))) = true then
      some (.inl (false, (0 : Int), (0 : Int), (0 : Int), ([] : List Int)))
    else
    some (.inl (true, (2 : Int), r11, r12, r13))
  else
  if ((rdT .str l4 (0 : Int)).toList == (bs [120]).toList) = true then
    some (.inr (nums5, x6, x7, x8, x9, (3 : Int), r11, r12, r13))
  else
  if ((rdT .str l4 (0 : Int)).toList == (bs [101]).toList) = true then
    some (.inr (nums5, x6, x7, x8, x9, (1 : Int), r11, r12, r13))
  else
  some (.inl (false, (0 : Int), (0 : Int), (0 : Int), ([] : List Int)))
  else none
def record_Read.f (k : Nat) (line1 : ByteArray) : Option ((Int × Int × Int × (List Int)) × Bool) :=
  (digits_Words.f k line1).bind fun y2 =>
  if 0 ≤ (1 : Int) ∧ (1 : Int) ≤ (List.length y2 : Int) ∧ (List.length y2 : Int) ≤ (List.length y2 : Int) then
  (digits_Nums.f k (cutL y2 (1 : Int) (List.length y2 : Int))).bind fun y3 =>
  if (!y3.2) = true then
    some (((0 : Int), (0 : Int), (0 : Int), ([] : List Int)), false)
  else
  if ((List.length y3.1 : Int) == (0 : Int)) = true then
    some (((0 : Int), (0 : Int), (0 : Int), ([] : List Int)), false)
  else
  if 0 ≤ (0 : Int) ∧ (0 : Int) < List.length y3.1 then
  (record_Read.j0 k y2 y3.1 (0 : Int) (0 : Int) (0 : Int) ([] : List Int) (0 : Int) (rdT (.int .i64) y3.1 (0 : Int)) (0 : Int) ([] : List Int)).bind fun r => match r with
  | .inl r14 =>
    some (r14.2, r14.1)
  | .inr r15 =>
    if (decide ((List.length r15.1 : Int) < (2 : Int))) = true then
      some (((0 : Int), (0 : Int), (0 : Int), ([] : List Int)), false)
    else
    if (r15.2.2.2.2.2.1 == (3 : Int)) = true then
      if (decide ((2 : Int) < (List.length r15.1 : Int))) = true then
        some (((0 : Int), (0 : Int), (0 : Int), ([] : List Int)), false)
      else
      if 0 ≤ (1 : Int) ∧ (1 : Int) < List.length r15.1 then
      if 0 ≤ (2 : Int) ∧ (2 : Int) ≤ (List.length r15.1 : Int) ∧ (List.length r15.1 : Int) ≤ (List.length r15.1 : Int) then
      some ((r15.2.2.2.2.2.1, r15.2.2.2.2.2.2.1, (rdT (.int .i64) r15.1 (1 : Int)), (cutL r15.1 (2 : Int) (List.length r15.1 : Int))), true)
      else none
      else none
    else
    if 0 ≤ (1 : Int) ∧ (1 : Int) < List.length r15.1 then
    if 0 ≤ (2 : Int) ∧ (2 : Int) ≤ (List.length r15.1 : Int) ∧ (List.length r15.1 : Int) ≤ (List.length r15.1 : Int) then
    some ((r15.2.2.2.2.2.1, r15.2.2.2.2.2.2.1, (rdT (.int .i64) r15.1 (1 : Int)), (cutL r15.1 (2 : Int) (List.length r15.1 : Int))), true)
    else none
    else none
  else none
  else none
@[reducible] noncomputable def record_Read.V (k : Nat) : Env Tryd.prog GL := mkV [digits_Words.fd k, digits_Nums.fd k]
def record_Read.j0.s : Pt := ⟨⟨68, [(2, .one (.p 2 0)), (4, .one (.v (.list .str))), (5, .one (.v (.list (.int .i64)))), (7, .one (.p 7 0))], [(2, [.v (.int .i64), .v (.int .i64), .v (.int .i64), .t (.int .i64) 2 2001]), (7, [.v (.int .i64), .v (.int .i64), .v (.int .i64), .t (.int .i64) 2 2002])], []⟩, (List ByteArray) × (List Int) × Int × Int × Int × (List Int) × Int × Int × Int × (List Int), fun v => (v.1.2.1, v.1.2.2.1, v.2.1.1, v.2.1.2.1, v.2.1.2.2.1, v.2.1.2.2.2.1, v.2.2.1.1, v.2.2.1.2.1, v.2.2.1.2.2.1, v.2.2.1.2.2.2.1), fun v => (((), v.1, v.2.1, (), ()), ((v.2.2.1, v.2.2.2.1, v.2.2.2.2.1, v.2.2.2.2.2.1, ()), (v.2.2.2.2.2.2.1, v.2.2.2.2.2.2.2.1, v.2.2.2.2.2.2.2.2.1, v.2.2.2.2.2.2.2.2.2, ()), ())), by intro v; kernel_rfl⟩
def record_Read.j0.x : List (PE × Pt) := [(.ret, ⟨⟨68, [(2, .one (.p 2 0)), (3, .one (.v .bool))], [(2, [.v (.int .i64), .v (.int .i64), .v (.int .i64), .t (.int .i64) 2 1001])], []⟩, Bool × Int × Int × Int × (List Int), fun v => (v.1.2.1, v.2.1.1, v.2.1.2.1, v.2.1.2.2.1, v.2.1.2.2.2.1), fun v => (((), v.1, ()), ((v.2.1, v.2.2.1, v.2.2.2.1, v.2.2.2.2, ()), ())), by intro v; kernel_rfl⟩), (.normal, ⟨⟨68, [(2, .one (.p 2 0)), (5, .one (.v (.list (.int .i64)))), (7, .one (.p 7 0))], [(2, [.v (.int .i64), .v (.int .i64), .v (.int .i64), .t (.int .i64) 2 1001]), (7, [.v (.int .i64), .v (.int .i64), .v (.int .i64), .t (.int .i64) 2 1002])], []⟩, (List Int) × Int × Int × Int × (List Int) × Int × Int × Int × (List Int), fun v => (v.1.2.1, v.2.1.1, v.2.1.2.1, v.2.1.2.2.1, v.2.1.2.2.2.1, v.2.2.1.1, v.2.2.1.2.1, v.2.2.1.2.2.1, v.2.2.1.2.2.2.1), fun v => (((), v.1, (), ()), ((v.2.1, v.2.2.1, v.2.2.2.1, v.2.2.2.2.1, ()), (v.2.2.2.2.2.1, v.2.2.2.2.2.2.1, v.2.2.2.2.2.2.2.1, v.2.2.2.2.2.2.2.2, ()), ())), by intro v; kernel_rfl⟩)]
noncomputable def record_Read.j0.d (k : Nat) : CD Tryd.prog GL [] := .join (record_Read.V k) (bodyOf Tryd.f48).M.M.M.M.M.L (.node .no (.view [⟨68, [(2, .one (.p 2 0)), (5, .one (.v (.list (.int .i64)))), (7, .one (.p 7 0)), (30, .one (.v .str))], [(2, [.v (.int .i64), .v (.int .i64), .v (.int .i64), .t (.int .i64) 2 1001]), (7, [.v (.int .i64), .v (.int .i64), .v (.int .i64), .t (.int .i64) 2 1002])], []⟩] .no .no)) record_Read.j0.s record_Read.j0.x (fun v => record_Read.j0 k v.1 v.2.1 v.2.2.1 v.2.2.2.1 v.2.2.2.2.1 v.2.2.2.2.2.1 v.2.2.2.2.2.2.1 v.2.2.2.2.2.2.2.1 v.2.2.2.2.2.2.2.2.1 v.2.2.2.2.2.2.2.2.2) (by kernel_rfl) (by intro v; kernel_rfl)
noncomputable def record_Read.fd (k : Nat) : FD Tryd.prog GL := .of (record_Read.V k) 48 Tryd.f48 Tryd.func48 [(.str, false)] [(.pair (.int .i64) (.pair (.int .i64) (.pair (.int .i64) (.list (.int .i64)))), true), (.bool, false)] id (fun v => record_Read.f k v.1) (fun v => (v.1, v.2.1)) (fun v => (v.1, v.2, ())) (.node .no (.node .no (.node .no (.node .no (.node .no (.node (.cut (record_Read.j0.d k)) (.node .no (.node .no (.view [⟨68, [(2, .one (.p 2 0)), (7, .one (.p 7 0))], [(2, [.v (.int .i64), .v (.int .i64), .v (.int .i64), .t (.int .i64) 2 1001]), (7, [.v (.int .i64), .v (.int .i64), .v (.int .i64), .v (.list (.int .i64))])], []⟩] .no .no))))))))) (by kernel_rfl) (by intro x; kernel_rfl) (by kernel_rfl) (by intro v; kernel_rfl)
/-! law33_lives -/
def law33_lives.f (k : Nat) : Option (Bool) :=
  (record_Read.f k (bs [101, 32, 53, 32, 48, 32, 55, 32, 45, 49])).bind fun y1 =>
  if y1.2 = true then
    if (y1.1.1 == (1 : Int)) = true then
      if (y1.1.2.1 == (5 : Int)) = true then
        if (y1.1.2.2.1 == (0 : Int)) = true then
          if ((List.length y1.1.2.2.2 : Int) == (2 : Int)) = true then
            if 0 ≤ (1 : Int) ∧ (1 : Int) < List.length y1.1.2.2.2 then
            some ((rdT (.int .i64) y1.1.2.2.2 (1 : Int)) == (-1 : Int))
            else none
          else
          some false
        else
        some false
      else
      some false
    else
    some false
  else
  some false
@[reducible] noncomputable def law33_lives.V (k : Nat) : Env Tryd.prog GL := mkV [record_Read.fd k]
noncomputable def law33_lives.fd (k : Nat) : FD Tryd.prog GL := .of (law33_lives.V k) 27 Tryd.f27 Tryd.func27 [] [(.bool, false)] id (fun v => law33_lives.f k) (fun v => v.1) (fun v => (v, ())) .no (by kernel_rfl) (by intro x; kernel_rfl) (by kernel_rfl) (by intro v; kernel_rfl)
/-! record_May -/
def record_May.f (k : Nat) (r1 : (Int × Int × Int × (List Int))) : Option (Bool) :=
  if (r1.1 == (1 : Int)) = true then
    some true
  else
  if (r1.1 == (2 : Int)) = true then
    if (r1.2.2.1 != (0 : Int)) = true then
      some false
    else
    some ((List.length r1.2.2.2 : Int) == (0 : Int))
  else
  if (r1.1 == (3 : Int)) = true then
    some ((List.length r1.2.2.2 : Int) == (0 : Int))
  else
  some false
@[reducible] noncomputable def record_May.V (k : Nat) : Env Tryd.prog GL := mkV []
noncomputable def record_May.fd (k : Nat) : FD Tryd.prog GL := .of (record_May.V k) 50 Tryd.f50 Tryd.func50 [(.pair (.int .i64) (.pair (.int .i64) (.pair (.int .i64) (.list (.int .i64)))), true)] [(.bool, false)] id (fun v => record_May.f k v.1) (fun v => v.1) (fun v => (v, ())) .no (by kernel_rfl) (by intro x; kernel_rfl) (by kernel_rfl) (by intro v; kernel_rfl)
/-! record_words -/
def record_words.l0 (k : Nat) : Nat → (List ByteArray) → (List Int) → Int → Int → Option (((List ByteArray)))
  | 0, _, _, _, _ => none
  | n + 1, out2, x3, x4, x5 =>
    if (decide (x5 < x4)) = true then
      if 0 ≤ x5 ∧ x5 < List.length x3 then
      (digits_Put.f k (rdT (.int .i64) x3 x5)).bind fun y6 =>
      if (List.length out2 + List.length [y6]) * 16 ≤ 140737488355328 ∧ List.length out2 + List.length [y6] ≤ 9223372036854775807 then
      record_words.l0 k n (out2 ++ [y6]) x3 x4 (wrap64 (x5 + (1 : Int)))
      else none
      else none
    else
    some out2
def record_words.f (k : Nat) (l1 : (List Int)) : Option ((List ByteArray)) :=
  (record_words.l0 k k ([] : List ByteArray) l1 (List.length l1 : Int) (0 : Int)).bind fun r7 =>
  some r7
@[reducible] noncomputable def record_words.V (k : Nat) : Env Tryd.prog GL := mkV [digits_Put.fd k]
def record_words.l0.s : Pt := ⟨⟨19, [(3, .one (.t .str 9 1001)), (6, .one (.v (.list (.int .i64)))), (7, .one (.v (.int .i64))), (8, .one (.v (.int .i64)))], [], []⟩, (List ByteArray) × (List Int) × Int × Int, fun v => (v.1.1, v.1.2.1, v.1.2.2.1, v.1.2.2.2.1), fun v => ((v.1, v.2.1, v.2.2.1, v.2.2.2, ()), ()), by intro v; kernel_rfl⟩
def record_words.l0.x : List (PE × Pt) := [(.exit 0, ⟨⟨19, [(3, .one (.t .str 9 1001))], [], []⟩, (List ByteArray), fun v => v.1.1, fun v => ((v, ()), ()), by intro v; kernel_rfl⟩)]
noncomputable def record_words.l0.d (k : Nat) : CD Tryd.prog GL [] := .loop (record_words.V k) (bodyOf Tryd.f81).M.M.L.M.L.L .no record_words.l0.s record_words.l0.x (fun n v => record_words.l0 k n v.1 v.2.1 v.2.2.1 v.2.2.2) k (by kernel_rfl) (fun _ => rfl) (by intro n v; kernel_rfl)
noncomputable def record_words.fd (k : Nat) : FD Tryd.prog GL := .of (record_words.V k) 81 Tryd.f81 Tryd.func81 [(.list (.int .i64), false)] [(.list .str, false)] id (fun v => record_words.f k v.1) (fun v => v.1) (fun v => (v, ())) (.node .no (.node .no (.node (.node .no (.node (.cut (record_words.l0.d k)) .no)) .no))) (by kernel_rfl) (by intro x; kernel_rfl) (by kernel_rfl) (by intro v; kernel_rfl)
/-! record_Line -/
def record_Line.j0 (k : Nat) (sign3 : ByteArray) (nums4 : (List Int)) (r5 : Int) (r6 : Int) (r7 : Int) (r8 : (List Int)) : Option ((ByteArray × (List Int))) :=
  if (r5 == (2 : Int)) = true then
    if 0 ≤ (0 : Int) ∧ (0 : Int) ≤ (1 : Int) ∧ (1 : Int) ≤ (List.length nums4 : Int) then
    some ((bs [119]), (cutL nums4 (0 : Int) (1 : Int)))
    else none
  else
  if (r5 == (3 : Int)) = true then
    some ((bs [120]), nums4)
  else
  some (sign3, nums4)
def record_Line.f (k : Nat) (r1 : (Int × Int × Int × (List Int))) : Option (ByteArray) :=
  (record_May.f k r1).bind fun y2 =>
  if (!y2) = true then
    some (bs [])
  else
  if (List.length [r1.2.1, r1.2.2.1] + List.length r1.2.2.2) * 8 ≤ 140737488355328 ∧ List.length [r1.2.1, r1.2.2.1] + List.length r1.2.2.2 ≤ 9223372036854775807 then
  (record_Line.j0 k (bs [101]) ([r1.2.1, r1.2.2.1] ++ r1.2.2.2) r1.1 r1.2.1 r1.2.2.1 r1.2.2.2).bind fun r9 =>
  (record_words.f k r9.2).bind fun y10 =>
  if (List.length [r9.1] + List.length y10) * 16 ≤ 140737488355328 ∧ List.length [r9.1] + List.length y10 ≤ 9223372036854775807 then
  (x_Join ([r9.1] ++ y10) (bs [32])).bind fun y11 =>
  some y11
  else none
  else none
@[reducible] noncomputable def record_Line.V (k : Nat) : Env Tryd.prog GL := mkV [record_May.fd k, record_words.fd k, x_Join_fd]
def record_Line.j0.s : Pt := ⟨⟨30, [(1, .one (.p 1 0)), (3, .one (.v .str)), (4, .one (.t (.int .i64) 2 1001))], [(1, [.v (.int .i64), .v (.int .i64), .v (.int .i64), .v (.list (.int .i64))])], []⟩, ByteArray × (List Int) × Int × Int × Int × (List Int), fun v => (v.1.2.1, v.1.2.2.1, v.2.1.1, v.2.1.2.1, v.2.1.2.2.1, v.2.1.2.2.2.1), fun v => (((), v.1, v.2.1, ()), ((v.2.2.1, v.2.2.2.1, v.2.2.2.2.1, v.2.2.2.2.2, ()), ())), by intro v; kernel_rfl⟩
def record_Line.j0.x : List (PE × Pt) := [(.normal, ⟨⟨30, [(3, .one (.v .str)), (4, .one (.v (.list (.int .i64))))], [], []⟩, ByteArray × (List Int), fun v => (v.1.1, v.1.2.1), fun v => ((v.1, v.2, ()), ()), by intro v; kernel_rfl⟩)]
noncomputable def record_Line.j0.d (k : Nat) : CD Tryd.prog GL [] := .join (record_Line.V k) (bodyOf Tryd.f52).M.M.M.L .no record_Line.j0.s record_Line.j0.x (fun v => record_Line.j0 k v.1 v.2.1 v.2.2.1 v.2.2.2.1 v.2.2.2.2.1 v.2.2.2.2.2) (by kernel_rfl) (by intro v; kernel_rfl)
noncomputable def record_Line.fd (k : Nat) : FD Tryd.prog GL := .of (record_Line.V k) 52 Tryd.f52 Tryd.func52 [(.pair (.int .i64) (.pair (.int .i64) (.pair (.int .i64) (.list (.int .i64)))), true)] [(.str, false)] id (fun v => record_Line.f k v.1) (fun v => v.1) (fun v => (v, ())) (.node .no (.node .no (.node .no (.node (.cut (record_Line.j0.d k)) .no)))) (by kernel_rfl) (by intro x; kernel_rfl) (by kernel_rfl) (by intro v; kernel_rfl)
/-! ref33_Same -/
def ref33_Same.f (k : Nat) (a1 : (Int × Int × Int × (List Int))) (b2 : (Int × Int × Int × (List Int))) : Option (Bool) :=
  if (a1.1 == b2.1) = true then
    if (a1.2.1 == b2.2.1) = true then
      if (a1.2.2.1 == b2.2.2.1) = true then
        (ref03_Nums.f k a1.2.2.2 b2.2.2.2).bind fun y3 =>
        some y3
      else
      some false
    else
    some false
  else
  some false
@[reducible] noncomputable def ref33_Same.V (k : Nat) : Env Tryd.prog GL := mkV [ref03_Nums.fd k]
noncomputable def ref33_Same.fd (k : Nat) : FD Tryd.prog GL := .of (ref33_Same.V k) 31 Tryd.f31 Tryd.func31 [(.pair (.int .i64) (.pair (.int .i64) (.pair (.int .i64) (.list (.int .i64)))), true), (.pair (.int .i64) (.pair (.int .i64) (.pair (.int .i64) (.list (.int .i64)))), true)] [(.bool, false)] id (fun v => ref33_Same.f k v.1 v.2.1) (fun v => v.1) (fun v => (v, ())) .no (by kernel_rfl) (by intro x; kernel_rfl) (by kernel_rfl) (by intro v; kernel_rfl)
/-! cmp_isNaN_int64_ -/
def cmp_isNaN_int64_.f (k : Nat) (x1 : Int) : Option (Bool) :=
  some (x1 != x1)
@[reducible] noncomputable def cmp_isNaN_int64_.V (k : Nat) : Env Tryd.prog GL := mkV []
noncomputable def cmp_isNaN_int64_.fd (k : Nat) : FD Tryd.prog GL := .of (cmp_isNaN_int64_.V k) 83 Tryd.f83 Tryd.func83 [(.int .i64, false)] [(.bool, false)] id (fun v => cmp_isNaN_int64_.f k v.1) (fun v => v.1) (fun v => (v, ())) .no (by kernel_rfl) (by intro x; kernel_rfl) (by kernel_rfl) (by intro v; kernel_rfl)
/-! cmp_Compare_int64_ -/
def cmp_Compare_int64_.f (k : Nat) (x1 : Int) (y2 : Int) : Option (Int) :=
  (cmp_isNaN_int64_.f k x1).bind fun y3 =>
  (cmp_isNaN_int64_.f k y2).bind fun y4 =>
  if y3 = true then
    if y4 = true then
      some (0 : Int)
    else
    some (-1 : Int)
  else
  if y4 = true then
    some (1 : Int)
  else
  if (decide (x1 < y2)) = true then
    some (-1 : Int)
  else
  if (decide (y2 < x1)) = true then
    some (1 : Int)
  else
  some (0 : Int)
@[reducible] noncomputable def cmp_Compare_int64_.V (k : Nat) : Env Tryd.prog GL := mkV [cmp_isNaN_int64_.fd k]
noncomputable def cmp_Compare_int64_.fd (k : Nat) : FD Tryd.prog GL := .of (cmp_Compare_int64_.V k) 62 Tryd.f62 Tryd.func62 [(.int .i64, false), (.int .i64, false)] [(.int .i64, false)] id (fun v => cmp_Compare_int64_.f k v.1 v.2.1) (fun v => v.1) (fun v => (v, ())) .no (by kernel_rfl) (by intro x; kernel_rfl) (by kernel_rfl) (by intro v; kernel_rfl)
/-! cmp_Or_int_ -/
def cmp_Or_int_.l0 (k : Nat) : Nat → Int → (List Int) → Int → Int → Option ((Int) ⊕ (Int))
  | 0, _, _, _, _ => none
  | n + 1, zero2, x3, x4, x5 =>
    if (decide (x5 < x4)) = true then
      if 0 ≤ x5 ∧ x5 < List.length x3 then
      if ((rdT (.int .i64) x3 x5) != zero2) = true then
        some (.inl (rdT (.int .i64) x3 x5))
      else
      cmp_Or_int_.l0 k n zero2 x3 x4 (wrap64 (x5 + (1 : Int)))
      else none
    else
    some (.inr zero2)
def cmp_Or_int_.f (k : Nat) (vals1 : (List Int)) : Option (Int) :=
  (cmp_Or_int_.l0 k k (0 : Int) vals1 (List.length vals1 : Int) (0 : Int)).bind fun r => match r with
  | .inl r6 =>
    some r6
  | .inr r7 =>
    some r7
@[reducible] noncomputable def cmp_Or_int_.V (k : Nat) : Env Tryd.prog GL := mkV []
def cmp_Or_int_.l0.s : Pt := ⟨⟨18, [(3, .one (.v (.int .i64))), (6, .one (.v (.list (.int .i64)))), (7, .one (.v (.int .i64))), (8, .one (.v (.int .i64)))], [], []⟩, Int × (List Int) × Int × Int, fun v => (v.1.1, v.1.2.1, v.1.2.2.1, v.1.2.2.2.1), fun v => ((v.1, v.2.1, v.2.2.1, v.2.2.2, ()), ()), by intro v; kernel_rfl⟩
def cmp_Or_int_.l0.x : List (PE × Pt) := [(.ret, ⟨⟨18, [(2, .one (.v (.int .i64)))], [], []⟩, Int, fun v => v.1.1, fun v => ((v, ()), ()), by intro v; kernel_rfl⟩), (.exit 0, ⟨⟨18, [(3, .one (.v (.int .i64)))], [], []⟩, Int, fun v => v.1.1, fun v => ((v, ()), ()), by intro v; kernel_rfl⟩)]
noncomputable def cmp_Or_int_.l0.d (k : Nat) : CD Tryd.prog GL [] := .loop (cmp_Or_int_.V k) (bodyOf Tryd.f61).M.M.L.M.L.L .no cmp_Or_int_.l0.s cmp_Or_int_.l0.x (fun n v => cmp_Or_int_.l0 k n v.1 v.2.1 v.2.2.1 v.2.2.2) k (by kernel_rfl) (fun _ => rfl) (by intro n v; kernel_rfl)
noncomputable def cmp_Or_int_.fd (k : Nat) : FD Tryd.prog GL := .of (cmp_Or_int_.V k) 61 Tryd.f61 Tryd.func61 [(.list (.int .i64), false)] [(.int .i64, false)] id (fun v => cmp_Or_int_.f k v.1) (fun v => v.1) (fun v => (v, ())) (.node .no (.node .no (.node (.node .no (.node (.cut (cmp_Or_int_.l0.d k)) .no)) .no))) (by kernel_rfl) (by intro x; kernel_rfl) (by kernel_rfl) (by intro v; kernel_rfl)
/-! record_Cmp -/
def record_Cmp.f (k : Nat) (a1 : (Int × Int × Int × (List Int))) (b2 : (Int × Int × Int × (List Int))) : Option (Int) :=
  (cmp_Compare_int64_.f k a1.2.1 b2.2.1).bind fun y3 =>
  (cmp_Compare_int64_.f k a1.2.2.1 b2.2.2.1).bind fun y4 =>
  (cmp_Or_int_.f k [y3, y4]).bind fun y5 =>
  some y5
@[reducible] noncomputable def record_Cmp.V (k : Nat) : Env Tryd.prog GL := mkV [cmp_Compare_int64_.fd k, cmp_Or_int_.fd k]
noncomputable def record_Cmp.fd (k : Nat) : FD Tryd.prog GL := .of (record_Cmp.V k) 29 Tryd.f29 Tryd.func29 [(.pair (.int .i64) (.pair (.int .i64) (.pair (.int .i64) (.list (.int .i64)))), true), (.pair (.int .i64) (.pair (.int .i64) (.pair (.int .i64) (.list (.int .i64)))), true)] [(.int .i64, false)] id (fun v => record_Cmp.f k v.1 v.2.1) (fun v => v.1) (fun v => (v, ())) .no (by kernel_rfl) (by intro x; kernel_rfl) (by kernel_rfl) (by intro v; kernel_rfl)
/-! law33_RecordBack -/
def law33_RecordBack.l0 (k : Nat) : Nat → ByteArray → Int → Int → Int → (List Int) → Int → Int → Int → (List Int) → Int → Int → Int → (List Int) → Int → Int → Int → Int → (List Int) → Int → Int → Int → (List Int) → Int → Int → Int → (List Int) → Option ((Bool) ⊕ (ByteArray × Int × Int × Int × (List Int) × Int × Int × Int × (List Int) × Int × Int × Int × (List Int)))
  | 0, _, _, _, _, _, _, _, _, _, _, _, _, _, _, _, _, _, _, _, _, _, _, _, _, _, _ => none
  | n + 1, line4, x5, x6, x7, x8, x9, x10, x11, x12, x13, x14, x15, x16, x17, l18, l19, l20, l21, l22, l23, l24, l25, l26, l27, l28, l29 =>
    if (decide (x17 < (3 : Int))) = true then
      if 0 ≤ x17 ∧ x17 < ((3 : Nat) : Int) then
      if (decide ((200 : Int) < (List.length (rdT (.pair (.int .i64) (.pair (.int .i64) (.pair (.int .i64) (.list (.int .i64))))) [(x5, x6, x7, x8), (x9, x10, x11, x12), (x13, x14, x15, x16)] x17).2.2.2 : Int))) = true then
        (law33_lives.f k).bind fun y30 =>
        some (.inl y30)
      else
      (record_Line.f k ((rdT (.pair (.int .i64) (.pair (.int .i64) (.pair (.int .i64) (.list (.int .i64))))) [(x5, x6, x7, x8), (x9, x10, x11, x12), (x13, x14, x15, x16)] x17).1, (rdT (.pair (.int .i64) (.pair (.int .i64) (.pair (.int .i64) (.list (.int .i64))))) [(x5, x6, x7, x8), (x9, x10, x11, x12), (x13, x14, x15, x16)] x17).2.1, (rdT (.pair (.int .i64) (.pair (.int .i64) (.pair (.int .i64) (.list (.int .i64))))) [(x5, x6, x7, x8), (x9, x10, x11, x12), (x13, x14, x15, x16)] x17).2.2.1, (rdT (.pair (.int .i64) (.pair (.int .i64) (.pair (.int .i64) (.list (.int .i64))))) [(x5, x6, x7, x8), (x9, x10, x11, x12), (x13, x14, x15, x16)] x17).2.2.2)).bind fun y31 =>
      (record_Read.f k y31).bind fun y32 =>
      (record_May.f k ((rdT (.pair (.int .i64) (.pair (.int .i64) (.pair (.int .i64) (.list (.int .i64))))) [(x5, x6, x7, x8), (x9, x10, x11, x12), (x13, x14, x15, x16)] x17).1, (rdT (.pair (.int .i64) (.pair (.int .i64) (.pair (.int .i64) (.list (.int .i64))))) [(x5, x6, x7, x8), (x9, x10, x11, x12), (x13, x14, x15, x16)] x17).2.1, (rdT (.pair (.int .i64) (.pair (.int .i64) (.pair (.int .i64) (.list (.int .i64))))) [(x5, x6, x7, x8), (x9, x10, x11, x12), (x13, x14, x15, x16)] x17).2.2.1, (rdT (.pair (.int .i64) (.pair (.int .i64) (.pair (.int .i64) (.list (.int .i64))))) [(x5, x6, x7, x8), (x9, x10, x11, x12), (x13, x14, x15, x16)] x17).2.2.2)).bind fun y33 =>
      if (!(y33 == (!(y31.toList == (bs []).toList)))) = true then
        some (.inl false)
      else
      if (!(y32.2 == (!(y31.toList == (bs []).toList)))) = true then
        some (.inl false)
      else
      if y32.2 = true then
        (ref33_Same.f k y32.1 ((rdT (.pair (.int .i64) (.pair (.int .i64) (.pair (.int .i64) (.list (.int .i64))))) [(x5, x6, x7, x8), (x9, x10, x11, x12), (x13, x14, x15, x16)] x17).1, (rdT (.pair (.int .i64) (.pair (.int .i64) (.pair (.int .i64) (.list (.int .i64))))) [(x5, x6, x7, x8), (x9, x10, x11, x12), (x13, x14, x15, x16)] x17).2.1, (rdT (.pair (.int .i64) (.pair (.int .i64) (.pair (.int .i64) (.list (.int .i64))))) [(x5, x6, x7, x8), (x9, x10, x11, x12), (x13, x14, x15, x16)] x17).2.2.1, (rdT (.pair (.int .i64) (.pair (.int .i64) (.pair (.int .i64) (.list (.int .i64))))) [(x5, x6, x7, x8), (x9, x10, x11, x12), (x13, x14, x15, x16)] x17).2.2.2)).bind fun y34 =>
        if (!y34) = true then
          some (.inl false)
        else
        law33_RecordBack.l0 k n line4 x5 x6 x7 x8 x9 x10 x11 x12 x13 x14 x15 x16 (wrap64 (x17 + (1 : Int))) l18 l19 l20 l21 l22 l23 l24 l25 l26 l27 l28 l29
      else
      law33_RecordBack.l0 k n line4 x5 x6 x7 x8 x9 x10 x11 x12 x13 x14 x15 x16 (wrap64 (x17 + (1 : Int))) l18 l19 l20 l21 l22 l23 l24 l25 l26 l27 l28 l29
      else none
    else
    some (.inr (line4, l18, l19, l20, l21, l22, l23, l24, l25, l26, l27, l28, l29))
def law33_RecordBack.f (k : Nat) (l1 : ((Int × Int × Int × (List Int)) × (Int × Int × Int × (List Int)) × Int × Int × Int × (List Int))) (line2 : ByteArray) : Option (Bool) :=
  if (decide ((3000 : Int) < (line2.size : Int))) = true then
    (law33_lives.f k).bind fun y3 =>
    some y3
  else
  (law33_RecordBack.l0 k k line2 l1.1.1 l1.1.2.1 l1.1.2.2.1 l1.1.2.2.2 l1.2.1.1 l1.2.1.2.1 l1.2.1.2.2.1 l1.2.1.2.2.2 l1.2.2.1 l1.2.2.2.1 l1.2.2.2.2.1 l1.2.2.2.2.2 (0 : Int) l1.1.1 l1.1.2.1 l1.1.2.2.1 l1.1.2.2.2 l1.2.1.1 l1.2.1.2.1 l1.2.1.2.2.1 l1.2.1.2.2.2 l1.2.2.1 l1.2.2.2.1 l1.2.2.2.2.1 l1.2.2.2.2.2).bind fun r => match r with
  | .inl r35 =>
    some r35
  | .inr r36 =>
    (record_Read.f k r36.1).bind fun y37 =>
    if y37.2 = true then
      (record_Line.f k y37.1).bind fun y38 =>
      if (!(y38.toList == r36.1.toList)) = true then
        some false
      else
      if 0 ≤ (0 : Int) ∧ (0 : Int) < (3 : Nat) then
      if 0 ≤ (1 : Int) ∧ (1 : Int) < (3 : Nat) then
      (record_Cmp.f k (r36.2.1, r36.2.2.1, r36.2.2.2.1, r36.2.2.2.2.1) (r36.2.2.2.2.2.1, r36.2.2.2.2.2.2.1, r36.2.2.2.2.2.2.2.1, r36.2.2.2.2.2.2.2.2.1)).bind fun y39 =>
      if 0 ≤ (1 : Int) ∧ (1 : Int) < (3 : Nat) then
      if 0 ≤ (2 : Int) ∧ (2 : Int) < (3 : Nat) then
      (record_Cmp.f k (r36.2.2.2.2.2.1, r36.2.2.2.2.2.2.1, r36.2.2.2.2.2.2.2.1, r36.2.2.2.2.2.2.2.2.1) r36.2.2.2.2.2.2.2.2.2).bind fun y40 =>
      if 0 ≤ (0 : Int) ∧ (0 : Int) < (3 : Nat) then
      if 0 ≤ (2 : Int) ∧ (2 : Int) < (3 : Nat) then
      (record_Cmp.f k (r36.2.1, r36.2.2.1, r36.2.2.2.1, r36.2.2.2.2.1) r36.2.2.2.2.2.2.2.2.2).bind fun y41 =>
      if 0 ≤ (1 : Int) ∧ (1 : Int) < (3 : Nat) then
      if 0 ≤ (0 : Int) ∧ (0 : Int) < (3 : Nat) then
      (record_Cmp.f k (r36.2.2.2.2.2.1, r36.2.2.2.2.2.2.1, r36.2.2.2.2.2.2.2.1, r36.2.2.2.2.2.2.2.2.1) (r36.2.1, r36.2.2.1, r36.2.2.2.1, r36.2.2.2.2.1)).bind fun y42 =>
      if (y42 == (wrap64 (0 - y39))) = true then
        if (decide (y39 < (0 : Int))) = true then
          if (decide ((0 : Int) < y39)) = true then
            (law33_lives.f k).bind fun y43 =>
            some y43
          else
          if (decide ((0 : Int) < y40)) = true then
            (law33_lives.f k).bind fun y44 =>
            some y44
          else
          if (decide (y41 ≤ (0 : Int))) = true then
            (law33_lives.f k).bind fun y45 =>
            some y45
          else
          some false
        else
        if (decide (y40 < (0 : Int))) = true then
          if (decide ((0 : Int) < y39)) = true then
            (law33_lives.f k).bind fun y46 =>
            some y46
          else
          if (decide ((0 : Int) < y40)) = true then
            (law33_lives.f k).bind fun y47 =>
            some y47
          else
          if (decide (y41 ≤ (0 : Int))) = true then
            (law33_lives.f k).bind fun y48 =>
            some y48
          else
          some false
        else
        if (decide ((0 : Int) ≤ y41)) = true then
          if (decide ((0 : Int) < y39)) = true then
            (law33_lives.f k).bind fun y49 =>
            some y49
          else
          if (decide ((0 : Int) < y40)) = true then
            (law33_lives.f k).bind fun y50 =>
            some y50
          else
          if (decide (y41 ≤ (0 : Int))) = true then
            (law33_lives.f k).bind fun y51 =>
            some y51
          else
          some false
        else
        some false
      else
      some false
      else none
      else none
      else none
      else none
      else none
      else none
      else none
      else none
    else
    if 0 ≤ (0 : Int) ∧ (0 : Int) < (3 : Nat) then
    if 0 ≤ (1 : Int) ∧ (1 : Int) < (3 : Nat) then
    (record_Cmp.f k (r36.2.1, r36.2.2.1, r36.2.2.2.1, r36.2.2.2.2.1) (r36.2.2.2.2.2.1, r36.2.2.2.2.2.2.1, r36.2.2.2.2.2.2.2.1, r36.2.2.2.2.2.2.2.2.1)).bind fun y52 =>
    if 0 ≤ (1 : Int) ∧ (1 : Int) < (3 : Nat) then
    if 0 ≤ (2 : Int) ∧ (2 : Int) < (3 : Nat) then
    (record_Cmp.f k (r36.2.2.2.2.2.1, r36.2.2.2.2.2.2.1, r36.2.2.2.2.2.2.2.1, r36.2.2.2.2.2.2.2.2.1) r36.2.2.2.2.2.2.2.2.2).bind fun y53 =>
    if 0 ≤ (0 : Int) ∧ (0 : Int) < (3 : Nat) then
    if 0 ≤ (2 : Int) ∧ (2 : Int) < (3 : Nat) then
    (record_Cmp.f k (r36.2.1, r36.2.2.1, r36.2.2.2.1, r36.2.2.2.2.1) r36.2.2.2.2.2.2.2.2.2).bind fun y54 =>
    if 0 ≤ (1 : Int) ∧ (1 : Int) < (3 : Nat) then
    if 0 ≤ (0 : Int) ∧ (0 : Int) < (3 : Nat) then
    (record_Cmp.f k (r36.2.2.2.2.2.1, r36.2.2.2.2.2.2.1, r36.2.2.2.2.2.2.2.1, r36.2.2.2.2.2.2.2.2.1) (r36.2.1, r36.2.2.1, r36.2.2.2.1, r36.2.2.2.2.1)).bind fun y55 =>
    if (y55 == (wrap64 (0 - y52))) = true then
      if (decide (y52 < (0 : Int))) = true then
        if (decide ((0 : Int) < y52)) = true then
          (law33_lives.f k).bind fun y56 =>
          some y56
        else
        if (decide ((0 : Int) < y53)) = true then
          (law33_lives.f k).bind fun y57 =>
          some y57
        else
        if (decide (y54 ≤ (0 : Int))) = true then
          (law33_lives.f k).bind fun y58 =>
          some y58
        else
        some false
      else
      if (decide (y53 < (0 : Int))) = true then
        if (decide ((0 : Int) < y52)) = true then
          (law33_lives.f k).bind fun y59 =>
          some y59
        else
        if (decide ((0 : Int) < y53)) = true then
          (law33_lives.f k).bind fun y60 =>
          some y60
        else
        if (decide (y54 ≤ (0 : Int))) = true then
          (law33_lives.f k).bind fun y61 =>
          some y61
        else
        some false
      else
      if (decide ((0 : Int) ≤ y54)) = true then
        if (decide ((0 : Int) < y52)) = true then
          (law33_lives.f k).bind fun y62 =>
          some y62
        else
        if (decide ((0 : Int) < y53)) = true then
          (law33_lives.f k).bind fun y63 =>
          some y63
        else
        if (decide (y54 ≤ (0 : Int))) = true then
          (law33_lives.f k).bind fun y64 =>
          some y64
        else
        some false
      else
      some false
    else
    some false
    else none
    else none
    else none
    else none
    else none
    else none
    else none
    else none
@[reducible] noncomputable def law33_RecordBack.V (k : Nat) : Env Tryd.prog GL := mkV [law33_lives.fd k, record_Line.fd k, record_Read.fd k, record_May.fd k, ref33_Same.fd k, record_Cmp.fd k]
def law33_RecordBack.l0.s : Pt := ⟨⟨118, [(1, .one (.v .str)), (2, .one (.p 2 0)), (19, .agg [.v (.int .i64), .v (.int .i64), .v (.int .i64), .v (.list (.int .i64)), .v (.int .i64), .v (.int .i64), .v (.int .i64), .v (.list (.int .i64)), .v (.int .i64), .v (.int .i64), .v (.int .i64), .v (.list (.int .i64))]), (20, .one (.v (.int .i64)))], [(2, [.v (.int .i64), .v (.int .i64), .v (.int .i64), .v (.list (.int .i64)), .v (.int .i64), .v (.int .i64), .v (.int .i64), .v (.list (.int .i64)), .v (.int .i64), .v (.int .i64), .v (.int .i64), .v (.list (.int .i64))])], []⟩, ByteArray × Int × Int × Int × (List Int) × Int × Int × Int × (List Int) × Int × Int × Int × (List Int) × Int × Int × Int × Int × (List Int) × Int × Int × Int × (List Int) × Int × Int × Int × (List Int), fun v => (v.1.1, v.1.2.2.1.1, v.1.2.2.1.2.1, v.1.2.2.1.2.2.1, v.1.2.2.1.2.2.2.1, v.1.2.2.1.2.2.2.2.1, v.1.2.2.1.2.2.2.2.2.1, v.1.2.2.1.2.2.2.2.2.2.1, v.1.2.2.1.2.2.2.2.2.2.2.1, v.1.2.2.1.2.2.2.2.2.2.2.2.1, v.1.2.2.1.2.2.2.2.2.2.2.2.2.1, v.1.2.2.1.2.2.2.2.2.2.2.2.2.2.1, v.1.2.2.1.2.2.2.2.2.2.2.2.2.2.2.1, v.1.2.2.2.1, v.2.1.1, v.2.1.2.1, v.2.1.2.2.1, v.2.1.2.2.2.1, v.2.1.2.2.2.2.1, v.2.1.2.2.2.2.2.1, v.2.1.2.2.2.2.2.2.1, v.2.1.2.2.2.2.2.2.2.1, v.2.1.2.2.2.2.2.2.2.2.1, v.2.1.2.2.2.2.2.2.2.2.2.1, v.2.1.2.2.2.2.2.2.2.2.2.2.1, v.2.1.2.2.2.2.2.2.2.2.2.2.2.1), fun v => ((v.1, (), (v.2.1, v.2.2.1, v.2.2.2.1, v.2.2.2.2.1, v.2.2.2.2.2.1, v.2.2.2.2.2.2.1, v.2.2.2.2.2.2.2.1, v.2.2.2.2.2.2.2.2.1, v.2.2.2.2.2.2.2.2.2.1, v.2.2.2.2.2.2.2.2.2.2.1, v.2.2.2.2.2.2.2.2.2.2.2.1, v.2.2.2.2.2.2.2.2.2.2.2.2.1, ()), v.2.2.2.2.2.2.2.2.2.2.2.2.2.1, ()), ((v.2.2.2.2.2.2.2.2.2.2.2.2.2.2.1, v.2.2.2.2.2.2.2.2.2.2.2.2.2.2.2.1, v.2.2.2.2.2.2.2.2.2.2.2.2.2.2.2.2.1, v.2.2.2.2.2.2.2.2.2.2.2.2.2.2.2.2.2.1, v.2.2.2.2.2.2.2.2.2.2.2.2.2.2.2.2.2.2.1, v.2.2.2.2.2.2.2.2.2.2.2.2.2.2.2.2.2.2.2.1, v.2.2.2.2.2.2.2.2.2.2.2.2.2.2.2.2.2.2.2.2.1, v.2.2.2.2.2.2.2.2.2.2.2.2.2.2.2.2.2.2.2.2.2.1, v.2.2.2.2.2.2.2.2.2.2.2.2.2.2.2.2.2.2.2.2.2.2.1, v.2.2.2.2.2.2.2.2.2.2.2.2.2.2.2.2.2.2.2.2.2.2.2.1, v.2.2.2.2.2.2.2.2.2.2.2.2.2.2.2.2.2.2.2.2.2.2.2.2.1, v.2.2.2.2.2.2.2.2.2.2.2.2.2.2.2.2.2.2.2.2.2.2.2.2.2, ()), ())), by intro v; kernel_rfl⟩
def law33_RecordBack.l0.x : List (PE × Pt) := [(.ret, ⟨⟨118, [(4, .one (.v .bool))], [], []⟩, Bool, fun v => v.1.1, fun v => ((v, ()), ()), by intro v; kernel_rfl⟩), (.exit 0, ⟨⟨118, [(1, .one (.v .str)), (2, .one (.p 2 0))], [(2, [.v (.int .i64), .v (.int .i64), .v (.int .i64), .v (.list (.int .i64)), .v (.int .i64), .v (.int .i64), .v (.int .i64), .v (.list (.int .i64)), .v (.int .i64), .v (.int .i64), .v (.int .i64), .v (.list (.int .i64))])], []⟩, ByteArray × Int × Int × Int × (List Int) × Int × Int × Int × (List Int) × Int × Int × Int × (List Int), fun v => (v.1.1, v.2.1.1, v.2.1.2.1, v.2.1.2.2.1, v.2.1.2.2.2.1, v.2.1.2.2.2.2.1, v.2.1.2.2.2.2.2.1, v.2.1.2.2.2.2.2.2.1, v.2.1.2.2.2.2.2.2.2.1, v.2.1.2.2.2.2.2.2.2.2.1, v.2.1.2.2.2.2.2.2.2.2.2.1, v.2.1.2.2.2.2.2.2.2.2.2.2.1, v.2.1.2.2.2.2.2.2.2.2.2.2.2.1), fun v => ((v.1, (), ()), ((v.2.1, v.2.2.1, v.2.2.2.1, v.2.2.2.2.1, v.2.2.2.2.2.1, v.2.2.2.2.2.2.1, v.2.2.2.2.2.2.2.1, v.2.2.2.2.2.2.2.2.1, v.2.2.2.2.2.2.2.2.2.1, v.2.2.2.2.2.2.2.2.2.2.1, v.2.2.2.2.2.2.2.2.2.2.2.1, v.2.2.2.2.2.2.2.2.2.2.2.2, ()), ())), by intro v; kernel_rfl⟩)]
noncomputable def law33_RecordBack.l0.d (k : Nat) : CD Tryd.prog GL [] := .loop (law33_RecordBack.V k) (bodyOf Tryd.f12).M.M.L.M.L.L (.node .no (.node .no (.node (.node (.node .no (.node .no (.node .no (.node .no (.node .no (.view [⟨118, [(1, .one (.v .str)), (2, .one (.p 2 0)), (19, .agg [.v (.int .i64), .v (.int .i64), .v (.int .i64), .v (.list (.int .i64)), .v (.int .i64), .v (.int .i64), .v (.int .i64), .v (.list (.int .i64)), .v (.int .i64), .v (.int .i64), .v (.int .i64), .v (.list (.int .i64))]), (20, .one (.v (.int .i64))), (54, .one (.v .bool))], [(2, [.v (.int .i64), .v (.int .i64), .v (.int .i64), .v (.list (.int .i64)), .v (.int .i64), .v (.int .i64), .v (.int .i64), .v (.list (.int .i64)), .v (.int .i64), .v (.int .i64), .v (.int .i64), .v (.list (.int .i64))])], []⟩] .no .no)))))) .no) .no))) law33_RecordBack.l0.s law33_RecordBack.l0.x (fun n v => law33_RecordBack.l0 k n v.1 v.2.1 v.2.2.1 v.2.2.2.1 v.2.2.2.2.1 v.2.2.2.2.2.1 v.2.2.2.2.2.2.1 v.2.2.2.2.2.2.2.1 v.2.2.2.2.2.2.2.2.1 v.2.2.2.2.2.2.2.2.2.1 v.2.2.2.2.2.2.2.2.2.2.1 v.2.2.2.2.2.2.2.2.2.2.2.1 v.2.2.2.2.2.2.2.2.2.2.2.2.1 v.2.2.2.2.2.2.2.2.2.2.2.2.2.1 v.2.2.2.2.2.2.2.2.2.2.2.2.2.2.1 v.2.2.2.2.2.2.2.2.2.2.2.2.2.2.2.1 v.2.2.2.2.2.2.2.2.2.2.2.2.2.2.2.2.1 v.2.2.2.2.2.2.2.2.2.2.2.2.2.2.2.2.2.1 v.2.2.2.2.2.2.2.2.2.2.2.2.2.2.2.2.2.2.1 v.2.2.2.2.2.2.2.2.2.2.2.2.2.2.2.2.2.2.2.1 v.2.2.2.2.2.2.2.2.2.2.2.2.2.2.2.2.2.2.2.2.1 v.2.2.2.2.2.2.2.2.2.2.2.2.2.2.2.2.2.2.2.2.2.1 v.2.2.2.2.2.2.2.2.2.2.2.2.2.2.2.2.2.2.2.2.2.2.1 v.2.2.2.2.2.2.2.2.2.2.2.2.2.2.2.2.2.2.2.2.2.2.2.1 v.2.2.2.2.2.2.2.2.2.2.2.2.2.2.2.2.2.2.2.2.2.2.2.2.1 v.2.2.2.2.2.2.2.2.2.2.2.2.2.2.2.2.2.2.2.2.2.2.2.2.2) k (by kernel_rfl) (fun _ => rfl) (by intro n v; kernel_rfl)
theorem law33_RecordBack.con (k : Nat) (v : DT [(.pair (.pair (.int .i64) (.pair (.int .i64) (.pair (.int .i64) (.list (.int .i64))))) (.pair (.pair (.int .i64) (.pair (.int .i64) (.pair (.int .i64) (.list (.int .i64))))) (.pair (.int .i64) (.pair (.int .i64) (.pair (.int .i64) (.list (.int .i64)))))), true), (.str, false)]) (y : Bool) (h : (fun v => law33_RecordBack.f k v.1 v.2.1) (id v) = some y) : Con Tryd.prog GL 12 ((putD [(.pair (.pair (.int .i64) (.pair (.int .i64) (.pair (.int .i64) (.list (.int .i64))))) (.pair (.pair (.int .i64) (.pair (.int .i64) (.pair (.int .i64) (.list (.int .i64))))) (.pair (.int .i64) (.pair (.int .i64) (.pair (.int .i64) (.list (.int .i64)))))), true), (.str, false)] v).map .p) [] (.ret (putR [(.bool, false)] ((fun v => (v, ())) y))) [] := con_of (law33_RecordBack.V k) 12 Tryd.f12 Tryd.func12 [(.pair (.pair (.int .i64) (.pair (.int .i64) (.pair (.int .i64) (.list (.int .i64))))) (.pair (.pair (.int .i64) (.pair (.int .i64) (.pair (.int .i64) (.list (.int .i64))))) (.pair (.int .i64) (.pair (.int .i64) (.pair (.int .i64) (.list (.int .i64)))))), true), (.str, false)] [(.bool, false)] id (fun v => law33_RecordBack.f k v.1 v.2.1) (fun v => v.1) (fun v => (v, ())) (.node .no (.node .no (.node (.node .no (.node (.cut (law33_RecordBack.l0.d k)) .no)) (.node .no (.node .no (.node .no (.view [⟨118, [(2, .one (.p 2 0)), (12, .one (.v (.int .i64))), (13, .one (.v (.int .i64))), (14, .one (.v (.int .i64)))], [(2, [.v (.int .i64), .v (.int .i64), .v (.int .i64), .v (.list (.int .i64)), .v (.int .i64), .v (.int .i64), .v (.int .i64), .v (.list (.int .i64)), .v (.int .i64), .v (.int .i64), .v (.int .i64), .v (.list (.int .i64))])], []⟩] .no .no))))))) (by kernel_rfl) (by intro x; kernel_rfl) (by kernel_rfl) (by intro v; kernel_rfl) v y h
end Go.Proofs.YtpmnhbjbkoackaaDoor.En
