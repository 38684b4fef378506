/- account.words and account.Word: walked by hand. -/
import Derived.Test.YtpaeefnepfppfaaDoorProg
import Derived.Below
import Derived.RowKit
import Derived.WalkKit
import Derived.WalkSmall
import Derived.KernelRfl
import Derived.Tactics
import Derived.Tactics2
import Derived.StillTactics
import Derived.Laws.Strings
import Derived.Laws.World
import Derived.Laws.Sem
import Derived.Laws.Cells
import Derived.Laws.Pointers
import Derived.Laws.ResultCell
import Derived.Laws.Alloc2
import Derived.LoopTactic
import Derived.Handy
import Derived.Deep.WholeRow
import Derived.Test.YtpaeefnepfppfaaDoorWWords
namespace Go.Proofs.YtpaeefnepfppfaaDoor.Acc
open Go Go.RowKit
set_option linter.unusedVariables false
set_option linter.unusedSimpArgs false
/-- the errors' words -/
def wordsT : List ByteArray := [⟨#[]⟩, ⟨#[97, 114, 103]⟩, ⟨#[114, 97, 110, 107]⟩, ⟨#[108, 101, 110, 103, 116, 104]⟩, ⟨#[115, 105, 122, 101]⟩, ⟨#[100, 111, 109, 97, 105, 110]⟩, ⟨#[115, 105, 103, 110]⟩, ⟨#[110, 117, 109, 98, 101, 114]⟩, ⟨#[109, 97, 110, 121]⟩, ⟨#[115, 121, 110, 116, 97, 120]⟩, ⟨#[100, 101, 112, 116, 104]⟩, ⟨#[110, 97, 109, 101]⟩, ⟨#[116, 119, 105, 99, 101]⟩, ⟨#[118, 97, 108, 101, 110, 99, 101]⟩, ⟨#[115, 116, 97, 116, 105, 99]⟩, ⟨#[115, 101, 114, 105, 101, 115]⟩, ⟨#[119, 105, 110, 100, 111, 119]⟩, ⟨#[111, 112, 101, 110]⟩, ⟨#[108, 97, 103]⟩, ⟨#[102, 117, 108, 108]⟩, ⟨#[110, 111, 110, 101]⟩, ⟨#[101, 110, 100]⟩, ⟨#[102, 111, 114, 109]⟩, ⟨#[116, 105, 109, 101]⟩, ⟨#[108, 97, 116, 101]⟩, ⟨#[98, 97, 99, 107]⟩]
def wordsA : Array Value := (wordsT.map Value.string).toArray
def zeroA : Array Value := #[Value.string { data := #[] }, Value.string { data := #[] }, Value.string { data := #[] }, Value.string { data := #[] }, Value.string { data := #[] }, Value.string { data := #[] }, Value.string { data := #[] }, Value.string { data := #[] }, Value.string { data := #[] }, Value.string { data := #[] }, Value.string { data := #[] }, Value.string { data := #[] }, Value.string { data := #[] }, Value.string { data := #[] }, Value.string { data := #[] }, Value.string { data := #[] }, Value.string { data := #[] }, Value.string { data := #[] }, Value.string { data := #[] }, Value.string { data := #[] }, Value.string { data := #[] }, Value.string { data := #[] }, Value.string { data := #[] }, Value.string { data := #[] }, Value.string { data := #[] }, Value.string { data := #[] }]
theorem wordsA_is : wordsA = #[Value.string { data := #[] }, Value.string { data := #[97, 114, 103] }, Value.string { data := #[114, 97, 110, 107] }, Value.string { data := #[108, 101, 110, 103, 116, 104] }, Value.string { data := #[115, 105, 122, 101] }, Value.string { data := #[100, 111, 109, 97, 105, 110] }, Value.string { data := #[115, 105, 103, 110] }, Value.string { data := #[110, 117, 109, 98, 101, 114] }, Value.string { data := #[109, 97, 110, 121] }, Value.string { data := #[115, 121, 110, 116, 97, 120] }, Value.string { data := #[100, 101, 112, 116, 104] }, Value.string { data := #[110, 97, 109, 101] }, Value.string { data := #[116, 119, 105, 99, 101] }, Value.string { data := #[118, 97, 108, 101, 110, 99, 101] }, Value.string { data := #[115, 116, 97, 116, 105, 99] }, Value.string { data := #[115, 101, 114, 105, 101, 115] }, Value.string { data := #[119, 105, 110, 100, 111, 119] }, Value.string { data := #[111, 112, 101, 110] }, Value.string { data := #[108, 97, 103] }, Value.string { data := #[102, 117, 108, 108] }, Value.string { data := #[110, 111, 110, 101] }, Value.string { data := #[101, 110, 100] }, Value.string { data := #[102, 111, 114, 109] }, Value.string { data := #[116, 105, 109, 101] }, Value.string { data := #[108, 97, 116, 101] }, Value.string { data := #[98, 97, 99, 107] }] := rfl
theorem all_one : wordsA.all (·.oneCell') = true := by kernel_rfl
theorem sizes : zeroA.size = wordsA.size := rfl
theorem info : (Tryd.prog.info? 78).map (·.size) = some wordsA.size := by kernel_rfl
set_option maxRecDepth 1000000 in
theorem words_walk (w : World) :
    Calls Tryd.prog 75 #[] w fun e w' => e = .returned (.agg wordsA) ∧ Below w.heap.size w w' := by
  have hst := run_storeAt_new (P := Tryd.prog) w 78 zeroA wordsA info sizes all_one
  have hst2 := run_storeCells_new (P := Tryd.prog) w 78 zeroA wordsA info sizes all_one
  have hsz : wordsA.size = 26 := rfl
  go_enter Tryd.func75, Tryd.ntmps75
  first | go_values | go_skip | go_guarded | go_step | go_upon | go_in | go_back | (go_values <;> (try go_simp))
  first | go_values | go_skip | go_guarded | go_step | go_upon | go_in | go_back | (go_values <;> (try go_simp))
  first | go_values | go_skip | go_guarded | go_step | go_upon | go_in | go_back | (go_values <;> (try go_simp))
  first | go_values | go_skip | go_guarded | go_step | go_upon | go_in | go_back | (go_values <;> (try go_simp))
  first | go_values | go_skip | go_guarded | go_step | go_upon | go_in | go_back | (go_values <;> (try go_simp))
  first | go_values | go_skip | go_guarded | go_step | go_upon | go_in | go_back | (go_values <;> (try go_simp))
  first | go_values | go_skip | go_guarded | go_step | go_upon | go_in | go_back | (go_values <;> (try go_simp))
  first | go_values | go_skip | go_guarded | go_step | go_upon | go_in | go_back | (go_values <;> (try go_simp))
  first | go_values | go_skip | go_guarded | go_step | go_upon | go_in | go_back | (go_values <;> (try go_simp))
  first | go_values | go_skip | go_guarded | go_step | go_upon | go_in | go_back | (go_values <;> (try go_simp))
  first | go_values | go_skip | go_guarded | go_step | go_upon | go_in | go_back | (go_values <;> (try go_simp))
  first | go_values | go_skip | go_guarded | go_step | go_upon | go_in | go_back | (go_values <;> (try go_simp))
  first | go_values | go_skip | go_guarded | go_step | go_upon | go_in | go_back | (go_values <;> (try go_simp))
  first | go_values | go_skip | go_guarded | go_step | go_upon | go_in | go_back | (go_values <;> (try go_simp))
  rw [← wordsA_is, show (#[Value.string { data := #[] }, Value.string { data := #[] }, Value.string { data := #[] }, Value.string { data := #[] }, Value.string { data := #[] }, Value.string { data := #[] }, Value.string { data := #[] }, Value.string { data := #[] }, Value.string { data := #[] }, Value.string { data := #[] }, Value.string { data := #[] }, Value.string { data := #[] }, Value.string { data := #[] }, Value.string { data := #[] }, Value.string { data := #[] }, Value.string { data := #[] }, Value.string { data := #[] }, Value.string { data := #[] }, Value.string { data := #[] }, Value.string { data := #[] }, Value.string { data := #[] }, Value.string { data := #[] }, Value.string { data := #[] }, Value.string { data := #[] }, Value.string { data := #[] }, Value.string { data := #[] }] : Array Value) = zeroA from rfl]
  generalize hz : zeroA = z at hst hst2 ⊢
  generalize hc : wordsA = c at hst hst2 hsz ⊢
  go_wp2
  refine bodyPost_ret (results_cell_row rfl _ _ w.heap.size 78 c (0, 0) _ rfl (heap_alloc_last _ _) Tryd.underlying78 rfl (by rw [← hc]; exact info)) rfl ?_
  rw [hc]
  exact ⟨rfl, (Below.refl _ _).alloc (Nat.le_refl _) _⟩
/-- an error's word -/
def word (n : Int) : ByteArray := if n < 0 then ⟨#[]⟩ else wordsT.getD n.toNat ⟨#[]⟩
set_option maxRecDepth 1000000 in
theorem word_walk (n : Int) (w : World) :
    Calls Tryd.prog 61 #[.int .i64 n] w fun e w' => e = .returned (.string (word n)) ∧ Below w.heap.size w w' := by
  go_enter Tryd.func61, Tryd.ntmps61
  go_wp2_with fail
  go_call words_walk as e w1 ⟨he, hb⟩
  subst he
  have hst := run_storeAt_new (P := Tryd.prog) w1 78 zeroA wordsA info sizes all_one
  have hst2 := run_storeCells_new (P := Tryd.prog) w1 78 zeroA wordsA info sizes all_one
  have hsz : wordsA.size = 26 := rfl
  generalize hc : wordsA = c at hst hst2 hsz ⊢
  dsimp only
  first | go_values | go_skip | go_guarded | go_step | go_upon | go_in | go_back | (go_values <;> (try go_simp))
  first | go_values | go_skip | go_guarded | go_step | go_upon | go_in | go_back | (go_values <;> (try go_simp))
  first | go_values | go_skip | go_guarded | go_step | go_upon | go_in | go_back | (go_values <;> (try go_simp))
  first | go_values | go_skip | go_guarded | go_step | go_upon | go_in | go_back | (go_values <;> (try go_simp))
  first | go_values | go_skip | go_guarded | go_step | go_upon | go_in | go_back | (go_values <;> (try go_simp))
  first | go_values | go_skip | go_guarded | go_step | go_upon | go_in | go_back | (go_values <;> (try go_simp))
  rw [show (#[Value.string { data := #[] }, Value.string { data := #[] }, Value.string { data := #[] }, Value.string { data := #[] }, Value.string { data := #[] }, Value.string { data := #[] }, Value.string { data := #[] }, Value.string { data := #[] }, Value.string { data := #[] }, Value.string { data := #[] }, Value.string { data := #[] }, Value.string { data := #[] }, Value.string { data := #[] }, Value.string { data := #[] }, Value.string { data := #[] }, Value.string { data := #[] }, Value.string { data := #[] }, Value.string { data := #[] }, Value.string { data := #[] }, Value.string { data := #[] }, Value.string { data := #[] }, Value.string { data := #[] }, Value.string { data := #[] }, Value.string { data := #[] }, Value.string { data := #[] }, Value.string { data := #[] }] : Array Value) = zeroA from rfl]
  generalize hz : zeroA = z at hst hst2 ⊢
  rw [hst2]
  have hbel : Below w.heap.size w (w1.alloc (Obj.cells c 78)) := by
    obtain ⟨_, _, _, hle, _⟩ := id hb
    exact hb.alloc hle _
  by_cases h0 : n < 0
  · go_wp2
    go_ret
    exact ⟨by rw [word, if_pos h0]; rfl, hbel⟩
  · by_cases h1 : 26 ≤ n
    · go_wp2
      go_ret
      refine ⟨?_, hbel⟩
      rw [word, if_neg (by omega), List.getD_eq_getElem?_getD, List.getElem?_eq_none (by show 26 ≤ n.toNat; omega)]; rfl
    · obtain ⟨m, rfl⟩ : ∃ m : Nat, n = m := ⟨n.toNat, by omega⟩
      have hm : m < wordsT.length := by show m < 26; omega
      have hcell : (w1.alloc (Obj.cells c 78)).cell? ⟨w1.heap.size, m, none⟩ = some (.string (word m)) := by
        rw [← hc]
        have e : wordsA[m]? = some (.string (word m)) := by
          unfold wordsA
          rw [List.getElem?_toArray, List.getElem?_map, List.getElem?_eq_getElem hm, word, if_neg (by omega), List.getD_eq_getElem?_getD, Int.toNat_natCast, List.getElem?_eq_getElem hm]; rfl
        rw [cell_of_row _ _ m wordsA 78 (0, 0) (heap_alloc_last w1 _)]
        exact e
      go_wp2
      go_ret
      exact ⟨rfl, hbel⟩
end Go.Proofs.YtpaeefnepfppfaaDoor.Acc
