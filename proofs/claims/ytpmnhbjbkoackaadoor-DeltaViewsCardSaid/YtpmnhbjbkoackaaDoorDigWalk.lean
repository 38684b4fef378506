/- digits.long and digits.valued (a range over a string each): walked by hand. -/
import Derived.Test.YtpmnhbjbkoackaaDoorProg
import Derived.Below
import Derived.RowKit
import Derived.WalkKit
import Derived.WalkSmall
import Derived.KernelRfl
import Derived.Tactics
import Derived.Tactics2
import Derived.StillTactics
import Derived.Laws.RangeString
import Derived.Laws.RangeAny
import Derived.Laws.Strings
import Derived.Laws.Strings2
import Derived.Laws.Strings3
import Derived.Laws.World
import Derived.Laws.Wrap64
import Derived.Laws.Sem
import Derived.LoopTactic
import Derived.Lib.Bytes
namespace Go.Proofs.YtpmnhbjbkoackaaDoor.Dig
open Go Go.RowKit
set_option linter.unusedVariables false
set_option linter.unusedSimpArgs false
/-- a digit's byte -/
def isDig (c : UInt8) : Bool := 48 ≤ c.toNat && c.toNat ≤ 57
/-- how many digits stand at and behind a byte -/
def run (s : ByteArray) : (fuel pos : Nat) → Nat
  | 0, pos => pos
  | f + 1, pos => if h : pos < s.size then (if isDig (s[pos]'h) then run s f (pos + 1) else pos) else pos
theorem run_end {s : ByteArray} {b pos : Nat} (h : ¬ pos < s.size) : run s b pos = pos := by
  cases b with
  | zero => rfl
  | succ b => simp [run, h]
set_option maxRecDepth 1000000 in
theorem long_walk (s : ByteArray) (w : World) (hs : s.size < 9223372036854775808) :
    Calls Tryd.prog 92 #[.string s] w fun e w' => e = .returned (.int .i64 (run s s.size 0 : Nat)) ∧ ∃ pos, w' = w.iter s pos := by
  go_enter Tryd.func92, Tryd.ntmps92
  go_wp2
  go_loopw [] (fun w' => ∃ (pos b : Nat), w' = w.iter s pos ∧ run s b pos = run s s.size 0 ∧ s.size ≤ pos + b ∧ pos ≤ s.size) (fun w' => s.size - w'.iterPos w.heap.size)
  case atStart => exact ⟨0, s.size, rfl, rfl, by omega, by omega⟩
  case round =>
    obtain ⟨pos, b, rfl, hc, hb, hps⟩ := hrel
    by_cases hp : pos < s.size
    · have hnx : ∀ ty, (Instr.next (.pointer (some ⟨w.heap.size, 0, none⟩)) true ty).run Tryd.prog (w.iter s pos) = _ := fun ty => run_next_any w s pos ty hp
      cases b with
      | zero => omega
      | succ b =>
      simp only [run, dif_pos hp] at hc
      by_cases hd : isDig (s[pos]'hp) = true
      · have hd0 := hd
        simp only [isDig, Bool.and_eq_true, decide_eq_true_eq] at hd
        have ha : Utf8.decode s pos = ((s[pos]'hp).toNat, 1) := decode_ascii s pos hp (by omega)
        rw [ha] at hnx
        dsimp only at hnx
        have h1 : ¬ (((s[pos]'hp).toNat : Int) < 48) := by omega
        have h2 : ¬ (57 < ((s[pos]'hp).toNat : Int)) := by omega
        rw [if_pos hd0] at hc
        go_wp2
        go_roundw
        case rel => exact ⟨pos + 1, b, rfl, hc, by omega, by omega⟩
        case measure =>
          simp
          omega
      · rw [if_neg hd] at hc
        have hcq : Nat.beq (run s s.size 0) pos = true := by rw [← hc]; exact Nat.beq_refl pos
        clear hc
        have h12 : ((Utf8.decode s pos).1 : Int) < 48 ∨ 57 < ((Utf8.decode s pos).1 : Int) := by
          by_cases hlt : (s[pos]'hp).toNat < 128
          · rw [decode_ascii s pos hp hlt]
            simp only [isDig, Bool.and_eq_true, decide_eq_true_eq] at hd
            show (((s[pos]'hp).toNat : Nat) : Int) < 48 ∨ 57 < (((s[pos]'hp).toNat : Nat) : Int)
            omega
          · have := (decode_high s pos hp (by omega)).1
            omega
        by_cases h1 : ((Utf8.decode s pos).1 : Int) < 48
        · go_wp2
          go_ret
          rw [Nat.eq_of_beq_eq_true hcq]
          exact ⟨rfl, _, rfl⟩
        · have h2 : 57 < ((Utf8.decode s pos).1 : Int) := by omega
          go_wp2
          go_ret
          rw [Nat.eq_of_beq_eq_true hcq]
          exact ⟨rfl, _, rfl⟩
    · have hnx : ∀ ty, (Instr.next (.pointer (some ⟨w.heap.size, 0, none⟩)) true ty).run Tryd.prog (w.iter s pos) = _ := fun ty => run_next_end w s pos ty hp
      have he : run s s.size 0 = s.size := by
        rw [← hc, run_end hp]; omega
      go_wp2
      go_ret
      rw [he]
      exact ⟨rfl, _, rfl⟩
/-- the number of the digits at and behind a byte, behind a number -/
def vrun (s : ByteArray) : (fuel pos n : Nat) → Nat
  | 0, _, n => n
  | f + 1, pos, n => if h : pos < s.size then vrun s f (pos + 1) (10 * n + ((s[pos]'h).toNat - 48)) else n
theorem vrun_end {s : ByteArray} {b pos n : Nat} (h : ¬ pos < s.size) : vrun s b pos n = n := by
  cases b with
  | zero => rfl
  | succ b => simp [vrun, h]
def bad (s : ByteArray) (below : Bool) : Bool := s.size == 0 || decide (19 < s.size) || (decide (1 < s.size) && s.get! 0 == 48) || (below && decide (s = ⟨#[48]⟩))
def valued (s : ByteArray) (below : Bool) : Int × Bool :=
  if bad s below then (0, false)
  else if below then (if vrun s s.size 0 0 ≤ 9223372036854775808 then (-(vrun s s.size 0 0 : Int), true) else (0, false))
  else if vrun s s.size 0 0 < 9223372036854775808 then ((vrun s s.size 0 0 : Int), true) else (0, false)
def alls (s : ByteArray) : Prop := ∀ i, (h : i < s.size) → isDig (s[i]'h) = true
theorem size_one {s : ByteArray} (h0 : 0 < s.size) (m : ¬ 1 < s.size) : s = ⟨#[s[0]'h0]⟩ := by
  apply ByteArray.ext
  apply Array.ext
  · show s.size = 1
    omega
  · intro i h1 h2
    have : i = 0 := by simp at h2; exact h2
    subst this
    rfl
theorem isDig_bound {c : UInt8} (h : isDig c = true) : 48 ≤ c.toNat ∧ c.toNat ≤ 57 := by simpa [isDig] using h
theorem wrap_dig {d : Nat} (h1 : 48 ≤ d) (h2 : d ≤ 57) : (IntKind.u64.wrap (IntKind.i32.wrap ((d : Int) - 48))) = ((d - 48 : Nat) : Int) := by
  have : ((d : Int) - 48) = ((d - 48 : Nat) : Int) := by omega
  rw [this]
  simp [IntKind.wrap, IntKind.bits, IntKind.signed]
  omega
theorem valued_t {s : ByteArray} {n : Nat} (b : bad s true = false) (h : Nat.beq (vrun s s.size 0 0) n = true) (q : n ≤ 9223372036854775808) : valued s true = (-(n : Int), true) := by
  have e := Nat.eq_of_beq_eq_true h
  rw [valued, b, if_neg (by decide), if_pos rfl, e, if_pos q]
theorem valued_t' {s : ByteArray} {n : Nat} (b : bad s true = false) (h : Nat.beq (vrun s s.size 0 0) n = true) (q : ¬ n ≤ 9223372036854775808) : valued s true = (0, false) := by
  have e := Nat.eq_of_beq_eq_true h
  rw [valued, b, if_neg (by decide), if_pos rfl, e, if_neg q]
theorem valued_f {s : ByteArray} {n : Nat} (b : bad s false = false) (h : Nat.beq (vrun s s.size 0 0) n = true) (q : n < 9223372036854775808) : valued s false = ((n : Int), true) := by
  have e := Nat.eq_of_beq_eq_true h
  rw [valued, b, if_neg (by decide), if_neg (by decide), e, if_pos q]
theorem valued_f' {s : ByteArray} {n : Nat} (b : bad s false = false) (h : Nat.beq (vrun s s.size 0 0) n = true) (q : ¬ n < 9223372036854775808) : valued s false = (0, false) := by
  have e := Nat.eq_of_beq_eq_true h
  rw [valued, b, if_neg (by decide), if_neg (by decide), e, if_neg q]
theorem alls_of {s : ByteArray} (h : s.data.toList.all isDig = true) : alls s := by
  intro i hi
  have := List.all_eq_true.1 h (s.data[i]'hi) (by simp)
  exact this
set_option maxRecDepth 1000000 in
set_option maxHeartbeats 2000000 in
theorem valued_walk (s : ByteArray) (below : Bool) (w : World) (ha : alls s) :
    Calls Tryd.prog 93 #[.string s, .bool below] w fun e w' => e = .returned (.tuple #[.int .i64 (valued s below).1, .bool (valued s below).2]) ∧ (w' = w ∨ ∃ pos, w' = w.iter s pos) := by
  go_enter Tryd.func93, Tryd.ntmps93
  by_cases e : s.size = 0
  · have e' : s = ⟨#[]⟩ := by
      cases s with | mk d => cases d with | mk l => cases l with
        | nil => rfl
        | cons a l => simp [ByteArray.size] at e
    subst e'
    go_wp2
    go_ret2
    exact ⟨rfl, .inl rfl⟩
  have e0 : ¬ s = ⟨#[]⟩ := by rintro rfl; exact e rfl
  have e1 : ¬ ((s.size : Int) = 0) := by omega
  have e3 : ¬ s.toList = [] := by
    intro h; apply e
    have := congrArg List.length h
    rw [Lib.toList_data] at this
    simpa using this
  by_cases l : 19 < s.size
  · have l0 : (19 : Int) < s.size := by omega
    have b : bad s below = true := by simp [bad, l]
    go_wp2
    all_goals
      go_ret2
      rw [show valued s below = (0, false) by rw [valued, if_pos b]]
      exact ⟨rfl, .inl rfl⟩
  have l1 : ¬ (19 : Int) < s.size := by omega
  have h0 : 0 < s.size := by omega
  by_cases m : 1 < s.size
  · have m1 : (1 : Int) < s.size := by omega
    by_cases z : s[0]'h0 = 48
    · have b : bad s below = true := by
        simp only [bad, Bool.or_eq_true, Bool.and_eq_true, decide_eq_true_eq, beq_iff_eq]
        exact .inl (.inr ⟨m, by rw [← z]; simp [ByteArray.get!, getElem!_pos, h0]; rfl⟩)
      have z1 : (((s[0]'h0).toNat : Nat) : Int) = 48 := by rw [z]; rfl
      go_wp2
      all_goals
        go_ret2
        rw [show valued s below = (0, false) by rw [valued, if_pos b]]
        exact ⟨rfl, .inl rfl⟩
    · have z1 : ¬ (((s[0]'h0).toNat : Nat) : Int) = 48 := by
        intro hh
        exact z (UInt8.toNat_inj.mp (by show _ = 48; omega))
      have z2 : ¬ s = ⟨#[48]⟩ := by rintro rfl; exact absurd m (by decide)
      have z5 : ¬ s.toList = [48] := by
        intro hh
        apply z2
        rw [Lib.toList_data] at hh
        exact ByteArray.ext (Array.ext' hh)
      have b0 : bad s below = false := by
        rw [Bool.eq_false_iff]
        simp only [bad, Ne, Bool.or_eq_true, Bool.and_eq_true, decide_eq_true_eq, beq_iff_eq]
        rintro (((h | h) | h) | h)
        · exact e h
        · exact l h
        · apply z
          rw [← h.2]; simp [ByteArray.get!, getElem!_pos, h0]; rfl
        · exact z2 h.2
      cases below with
      | true =>
        go_wp2
        any_goals (first | (exfalso; rename_i hx; simp [e3, z1, z5] at hx; done) | skip)
        go_loopw [6] (fun v w' => ∃ (pos b n : Nat), v = .int .u64 n ∧ w' = w.iter s pos ∧ vrun s b pos n = vrun s s.size 0 0 ∧ n < 10 ^ pos ∧ s.size ≤ pos + b ∧ pos ≤ s.size) (fun _ w' => s.size - w'.iterPos w.heap.size)
        case atStart => exact ⟨0, s.size, 0, rfl, rfl, rfl, by decide, by omega, by omega⟩
        case round =>
          obtain ⟨pos, b, n, rfl, rfl, hc, hn, hb, hps⟩ := hrel
          by_cases hp : pos < s.size
          · have hnx : ∀ ty, (Instr.next (.pointer (some ⟨w.heap.size, 0, none⟩)) true ty).run Tryd.prog (w.iter s pos) = _ := fun ty => run_next_any w s pos ty hp
            cases b with
            | zero => omega
            | succ b =>
            simp only [vrun, dif_pos hp] at hc
            have hd := isDig_bound (ha pos hp)
            have hde : Utf8.decode s pos = ((s[pos]'hp).toNat, 1) := decode_ascii s pos hp (by omega)
            rw [hde] at hnx
            dsimp only at hnx
            have hp10 : 10 ^ pos ≤ 10 ^ 18 := Nat.pow_le_pow_right (by decide) (by omega)
            go_wp2
            go_roundw
            case rel =>
              refine ⟨pos + 1, b, 10 * n + ((s[pos]'hp).toNat - 48), ?_, rfl, hc, ?_, by omega, by omega⟩
              · congr 1
                omega
              · rw [Nat.pow_succ]; omega
            case measure =>
              simp
              omega
          · have hnx : ∀ ty, (Instr.next (.pointer (some ⟨w.heap.size, 0, none⟩)) true ty).run Tryd.prog (w.iter s pos) = _ := fun ty => run_next_end w s pos ty hp
            rw [vrun_end hp] at hc
            have hp19 : 10 ^ pos ≤ 10 ^ 19 := Nat.pow_le_pow_right (by decide) (by omega)
            have hcq : Nat.beq (vrun s s.size 0 0) n = true := by rw [← hc]; exact Nat.beq_refl n
            clear hc
            by_cases q : n ≤ 9223372036854775808
            · have q0 : (n : Int) ≤ 9223372036854775808 := by omega
              by_cases q1 : n < 9223372036854775808
              · have q2 : (n : Int) < 9223372036854775808 := by omega
                go_wp2
                go_ret2
                first
                | rw [valued_t b0 hcq q]
                | rw [valued_f b0 hcq q1]
                exact ⟨rfl, .inr ⟨_, rfl⟩⟩
              · have q2 : ¬ (n : Int) < 9223372036854775808 := by omega
                go_wp2
                go_ret2
                have hn9 : n = 9223372036854775808 := by omega
                first
                | rw [valued_t b0 hcq q]
                  have hw : wrap64 (-wrap64 (n : Int)) = -(n : Int) := by rw [hn9]; decide +kernel
                  rw [hw]
                  exact ⟨rfl, .inr ⟨_, rfl⟩⟩
                | rw [valued_f' b0 hcq q1]
                  exact ⟨rfl, .inr ⟨_, rfl⟩⟩
            · have q0 : ¬ (n : Int) ≤ 9223372036854775808 := by omega
              have q1 : ¬ n < 9223372036854775808 := by omega
              have q2 : ¬ (n : Int) < 9223372036854775808 := by omega
              go_wp2
              go_ret2
              first
              | rw [valued_t' b0 hcq q]
              | rw [valued_f' b0 hcq q1]
              exact ⟨rfl, .inr ⟨_, rfl⟩⟩
      | false =>
        go_wp2
        any_goals (first | (exfalso; rename_i hx; simp [e3, z1, z5] at hx; done) | skip)
        go_loopw [6] (fun v w' => ∃ (pos b n : Nat), v = .int .u64 n ∧ w' = w.iter s pos ∧ vrun s b pos n = vrun s s.size 0 0 ∧ n < 10 ^ pos ∧ s.size ≤ pos + b ∧ pos ≤ s.size) (fun _ w' => s.size - w'.iterPos w.heap.size)
        case atStart => exact ⟨0, s.size, 0, rfl, rfl, rfl, by decide, by omega, by omega⟩
        case round =>
          obtain ⟨pos, b, n, rfl, rfl, hc, hn, hb, hps⟩ := hrel
          by_cases hp : pos < s.size
          · have hnx : ∀ ty, (Instr.next (.pointer (some ⟨w.heap.size, 0, none⟩)) true ty).run Tryd.prog (w.iter s pos) = _ := fun ty => run_next_any w s pos ty hp
            cases b with
            | zero => omega
            | succ b =>
            simp only [vrun, dif_pos hp] at hc
            have hd := isDig_bound (ha pos hp)
            have hde : Utf8.decode s pos = ((s[pos]'hp).toNat, 1) := decode_ascii s pos hp (by omega)
            rw [hde] at hnx
            dsimp only at hnx
            have hp10 : 10 ^ pos ≤ 10 ^ 18 := Nat.pow_le_pow_right (by decide) (by omega)
            go_wp2
            go_roundw
            case rel =>
              refine ⟨pos + 1, b, 10 * n + ((s[pos]'hp).toNat - 48), ?_, rfl, hc, ?_, by omega, by omega⟩
              · congr 1
                omega
              · rw [Nat.pow_succ]; omega
            case measure =>
              simp
              omega
          · have hnx : ∀ ty, (Instr.next (.pointer (some ⟨w.heap.size, 0, none⟩)) true ty).run Tryd.prog (w.iter s pos) = _ := fun ty => run_next_end w s pos ty hp
            rw [vrun_end hp] at hc
            have hp19 : 10 ^ pos ≤ 10 ^ 19 := Nat.pow_le_pow_right (by decide) (by omega)
            have hcq : Nat.beq (vrun s s.size 0 0) n = true := by rw [← hc]; exact Nat.beq_refl n
            clear hc
            by_cases q : n ≤ 9223372036854775808
            · have q0 : (n : Int) ≤ 9223372036854775808 := by omega
              by_cases q1 : n < 9223372036854775808
              · have q2 : (n : Int) < 9223372036854775808 := by omega
                go_wp2
                go_ret2
                first
                | rw [valued_t b0 hcq q]
                | rw [valued_f b0 hcq q1]
                exact ⟨rfl, .inr ⟨_, rfl⟩⟩
              · have q2 : ¬ (n : Int) < 9223372036854775808 := by omega
                go_wp2
                go_ret2
                have hn9 : n = 9223372036854775808 := by omega
                first
                | rw [valued_t b0 hcq q]
                  have hw : wrap64 (-wrap64 (n : Int)) = -(n : Int) := by rw [hn9]; decide +kernel
                  rw [hw]
                  exact ⟨rfl, .inr ⟨_, rfl⟩⟩
                | rw [valued_f' b0 hcq q1]
                  exact ⟨rfl, .inr ⟨_, rfl⟩⟩
            · have q0 : ¬ (n : Int) ≤ 9223372036854775808 := by omega
              have q1 : ¬ n < 9223372036854775808 := by omega
              have q2 : ¬ (n : Int) < 9223372036854775808 := by omega
              go_wp2
              go_ret2
              first
              | rw [valued_t' b0 hcq q]
              | rw [valued_f' b0 hcq q1]
              exact ⟨rfl, .inr ⟨_, rfl⟩⟩
  · have m1 : ¬ (1 : Int) < s.size := by omega
    cases below with
    | false =>
      have z1 : True := trivial
      have z5 : True := trivial
      have b0 : bad s false = false := by
        rw [Bool.eq_false_iff]
        simp only [bad, Ne, Bool.or_eq_true, Bool.and_eq_true, decide_eq_true_eq, beq_iff_eq]
        rintro (((h | h) | h) | h)
        · exact e h
        · exact l h
        · exact m h.1
        · exact absurd h.1 (by decide)
      go_wp2
      any_goals (first | (exfalso; rename_i hx; simp [e3, z1, z5] at hx; done) | skip)
      go_loopw [6] (fun v w' => ∃ (pos b n : Nat), v = .int .u64 n ∧ w' = w.iter s pos ∧ vrun s b pos n = vrun s s.size 0 0 ∧ n < 10 ^ pos ∧ s.size ≤ pos + b ∧ pos ≤ s.size) (fun _ w' => s.size - w'.iterPos w.heap.size)
      case atStart => exact ⟨0, s.size, 0, rfl, rfl, rfl, by decide, by omega, by omega⟩
      case round =>
        obtain ⟨pos, b, n, rfl, rfl, hc, hn, hb, hps⟩ := hrel
        by_cases hp : pos < s.size
        · have hnx : ∀ ty, (Instr.next (.pointer (some ⟨w.heap.size, 0, none⟩)) true ty).run Tryd.prog (w.iter s pos) = _ := fun ty => run_next_any w s pos ty hp
          cases b with
          | zero => omega
          | succ b =>
          simp only [vrun, dif_pos hp] at hc
          have hd := isDig_bound (ha pos hp)
          have hde : Utf8.decode s pos = ((s[pos]'hp).toNat, 1) := decode_ascii s pos hp (by omega)
          rw [hde] at hnx
          dsimp only at hnx
          have hp10 : 10 ^ pos ≤ 10 ^ 18 := Nat.pow_le_pow_right (by decide) (by omega)
          go_wp2
          go_roundw
          case rel =>
            refine ⟨pos + 1, b, 10 * n + ((s[pos]'hp).toNat - 48), ?_, rfl, hc, ?_, by omega, by omega⟩
            · congr 1
              omega
            · rw [Nat.pow_succ]; omega
          case measure =>
            simp
            omega
        · have hnx : ∀ ty, (Instr.next (.pointer (some ⟨w.heap.size, 0, none⟩)) true ty).run Tryd.prog (w.iter s pos) = _ := fun ty => run_next_end w s pos ty hp
          rw [vrun_end hp] at hc
          have hp19 : 10 ^ pos ≤ 10 ^ 19 := Nat.pow_le_pow_right (by decide) (by omega)
          have hcq : Nat.beq (vrun s s.size 0 0) n = true := by rw [← hc]; exact Nat.beq_refl n
          clear hc
          by_cases q : n ≤ 9223372036854775808
          · have q0 : (n : Int) ≤ 9223372036854775808 := by omega
            by_cases q1 : n < 9223372036854775808
            · have q2 : (n : Int) < 9223372036854775808 := by omega
              go_wp2
              go_ret2
              first
              | rw [valued_t b0 hcq q]
              | rw [valued_f b0 hcq q1]
              exact ⟨rfl, .inr ⟨_, rfl⟩⟩
            · have q2 : ¬ (n : Int) < 9223372036854775808 := by omega
              go_wp2
              go_ret2
              have hn9 : n = 9223372036854775808 := by omega
              first
              | rw [valued_t b0 hcq q]
                have hw : wrap64 (-wrap64 (n : Int)) = -(n : Int) := by rw [hn9]; decide +kernel
                rw [hw]
                exact ⟨rfl, .inr ⟨_, rfl⟩⟩
              | rw [valued_f' b0 hcq q1]
                exact ⟨rfl, .inr ⟨_, rfl⟩⟩
          · have q0 : ¬ (n : Int) ≤ 9223372036854775808 := by omega
            have q1 : ¬ n < 9223372036854775808 := by omega
            have q2 : ¬ (n : Int) < 9223372036854775808 := by omega
            go_wp2
            go_ret2
            first
            | rw [valued_t' b0 hcq q]
            | rw [valued_f' b0 hcq q1]
            exact ⟨rfl, .inr ⟨_, rfl⟩⟩
    | true =>
      have z1 : True := trivial
      by_cases z2 : s = ⟨#[48]⟩
      · subst z2
        go_wp2
        go_ret2
        exact ⟨rfl, .inl rfl⟩
      · have z5 : ¬ s.toList = [48] := by
          intro hh
          apply z2
          rw [Lib.toList_data] at hh
          exact ByteArray.ext (Array.ext' hh)
        have b0 : bad s true = false := by
          rw [Bool.eq_false_iff]
          simp only [bad, Ne, Bool.or_eq_true, Bool.and_eq_true, decide_eq_true_eq, beq_iff_eq]
          rintro (((h | h) | h) | h)
          · exact e h
          · exact l h
          · exact m h.1
          · exact z2 h.2
        go_wp2
        any_goals (first | (exfalso; rename_i hx; simp [e3, z1, z5] at hx; done) | skip)
        go_loopw [6] (fun v w' => ∃ (pos b n : Nat), v = .int .u64 n ∧ w' = w.iter s pos ∧ vrun s b pos n = vrun s s.size 0 0 ∧ n < 10 ^ pos ∧ s.size ≤ pos + b ∧ pos ≤ s.size) (fun _ w' => s.size - w'.iterPos w.heap.size)
        case atStart => exact ⟨0, s.size, 0, rfl, rfl, rfl, by decide, by omega, by omega⟩
        case round =>
          obtain ⟨pos, b, n, rfl, rfl, hc, hn, hb, hps⟩ := hrel
          by_cases hp : pos < s.size
          · have hnx : ∀ ty, (Instr.next (.pointer (some ⟨w.heap.size, 0, none⟩)) true ty).run Tryd.prog (w.iter s pos) = _ := fun ty => run_next_any w s pos ty hp
            cases b with
            | zero => omega
            | succ b =>
            simp only [vrun, dif_pos hp] at hc
            have hd := isDig_bound (ha pos hp)
            have hde : Utf8.decode s pos = ((s[pos]'hp).toNat, 1) := decode_ascii s pos hp (by omega)
            rw [hde] at hnx
            dsimp only at hnx
            have hp10 : 10 ^ pos ≤ 10 ^ 18 := Nat.pow_le_pow_right (by decide) (by omega)
            go_wp2
            go_roundw
            case rel =>
              refine ⟨pos + 1, b, 10 * n + ((s[pos]'hp).toNat - 48), ?_, rfl, hc, ?_, by omega, by omega⟩
              · congr 1
                omega
              · rw [Nat.pow_succ]; omega
            case measure =>
              simp
              omega
          · have hnx : ∀ ty, (Instr.next (.pointer (some ⟨w.heap.size, 0, none⟩)) true ty).run Tryd.prog (w.iter s pos) = _ := fun ty => run_next_end w s pos ty hp
            rw [vrun_end hp] at hc
            have hp19 : 10 ^ pos ≤ 10 ^ 19 := Nat.pow_le_pow_right (by decide) (by omega)
            have hcq : Nat.beq (vrun s s.size 0 0) n = true := by rw [← hc]; exact Nat.beq_refl n
            clear hc
            by_cases q : n ≤ 9223372036854775808
            · have q0 : (n : Int) ≤ 9223372036854775808 := by omega
              by_cases q1 : n < 9223372036854775808
              · have q2 : (n : Int) < 9223372036854775808 := by omega
                go_wp2
                go_ret2
                first
                | rw [valued_t b0 hcq q]
                | rw [valued_f b0 hcq q1]
                exact ⟨rfl, .inr ⟨_, rfl⟩⟩
              · have q2 : ¬ (n : Int) < 9223372036854775808 := by omega
                go_wp2
                go_ret2
                have hn9 : n = 9223372036854775808 := by omega
                first
                | rw [valued_t b0 hcq q]
                  have hw : wrap64 (-wrap64 (n : Int)) = -(n : Int) := by rw [hn9]; decide +kernel
                  rw [hw]
                  exact ⟨rfl, .inr ⟨_, rfl⟩⟩
                | rw [valued_f' b0 hcq q1]
                  exact ⟨rfl, .inr ⟨_, rfl⟩⟩
            · have q0 : ¬ (n : Int) ≤ 9223372036854775808 := by omega
              have q1 : ¬ n < 9223372036854775808 := by omega
              have q2 : ¬ (n : Int) < 9223372036854775808 := by omega
              go_wp2
              go_ret2
              first
              | rw [valued_t' b0 hcq q]
              | rw [valued_f' b0 hcq q1]
              exact ⟨rfl, .inr ⟨_, rfl⟩⟩
end Go.Proofs.YtpmnhbjbkoackaaDoor.Dig
