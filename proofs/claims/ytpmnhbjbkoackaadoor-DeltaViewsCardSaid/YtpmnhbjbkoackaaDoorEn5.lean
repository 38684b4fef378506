/- Each operation of the plain run is what the model makes of it: reads, cuts, parts. -/
import Derived.Test.YtpmnhbjbkoackaaDoorEn4
namespace Go.Proofs.YtpmnhbjbkoackaaDoor.En
open Go Go.RowKit
set_option linter.unusedVariables false
set_option linter.unusedSimpArgs false
variable {P : Program} {rw : Nat → Bool} {wt : World} {Fb : Nat → Nat → Prop} {w w' : World} {R R' : Nat → Option Res} {g g' : Gh} {o : Oper} {ρ : Operand → Value} {ev : Operand → PVal} {c : List Cnd} {p : PVal} {us : List (Nat × Res)}

theorem ti_d {T : TypeId} {a : Bool} {n : Nat} {z : List Cell} {d : TD} (h : ti P T = some ⟨a, n, z, d⟩) : ∃ info dd zz, P.info? T = some info ∧ P.underlying T = some dd ∧ info.zero = some zz ∧ info.size = n ∧ a = aggD dd ∧ z = zz.cells.toList.map ofV ∧ zz.cells.size = info.size ∧
    (zfit zz dd && zz.cells.toList.all Value.oneCell') = true ∧ tdOf P dd = d := by
  obtain ⟨info, dd, zz, h1, h2, h3, h4, h5, h6⟩ := ti_spec h
  cases h6
  exact ⟨info, dd, zz, h1, h2, h3, rfl, rfl, rfl, h4, h5, rfl⟩
theorem ti_string {T : TypeId} {a : Bool} {n : Nat} {z : List Cell} (h : ti P T = some ⟨a, n, z, .other .string⟩) : P.underlying T = some .string :=
  ti_other (by rw [h]; rfl)
theorem ti_int {T : TypeId} {a : Bool} {n : Nat} {z : List Cell} {k : IntKind} (h : ti P T = some ⟨a, n, z, .int k⟩) : P.underlying T = some (.int k) := by
  obtain ⟨info, d, zz, h1, h2, h3, h4, h5, h6⟩ := ti_spec h
  simp only [TI.mk.injEq] at h6
  have h7 := h6.2.2.2.symm
  rw [h2]
  unfold tdOf at h7
  split at h7
  · cases h7; rfl
  · unfold sliceD at h7; split at h7
    · split at h7 <;> cases h7
    · cases h7
  · split at h7 <;> cases h7
  · split at h7
    · split at h7 <;> cases h7
    · cases h7
  · cases h7
theorem ti_slice {T e : TypeId} {a : Bool} {n bytes : Nat} {z : List Cell} {τ : Ty} (h : ti P T = some ⟨a, n, z, .slice e τ bytes⟩) :
    P.underlying T = some (.slice e) ∧ ∃ ie ze, P.info? e = some ie ∧ ie.size = τ.sz ∧ ie.bytes = bytes ∧ ie.zero = some ze ∧ ze.cells.size = τ.sz ∧ a = false ∧ n = 1 := by
  obtain ⟨info, d, zz, h1, h2, h3, h4, h5, h6⟩ := ti_spec h
  simp only [TI.mk.injEq] at h6
  obtain ⟨ha, hn, _, h7⟩ := h6
  have h7 := h7.symm
  unfold tdOf at h7
  split at h7
  · cases h7
  · rename_i e' _
    have hs : e' = e ∧ ∃ ie ze, P.info? e = some ie ∧ ie.size = τ.sz ∧ ie.bytes = bytes ∧ ie.zero = some ze ∧ ze.cells.size = τ.sz := by
      unfold sliceD at h7; split at h7
      · split at h7
        · rename_i ie _ hi hc
          cases h7
          obtain ⟨c1, c2⟩ := hc
          simp only [Option.map_eq_some_iff] at c2
          obtain ⟨ze, hz, hzs⟩ := c2
          exact ⟨rfl, ie, ze, hi, c1, rfl, hz, hzs.trans c1⟩
        · cases h7
      · cases h7
    obtain ⟨rfl, ie, ze, k1, k2, k3, k4, k5⟩ := hs
    refine ⟨h2, ie, ze, k1, k2, k3, k4, k5, ha, ?_⟩
    rw [hn, ← h4]
    simp only [Bool.and_eq_true] at h5
    have h8 := h5.1
    unfold zfit at h8
    cases zz <;> first | rfl | (simp [aggD] at h8; done)
  · split at h7 <;> cases h7
  · split at h7
    · split at h7 <;> cases h7
    · cases h7
  · cases h7
theorem allSome_spec {α β : Type} {f : α → Option β} : ∀ {l : List α} {r : List β}, allSome f l = some r → l.length = r.length ∧ ∀ (i : Nat) (x : α), l[i]? = some x → ∃ y, f x = some y ∧ r[i]? = some y
  | [], r, h => by cases h; exact ⟨rfl, by simp⟩
  | x :: l, r, h => by
    simp only [allSome, Option.bind_eq_some_iff, Option.map_eq_some_iff] at h
    obtain ⟨y, hy, ys, hys, rfl⟩ := h
    obtain ⟨hl, hi⟩ := allSome_spec hys
    refine ⟨by simp [hl], fun i z hz => ?_⟩
    cases i with
    | zero => simp at hz; subst hz; exact ⟨y, hy, rfl⟩
    | succ i => obtain ⟨q, h1, h2⟩ := hi i z (by simpa using hz); exact ⟨q, h1, by simpa using h2⟩
theorem ti_struct {T : TypeId} {a : Bool} {n : Nat} {z : List Cell} {fs : List (Nat × Nat × Bool)} (h : ti P T = some ⟨a, n, z, .struct fs⟩) :
    ∃ fields : Array Field, P.underlying T = some (.struct fields) ∧ allSome (fieldRow P) fields.toList = some fs := by
  obtain ⟨info, d, zz, h1, h2, h3, h4, h5, h6⟩ := ti_spec h
  simp only [TI.mk.injEq] at h6
  have h7 := h6.2.2.2.symm
  unfold tdOf at h7
  split at h7
  · cases h7
  · unfold sliceD at h7; split at h7
    · split at h7 <;> cases h7
    · cases h7
  · rename_i fields
    split at h7
    · rename_i l hl
      cases h7
      exact ⟨fields, h2, hl⟩
    · cases h7
  · split at h7
    · split at h7 <;> cases h7
    · cases h7
  · cases h7
theorem ti_arr {T : TypeId} {a : Bool} {n m size : Nat} {z : List Cell} {ag : Bool} {oe : Option Ty} (h : ti P T = some ⟨a, n, z, .arr m size ag oe⟩) :
    ∃ e ie de, P.underlying T = some (.array m e) ∧ P.info? e = some ie ∧ P.underlying e = some de ∧ ie.size = size ∧ ag = aggD de ∧ 1 < m ∧ size ≠ 0 := by
  obtain ⟨info, d, zz, h1, h2, h3, h4, h5, h6⟩ := ti_spec h
  simp only [TI.mk.injEq] at h6
  have h7 := h6.2.2.2.symm
  unfold tdOf at h7
  split at h7
  · cases h7
  · unfold sliceD at h7; split at h7
    · split at h7 <;> cases h7
    · cases h7
  · split at h7 <;> cases h7
  · rename_i m' e
    split at h7
    · rename_i ie de hi hd
      split at h7
      · cases h7
      · rename_i hn
        cases h7
        exact ⟨e, ie, de, h2, hi, hd, rfl, rfl, by omega, fun e => hn (.inl e)⟩
    · cases h7
  · cases h7
theorem field_get {fields : Array Field} {fs : List (Nat × Nat × Bool)} (h : allSome (fieldRow P) fields.toList = some fs) {j : Nat} {r : Nat × Nat × Bool} (hr : fs[j]? = some r) :
    ∃ f i d, fields[j]? = some f ∧ P.info? f.type = some i ∧ P.underlying f.type = some d ∧ r = (f.offset, i.size, aggD d) ∧ i.size ≠ 0 := by
  obtain ⟨hl, hg⟩ := allSome_spec h
  have hj : j < fields.toList.length := by rw [hl]; exact (List.getElem?_eq_some_iff.1 hr).1
  obtain ⟨y, hy, hy'⟩ := hg j (fields.toList[j]) (List.getElem?_eq_getElem hj)
  rw [hr] at hy'
  cases hy'
  unfold fieldRow at hy
  split at hy
  · rename_i i d hi hd
    split at hy
    · cases hy
    · rename_i hne
      cases hy
      exact ⟨fields.toList[j], i, d, by rw [← Array.getElem?_toList]; exact List.getElem?_eq_getElem hj, hi, hd, rfl, hne⟩
  · cases hy

theorem asList_sound {W : Nat → Nat → Prop} {e : Ty} {q : PVal} {l : List e.T} {v : Value} (h : asList e q = some l) (hv : PV w W R g v q) : DV w W (.list e) l [v] := by
  unfold asList at h
  split at h
  · split at h
    · rename_i he; subst he; cases h; exact hv
    · cases h
  · split at h
    · rename_i he; subst he; cases h; exact hv.1
    · cases h
  · cases h
    have : v = .slice none 0 0 := hv.1
    subst this
    exact ⟨none, 0, rfl, Nat.le_refl _, by simp [lenOk], .inl rfl⟩
  · cases h
theorem bound_sound {W : Nat → Nat → Prop} {d n : Int} {x : Option Operand} (he : Evs w W R g ρ ev) (h : bound ev d x = some n) : (x = none ∧ n = d) ∨ ∃ y k, x = some y ∧ ρ y = .int k n := by
  cases x with
  | none => left; simp [bound] at h; exact ⟨rfl, h.symm⟩
  | some y =>
    right
    have hy := he y
    simp only [bound] at h
    split at h
    · rename_i k m e
      rw [e] at hy
      cases h
      exact ⟨y, k, rfl, hy.1⟩
    · cases h
theorem bounds_run {W : Nat → Nat → Prop} (isSlice : Bool) {len cap : Nat} {lo hi : Option Operand} {l h : Int} (he : Evs w W R g ρ ev) (hlo : bound ev 0 lo = some l) (hhi : bound ev len hi = some h)
    (h0 : 0 ≤ l) (h1 : l ≤ h) (h2 : h ≤ len) (h3 : len ≤ cap) : (Instr.sliceBounds isSlice len cap (lo.map ρ) (hi.map ρ) none).run P w = .ok (l.toNat, h.toNat, cap) w := by
  have e : (h.toNat : Int) = h := Int.toNat_of_nonneg (by omega)
  rcases bound_sound he hlo with ⟨rfl, rfl⟩ | ⟨y, k, rfl, hy⟩ <;> rcases bound_sound he hhi with ⟨rfl, rfl⟩ | ⟨y', k', rfl, hy'⟩
  · simp [Instr.sliceBounds]
  · simp [Instr.sliceBounds, hy', run_sliceBound _ _ _ _ _ (show 0 ≤ h by omega) (show h ≤ (cap : Int) by omega)]
  · simp [Instr.sliceBounds, hy, run_sliceBound _ _ _ _ _ h0 h1]
  · simp [Instr.sliceBounds, hy, hy', run_sliceBound _ _ _ _ _ (show 0 ≤ h by omega) (show h ≤ (cap : Int) by omega), run_sliceBound w k l h.toNat _ h0 (by omega)]
theorem cutL_len {α : Type} (xs : List α) {l h : Int} (h0 : 0 ≤ l) (h1 : l ≤ h) (h2 : h ≤ xs.length) : (cutL xs l h).length = h.toNat - l.toNat := by
  simp [cutL]; omega
theorem s_slice (hr : HR wt Fb w R g) (he : Evs w (Wr Fb R g) R g ρ ev) {x : Operand} {lo hi mx : Option Operand} {T : TypeId} (ho : o.op = .slice T x lo hi mx) (hnr : ∀ e T0 id ver, ev x ≠ .p (.one (.row e T0 id ver))) (h : stepF (tiE P rw) o ev R = some (c, p, us)) (hc : allP c) : StepOk P wt Fb o ρ w R g p us := by
  cases mx with
  | some m => simp [stepF, ho] at h
  | none =>
  simp only [stepF, ho] at h
  have hx := he x
  split at h
  · rename_i a n z s ht es
    rw [es] at hx
    split at h
    · rename_i l hh hl hhi
      cases h
      obtain ⟨⟨h0, h1, h2⟩, _⟩ := hc
      have hx' : ρ x = .string s := hx.1
      have hb := bounds_run (P := P) false he hl hhi h0 h1 h2 (Nat.le_refl _)
      refine stepOk_pure hr (v := .string (s.extract l.toNat hh.toNat)) ?_ ⟨rfl, ?_⟩
      · simp [execOp, ho, Instr.sliceAt, run_underlying (ti_string ht), Instr.slice, hx', Result.andThen, hb]
      · have := hx.2
        simp only [lenOk, ByteArray.size_extract] at *
        omega
    · cases h
  · rename_i es
    exact absurd es (hnr _ _ _ _)
  · rename_i a n z el τ by' ht _
    split at h
    · rename_i xs hxs
      split at h
      · rename_i l hh hl hhi
        cases h
        obtain ⟨⟨h0, h1, h2⟩, _⟩ := hc
        obtain ⟨hu, ie, ze, k1, k2, k3, k4, k5, k6⟩ := ti_slice ht
        obtain ⟨A, cp, hv, hle, hcp, hL⟩ := asList_sound hxs hx
        simp only [List.cons.injEq, and_true] at hv
        have hb := bounds_run (P := P) true he hl hhi h0 h1 h2 hle
        refine stepOk_pure hr (v := .slice (if cp = l.toNat then A else A.map (·.add (l.toNat * ie.size))) (hh.toNat - l.toNat) (cp - l.toNat)) ?_ ?_
        · simp [execOp, ho, Instr.sliceAt, run_underlying hu, Instr.slice, hv, Result.andThen, hb, run_sizeOf' k1]
        · have hlen := cutL_len xs h0 h1 h2
          refine ⟨_, cp - l.toNat, by rw [hlen], ?_, ?_, ?_⟩
          · rw [hlen]
            omega
          · simp only [lenOk] at *; omega
          · cases A with
            | none => exact LC.cutNone hL _ _ _
            | some ad =>
              rcases hL with e | ⟨b, o', e, hL'⟩
              · left
                subst e
                simp [cutL]
              · simp only [Option.some.injEq] at e
                subst e
                split
                · rename_i ecp
                  left
                  have : (cutL xs l hh).length = 0 := by rw [hlen]; omega
                  exact List.eq_nil_of_length_eq_zero this
                · have := LC.cut (w := w) (W := Wr Fb R g) (.inr ⟨b, o', rfl, hL'⟩) l.toNat hh.toNat
                  rw [k2]
                  simpa [add_lit, cutL] using this
      · cases h
    · cases h
  · cases h
theorem rdT_get {τ : Ty} {xs : List τ.T} {n : Int} (h0 : 0 ≤ n) (h1 : n < List.length xs) : xs[n.toNat]? = some (rdT τ xs n) := by
  have hlt : n.toNat < List.length xs := by omega
  rw [List.getElem?_eq_getElem hlt, rdT, List.getD_eq_getElem?_getD, List.getElem?_eq_getElem hlt]
  rfl
theorem arrEls_len {τ : Ty} : ∀ {m : Nat} {cs : List Cell} {xs : List τ.T}, arrEls τ m cs = some xs → List.length xs = m
  | 0, [], xs, h => by cases h; rfl
  | m + 1, cs, xs, h => by
    simp only [arrEls, Option.bind_eq_some_iff, Option.map_eq_some_iff] at h
    obtain ⟨x, _, ys, h2, rfl⟩ := h
    simp [arrEls_len h2]
  | 0, _ :: _, _, h => by simp [arrEls] at h
theorem arrEls_at {τ : Ty} {W : Nat → Nat → Prop} : ∀ {m : Nat} {cs : List Cell} {xs : List τ.T} {vs : List Value} {i : Nat} {x : τ.T}, arrEls τ m cs = some xs → CVs w W R g vs cs → xs[i]? = some x →
    DV w W τ x ((vs.drop (i * τ.sz)).take τ.sz)
  | 0, [], xs, vs, i, x, h, hv, hx => by cases h; simp at hx
  | m + 1, cs, xs, vs, i, x, h, hv, hx => by
    simp only [arrEls, Option.bind_eq_some_iff, Option.map_eq_some_iff] at h
    obtain ⟨y, h1, ys, h2, rfl⟩ := h
    cases i with
    | zero =>
      simp only [List.getElem?_cons_zero, Option.some.injEq] at hx
      subst hx
      simpa using unflat_sound h1 (hv.take _)
    | succ i =>
      have := arrEls_at h2 (hv.drop τ.sz) (by simpa using hx)
      rw [List.drop_drop] at this
      rwa [show (i + 1) * τ.sz = τ.sz + i * τ.sz by rw [Nat.add_mul]; omega]
  | 0, _ :: _, _, _, _, _, h, _, _ => by simp [arrEls] at h
theorem s_index (hr : HR wt Fb w R g) (he : Evs w (Wr Fb R g) R g ρ ev) {x i : Operand} {T : TypeId} (ho : o.op = .index T x i) (h : stepF (tiE P rw) o ev R = some (c, p, us)) (hc : allP c) : StepOk P wt Fb o ρ w R g p us := by
  simp only [stepF, ho] at h
  have hx := he x
  have hi := he i
  split at h
  · rename_i a n z s k m ht es ei
    rw [es] at hx
    rw [ei] at hi
    cases h
    obtain ⟨⟨h0, h1⟩, _⟩ := hc
    have hx' : ρ x = .string s := hx.1
    have hi' : ρ i = .int k m := hi.1
    have hlt : m.toNat < s.size := by omega
    have hlt' : m.toNat < s.data.toList.length := by simpa using hlt
    refine stepOk_pure hr (v := .int .u8 (((s.data.toList.getD m.toNat 0).toNat : Nat) : Int)) ?_ ⟨rfl, ?_⟩
    · have : s[m.toNat]? = some (s.data.toList.getD m.toNat 0) := by
        rw [List.getD_eq_getElem?_getD, List.getElem?_eq_getElem hlt', getElem?_pos s m.toNat hlt]
        rfl
      simp [execOp, ho, Instr.index, hx', hi', asIntOf, run_underlying (ti_string ht), h0, this]
    · have := (s.data.toList.getD m.toNat 0).toNat_lt
      rw [IntKind.wrap_u8]; omega
  · rename_i a n z m size agg τ cs k i' ht es ei
    rw [es] at hx
    rw [ei] at hi
    split at h
    · rename_i hsz
      simp only [Option.map_eq_some_iff] at h
      obtain ⟨xs, hxs, h⟩ := h
      cases h
      obtain ⟨⟨h0, h1⟩, _⟩ := hc
      obtain ⟨hsz, hsz1⟩ := hsz
      obtain ⟨e, ie, de, k1, k2, k3, k4, k5, k6, k7⟩ := ti_arr ht
      have hi' : ρ i = .int k i' := hi.1
      obtain ⟨vs, hv, hvs⟩ := hx
      have hlen := arrEls_len hxs
      have hd := arrEls_at hxs hvs (rdT_get h0 (by omega))
      have hfl := DV.flat (R := R) (g := g) hd
      have hpl := DV.len hd
      unfold putF
      cases agg with
      | true =>
        rw [if_pos rfl]
        refine stepOk_pure hr (v := .agg ((vs.drop (i'.toNat * τ.sz)).take τ.sz).toArray) ?_ ⟨_, rfl, hfl⟩
        simp [execOp, ho, Instr.index, hv, hi', asIntOf, run_underlying k1, h0, h1, run_sizeOf' k2, k4, hsz, part, run_isAgg' k3, ← k5, Result.andThen]
      | false =>
        have hs1 : τ.sz = 1 := by simpa using hsz1
        rw [if_neg (by simp)]
        have hfl1 : (flat τ (rdT τ xs i')).length = 1 := by rw [flat_len]; exact hs1
        split
        · rename_i c hc
          rw [hc] at hfl
          rw [hs1] at hpl hfl
          obtain ⟨u, hu⟩ : ∃ u, (vs.drop (i'.toNat * 1)).take 1 = [u] := List.length_eq_one_iff.1 hpl
          rw [hu] at hfl
          refine stepOk_pure hr (v := u) ?_ hfl.1.1
          have hu' : vs[i'.toNat]? = some u := by
            have := congrArg (fun l => l[0]?) hu
            simpa [List.getElem?_take, List.getElem?_drop] using this
          simp [execOp, ho, Instr.index, hv, hi', asIntOf, run_underlying k1, h0, h1, run_sizeOf' k2, k4, hsz, hs1, part, run_isAgg' k3, ← k5, hu', Result.andThen]
        · rename_i hn
          exfalso
          obtain ⟨c, hc⟩ := List.length_eq_one_iff.1 hfl1
          exact hn c hc
    · cases h
  · cases h
/-- A list that may be written and has an element lies somewhere. -/
theorem row_at (hr : HR wt Fb w R g) {id : Nat} {e : Ty} {l : List e.T} {T ver : Nat} (hR : R id = some (.row e l T ver)) (hl : 0 < List.length l) : ∃ b, g.loc id = some b := by
  obtain ⟨xs, hrow, _⟩ := hr.res id _ hR
  cases hloc : g.loc id with
  | some b => exact ⟨b, rfl⟩
  | none =>
    exfalso
    have hv : rowV g id (List.length l) = .slice none 0 0 := by unfold rowV; rw [hloc]
    rcases hrow.2 with ⟨_, h0⟩ | ⟨gb, cap, cur, h1, _⟩
    · omega
    · rw [hv] at h1; cases h1
theorem rowV_some {id n b : Nat} (h : g.loc id = some b) : rowV g id n = .slice (some ⟨b, 0, none⟩) n (g.tip id) := by unfold rowV; rw [h]
/-- The cells of an element. -/
theorem row_elem (hr : HR wt Fb w R g) {id : Nat} {e : Ty} {l : List e.T} {T ver : Nat} (hR : R id = some (.row e l T ver)) {i b : Nat} (hb : g.loc id = some b) (hi : i < List.length l) :
    ∃ vs : List Value, DV w (Wr Fb R g) e (l.getD i e.dflt) vs ∧ ∀ (j : Nat) (u : Value), vs[j]? = some u → w.cell? ⟨b, i * e.sz + j, none⟩ = some u := by
  obtain ⟨xs, hrow, hfr⟩ := hr.res id _ hR
  obtain ⟨vs, h1, h2, h3⟩ := hfr.2 i _ (List.getElem?_eq_getElem hi)
  refine ⟨vs, by rw [List.getD_eq_getElem?_getD, List.getElem?_eq_getElem hi]; exact h2, fun j u hu => ?_⟩
  have := World.ownsRow.cells hrow (g := b) (by rw [rowV_block]; exact hb) _ u (h3 j u hu)
  rw [add_lit] at this
  simpa using this
theorem s_indexAddr (hr : HR wt Fb w R g) (he : Evs w (Wr Fb R g) R g ρ ev) {x i : Operand} {T : TypeId} (ho : o.op = .indexAddr T x i) (h : stepF (tiE P rw) o ev R = some (c, p, us)) (hc : allP c) : StepOk P wt Fb o ρ w R g p us := by
  simp only [stepF, ho] at h
  have hx := he x
  have hi := he i
  split at h
  · rename_i a n z el τ by' k m ht ei
    rw [ei] at hi
    have hi' : ρ i = .int k m := hi.1
    obtain ⟨hu, ie, ze, k1, k2, k3, k4, k5, k6⟩ := ti_slice ht
    split at h
    · rename_i e T0 id ver ex
      split at h
      · rename_i e1 l T1 ver' hR
        split at h
        · rename_i hcc
          obtain ⟨rfl, rfl, rfl⟩ := hcc
          cases h
          rw [ex] at hx
          obtain ⟨l', v', q1, q2, q3, q4⟩ := hx
          rw [hR] at q1
          cases q1
          obtain ⟨⟨h0, h1⟩, _⟩ := hc
          obtain ⟨b, hb⟩ := row_at hr hR (by omega)
          have hv := q4 rfl
          rw [rowV_some hb] at hv
          refine stepOk_pure hr (v := .pointer (some ⟨b, 0 + m.toNat * e.sz, none⟩)) ?_ ⟨l, ver, hR, Nat.le_refl _, ⟨_, rfl⟩, fun _ => ⟨by omega, b, hb, by simp⟩⟩
          simp [execOp, ho, Instr.indexAt, hv, hi', asIntOf, run_underlying hu, h0, h1, run_sizeOf' k1, add_lit, k2]
        · cases h
      · cases h
    split at h
    · rename_i xs hxs
      cases h
      obtain ⟨⟨h0, h1⟩, _⟩ := hc
      obtain ⟨A, cp, hv, hle, hcp, hL⟩ := asList_sound hxs hx
      simp only [List.cons.injEq, and_true] at hv
      obtain ⟨b, o', rfl, vs, hvl, hvd, hvc⟩ := hL.get (rdT_get h0 h1)
      refine stepOk_pure hr (v := .pointer (some ⟨b, o' + m.toNat * τ.sz, none⟩)) ?_ ⟨b, o' + m.toNat * τ.sz, vs, by simp, hvd, hvc⟩
      simp [execOp, ho, Instr.indexAt, hv, hi', asIntOf, run_underlying hu, h0, h1, run_sizeOf' k1, add_lit, k2]
    · cases h
  · rename_i a n z m' size ag oe k m ht ei
    rw [ei] at hi
    have hi' : ρ i = .int k m := hi.1
    obtain ⟨e, ie, de, k1, k2, k3, k4, k5, k6, k7⟩ := ti_arr ht
    split at h
    · rename_i id off ex
      rw [ex] at hx
      cases h
      obtain ⟨⟨h0, h1⟩, _⟩ := hc
      obtain ⟨b, cs, hh1, hh2, hv⟩ := hx
      refine stepOk_pure hr (v := .pointer (some ⟨b, off + m.toNat * size, none⟩)) ?_ ⟨b, cs, hh1, hh2, rfl⟩
      simp [execOp, ho, Instr.indexAt, hv, hi', asIntOf, run_underlying k1, h0, h1, run_sizeOf' k2, add_lit, k4, Instr.sureAddr]
    · rename_i τ y off ex
      rw [ex] at hx
      cases h
      obtain ⟨⟨h0, h1⟩, _⟩ := hc
      obtain ⟨b, o', vs, hv, hh2, hh3⟩ := hx
      refine stepOk_pure hr (v := .pointer (some ⟨b, o' + (off + m.toNat * size), none⟩)) ?_ ⟨b, o', vs, rfl, hh2, hh3⟩
      simp [execOp, ho, Instr.indexAt, hv, hi', asIntOf, run_underlying k1, h0, h1, run_sizeOf' k2, add_lit, k4, Instr.sureAddr, Nat.add_assoc]
    · cases h
  · cases h
theorem s_fieldAddr (hr : HR wt Fb w R g) (he : Evs w (Wr Fb R g) R g ρ ev) {x : Operand} {f : Nat} {T : TypeId} (ho : o.op = .fieldAddr T x f) (h : stepF (tiE P rw) o ev R = some (c, p, us)) (hc : allP c) : StepOk P wt Fb o ρ w R g p us := by
  simp only [stepF, ho] at h
  have hx := he x
  split at h
  · rename_i a n z fs id off ht ex
    rw [ex] at hx
    simp only [Option.map_eq_some_iff] at h
    obtain ⟨r, hr', h⟩ := h
    cases h
    obtain ⟨fields, hu, hfs⟩ := ti_struct ht
    obtain ⟨ff, fi, fd, h1, h2, h3, rfl, h5⟩ := field_get hfs hr'
    obtain ⟨b, cs, hh1, hh2, hv⟩ := hx
    refine stepOk_pure hr (v := .pointer (some ⟨b, off + ff.offset, none⟩)) ?_ ⟨b, cs, hh1, hh2, rfl⟩
    simp [execOp, ho, Instr.fieldAt, hv, run_underlying hu, h1, Instr.sureAddr, fieldPlace, run_sizeOf' h2, h5, add_lit]
  · rename_i a n z fs τ y off ht ex
    rw [ex] at hx
    simp only [Option.map_eq_some_iff] at h
    obtain ⟨r, hr', h⟩ := h
    cases h
    obtain ⟨fields, hu, hfs⟩ := ti_struct ht
    obtain ⟨ff, fi, fd, h1, h2, h3, rfl, h5⟩ := field_get hfs hr'
    obtain ⟨b, o', vs, hv, hh2, hh3⟩ := hx
    refine stepOk_pure hr (v := .pointer (some ⟨b, o' + (off + ff.offset), none⟩)) ?_ ⟨b, o', vs, rfl, hh2, hh3⟩
    simp [execOp, ho, Instr.fieldAt, hv, run_underlying hu, h1, Instr.sureAddr, fieldPlace, run_sizeOf' h2, h5, add_lit, Nat.add_assoc]
  · rename_i a n z fs e T0 id ver m off ht ex
    rw [ex] at hx
    simp only [Option.map_eq_some_iff] at h
    obtain ⟨r, hr', h⟩ := h
    cases h
    obtain ⟨fields, hu, hfs⟩ := ti_struct ht
    obtain ⟨ff, fi, fd, h1, h2, h3, rfl, h5⟩ := field_get hfs hr'
    obtain ⟨l, v', q1, q2, ⟨ad, hv⟩, q4⟩ := hx
    refine stepOk_pure hr (v := .pointer (some (ad.add ff.offset))) ?_ ⟨l, v', q1, q2, ⟨_, rfl⟩, fun e2 => ?_⟩
    · simp [execOp, ho, Instr.fieldAt, hv, run_underlying hu, h1, Instr.sureAddr, fieldPlace, run_sizeOf' h2, h5]
    · obtain ⟨k1, b, k2, k3⟩ := q4 e2
      rw [hv] at k3
      cases k3
      exact ⟨k1, b, k2, by rw [add_lit, Nat.add_assoc]⟩
  · cases h
theorem s_load (hr : HR wt Fb w R g) (he : Evs w (Wr Fb R g) R g ρ ev) {x : Operand} {T : TypeId} (ho : o.op = .load T x) (h : stepF (tiE P rw) o ev R = some (c, p, us)) (hc : allP c) : StepOk P wt Fb o ρ w R g p us := by
  simp only [stepF, ho] at h
  have hx := he x
  split at h
  · rename_i i id off ht ex
    rw [ex] at hx
    obtain ⟨info, d, zz, h1, h2, h3, h4, h5, rfl⟩ := ti_spec ht
    split at h
    · rename_i cs hcs
      simp only [Option.map_eq_some_iff] at h
      obtain ⟨q, hq, h⟩ := h
      cases h
      obtain ⟨b, cs', hh1, hh2, hv⟩ := hx
      obtain ⟨b', T', vs, j1, j2, j3⟩ := hr.res id _ hcs
      rw [hh2] at j1
      cases j1
      obtain ⟨v, hrun, hp⟩ := load_part (P := P) (b := b) (o := 0) h1 h2 j3 (fun j u hu => by
        rw [Nat.zero_add]
        unfold World.cell?
        simp only [j2]
        simpa using hu) hq
      rw [Nat.zero_add] at hrun
      exact stepOk_pure hr (v := v) (by simp [execOp, ho, Instr.loadAt, hv, Instr.sureAddr, hrun, Result.andThen]) hp
    · cases h
  · rename_i i τ y off ht ex
    rw [ex] at hx
    obtain ⟨info, d, zz, h1, h2, h3, h4, h5, rfl⟩ := ti_spec ht
    simp only [Option.map_eq_some_iff] at h
    obtain ⟨q, hq, h⟩ := h
    cases h
    obtain ⟨b, o', vs, hv, hh2, hh3⟩ := hx
    obtain ⟨v, hrun, hp⟩ := load_part (P := P) (b := b) (o := o') h1 h2 (DV.flat (R := R) (g := g) hh2) (fun j u hu => (hh3 j u hu).1) hq
    exact stepOk_pure hr (v := v) (by simp [execOp, ho, Instr.loadAt, hv, Instr.sureAddr, hrun, Result.andThen]) hp
  · rename_i i e T0 id ver m off ht ex
    rw [ex] at hx
    obtain ⟨info, d, zz, h1, h2, h3, h4, h5, rfl⟩ := ti_spec ht
    split at h
    · rename_i e1 l T1 ver' hR
      split at h
      · rename_i hcc
        obtain ⟨rfl, rfl⟩ := hcc
        simp only [Option.map_eq_some_iff] at h
        obtain ⟨q, hq, h⟩ := h
        cases h
        obtain ⟨l', v', q1, q2, _, q4⟩ := hx
        rw [hR] at q1
        cases q1
        obtain ⟨hi, b, hb, hv⟩ := q4 rfl
        obtain ⟨vs, hd, hcell⟩ := row_elem hr hR hb hi
        obtain ⟨v, hrun, hp⟩ := load_part (P := P) (b := b) (o := m * e.sz) h1 h2 (DV.flat (R := R) (g := g) hd) hcell hq
        exact stepOk_pure hr (v := v) (by simp [execOp, ho, Instr.loadAt, hv, Instr.sureAddr, hrun, Result.andThen]) hp
      · cases h
    · cases h
  · cases h
theorem s_field (hr : HR wt Fb w R g) (he : Evs w (Wr Fb R g) R g ρ ev) {x : Operand} {f : Nat} {T : TypeId} (ho : o.op = .field T x f) (h : stepF (tiE P rw) o ev R = some (c, p, us)) (hc : allP c) : StepOk P wt Fb o ρ w R g p us := by
  simp only [stepF, ho] at h
  have hx := he x
  split at h
  · rename_i a n z fs cs ht ex
    rw [ex] at hx
    simp only [Option.bind_eq_some_iff, Option.map_eq_some_iff] at h
    obtain ⟨r, hr', q, hq, h⟩ := h
    cases h
    obtain ⟨fields, hu, hfs⟩ := ti_struct ht
    obtain ⟨ff, fi, fd, h1, h2, h3, rfl, h5⟩ := field_get hfs hr'
    obtain ⟨vs, hv, hvs⟩ := hx
    have hl := CVs.len hvs
    unfold partF at hq
    cases ha : aggD fd with
    | true =>
      simp only [ha, if_true] at hq
      split at hq
      · rename_i hle
        cases hq
        refine stepOk_pure hr (v := .agg ((vs.drop ff.offset).take fi.size).toArray) ?_ ⟨_, rfl, (hvs.drop _).take _⟩
        simp [execOp, ho, Instr.field, run_underlying hu, hv, h1, asAgg, part, run_isAgg' h3, ha, run_sizeOf' h2, Result.andThen]
      · cases hq
    | false =>
      simp only [ha, Bool.false_eq_true, if_false] at hq
      split at hq
      · rename_i cc hcc
        cases hq
        have hlt : ff.offset < vs.length := by rw [hl]; exact (List.getElem?_eq_some_iff.1 hcc).1
        obtain ⟨u, hu'⟩ : ∃ u, vs[ff.offset]? = some u := ⟨_, List.getElem?_eq_getElem hlt⟩
        refine stepOk_pure hr (v := u) ?_ (CVs.get hvs _ _ _ hu' hcc).1
        simp [execOp, ho, Instr.field, run_underlying hu, hv, h1, asAgg, part, run_isAgg' h3, ha, hu', Result.andThen]
      · cases hq
  · cases h
theorem s_convert (hr : HR wt Fb w R g) (he : Evs w (Wr Fb R g) R g ρ ev) {x : Operand} {S T : TypeId} (ho : o.op = .convert S T x) (h : stepF (tiE P rw) o ev R = some (c, p, us)) (hc : allP c) : StepOk P wt Fb o ρ w R g p us := by
  simp only [stepF, ho] at h
  have hx := he x
  split at h
  · rename_i i a n z k k' m hs ht ex
    rw [ex] at hx
    cases h
    obtain ⟨info, d, zz, h1, h2, h3, h4, h5, _⟩ := ti_spec hs
    have hv : ρ x = .int k' m := hx.1
    exact stepOk_pure hr (v := .int k (k.wrap m)) (by simp [execOp, ho, convert, run_underlying h2, run_underlying (ti_int ht), hv, Conv.intToInt, Result.andThen]) ⟨by rw [wrapK_eq], by rw [wrapK_eq, wrap_wrap]⟩
  · rename_i i a n z s hs ht ex
    rw [ex] at hx
    cases h
    obtain ⟨info, d, zz, h1, h2, h3, h4, h5, _⟩ := ti_spec hs
    have hv : ρ x = .string s := hx.1
    exact stepOk_pure hr (v := .string s) (by simp [execOp, ho, convert, run_underlying h2, run_underlying (ti_string ht), hv, Result.andThen]) ⟨rfl, hx.2⟩
  · rename_i a n z el by' a2 n2 z2 hs ht _
    split at h
    · rename_i a3 n3 z3 hel
      simp only [Option.map_eq_some_iff] at h
      obtain ⟨xs, hxs, h⟩ := h
      cases h
      obtain ⟨A, cp, hv, hle, hcp, hL⟩ := asList_sound hxs hx
      simp only [List.cons.injEq, and_true] at hv
      obtain ⟨hu, _⟩ := ti_slice hs
      have hfin : lenOk (strOfNums xs).size := by rw [strOfNums_size]; simp only [lenOk] at hcp ⊢; omega
      rcases hL with rfl | ⟨b, o', rfl, hL⟩
      · cases A with
        | none => exact stepOk_pure hr (v := .string ByteArray.empty) (by simp only [execOp, ho, Sem.run_bind, hv, run_convert_bytes_nil w S el hu (ti_int hel) _ _ T (ti_string ht), Result.andThen, Sem.run_pure]) ⟨rfl, hfin⟩
        | some ad =>
          have hl : (loadCells ad 0).run P w = .ok (([] : List Int).map (Value.int .u8)).toArray w := by
            have := run_loadCells_list (P := P) w ad [] (fun j v hj => by simp at hj)
            simpa using this
          refine stepOk_pure hr (v := .string ByteArray.empty) ?_ ⟨rfl, hfin⟩
          simp only [execOp, ho, Sem.run_bind, hv, run_convert_bytes_string w S T el _ _ _ hu (ti_int hel) (ti_string ht), List.length_nil]
          rw [run_bytesToString w ad 0 cp [] hl]
          simp [Result.andThen, Sem.run_pure]
      · have hcell : ∀ i, i < List.length xs → w.cell? ⟨b, o' + i, none⟩ = some (.int .u8 (xs.getD i 0)) := by
          intro i hi
          obtain ⟨vs, h1, h2, h3⟩ := hL i _ (List.getElem?_eq_getElem hi)
          obtain ⟨rfl, _⟩ := h2
          have := (h3 0 _ rfl).1
          simpa [Ty.sz, List.getD_eq_getElem?_getD, List.getElem?_eq_getElem hi] using this
        refine stepOk_pure hr (v := .string (strOfNums xs)) ?_ ⟨rfl, hfin⟩
        simp only [execOp, ho, Sem.run_bind, hv, run_convert_bytes_arg w S el hu (ti_int hel) b o' _ cp xs rfl hcell T (ti_string ht), Result.andThen, Sem.run_pure]
    · cases h
  · cases h
theorem call_bi {cl : Call} {b : Builtin} (ho : o.op = .call cl) (hb : cl.callee = .builtin b) {v : Value} {w1 : World} (h : (builtin b cl.argTypes o.type (cl.args.map fun | .const _ => true | _ => false) (cl.args.map ρ)).run P w = .ok (.value v) w1) :
    (execOp ρ o).run P w = .ok (.value v) w1 := by
  simp only [execOp, ho, resolve, hb, Sem.run_bind, Sem.run_pure, Result.andThen, invoke]
  exact h
theorem args_two {cl : Call} {x y : PVal} (h : cl.args.toList.map ev = [x, y]) : ∃ a b, cl.args = #[a, b] ∧ ev a = x ∧ ev b = y := by
  generalize cl.args = A at h ⊢
  obtain ⟨l⟩ := A
  match l, h with
  | [a, b], h => simp at h; exact ⟨a, b, rfl, h.1, h.2⟩
theorem args_one {cl : Call} {x : PVal} (h : cl.args.toList.map ev = [x]) : ∃ a, cl.args = #[a] ∧ ev a = x := by
  generalize cl.args = A at h ⊢
  obtain ⟨l⟩ := A
  match l, h with
  | [a], h => simp at h; exact ⟨a, rfl, h⟩
theorem s_bi1 (hr : HR wt Fb w R g) (he : Evs w (Wr Fb R g) R g ρ ev) {cl : Call} {b : Builtin} (ho : o.op = .call cl) (hb : cl.callee = .builtin b) (hna : b ≠ .append) (h : biF (tiE P rw) b (cl.args.toList.map ev) cl.argTypes.toList o.dst R = some (c, p, us)) (hc : allP c) : StepOk P wt Fb o ρ w R g p us := by
  unfold biF at h
  split at h
  · rename_i x T hargs hT
    obtain ⟨a, ha, rfl⟩ := args_one hargs
    have hx := he a
    have hTs : cl.argTypes = #[T] := by rw [← hT]
    split at h
    · rename_i _ n z s ht ex
      rw [ex] at hx
      cases h
      have hv : ρ a = .string s := hx.1
      refine stepOk_pure hr (v := .int .i64 s.size) (call_bi ho hb (by simp [builtin, ha, hTs, Builtin.len_, run_underlying (ti_string ht), hv, Result.andThen, goInt])) ⟨rfl, ?_⟩
      have := hx.2
      exact IntWalk.i64_in _ (by simp only [lenOk] at this; omega)
    · rename_i _ n z el τ by' e T0 id ver ht ex
      split at h
      · rename_i e1 l T1 ver' hR
        split at h
        · rename_i hcc
          subst hcc
          cases h
          rw [ex] at hx
          obtain ⟨l', v', q1, q2, q3, q4⟩ := hx
          rw [hR] at q1
          cases q1
          have hv := q4 rfl
          obtain ⟨hu, _⟩ := ti_slice ht
          obtain ⟨xs, hrow, _⟩ := hr.res id _ hR
          have hvn : ∃ A c, ρ a = .slice A (List.length l') c ∧ List.length l' ≤ maxLen := by
            rcases hrow.2 with ⟨h1, h0⟩ | ⟨gb, cap, cur, h1, _, _, h2, h3, _⟩
            · rw [h1] at hv; exact ⟨none, 0, by rw [hv, h0], by rw [h0]; exact Nat.zero_le _⟩
            · rw [h1] at hv; exact ⟨_, _, hv, Nat.le_trans h2 h3⟩
          obtain ⟨A, c, hv, hle⟩ := hvn
          refine stepOk_pure hr (v := .int .i64 (List.length l')) (call_bi ho hb (by simp [builtin, ha, hTs, Builtin.len_, run_underlying hu, hv, Result.andThen, goInt])) ⟨rfl, ?_⟩
          exact IntWalk.i64_in _ (by simp only [maxLen] at hle; omega)
        · cases h
      · cases h
    · rename_i _ n z el τ by' ht _
      simp only [Option.map_eq_some_iff] at h
      obtain ⟨xs, hxs, h⟩ := h
      cases h
      obtain ⟨hu, _⟩ := ti_slice ht
      obtain ⟨A, cp, hv, hle, hcp, hL⟩ := asList_sound hxs hx
      simp only [List.cons.injEq, and_true] at hv
      refine stepOk_pure hr (v := .int .i64 (List.length xs)) (call_bi ho hb (by simp [builtin, ha, hTs, Builtin.len_, run_underlying hu, hv, Result.andThen, goInt])) ⟨rfl, ?_⟩
      exact IntWalk.i64_in _ (by simp only [lenOk] at hcp; omega)
    · cases h
  · exact absurd rfl hna
  · rename_i x y _ _ hargs hT
    obtain ⟨a, b, ha, ex, ey⟩ := args_two hargs
    have hx := he a
    have hy := he b
    rw [ex] at hx
    rw [ey] at hy
    cases h
    have hv : ρ a = .int .i64 x := hx.1
    have hv' : ρ b = .int .i64 y := hy.1
    refine stepOk_pure hr (v := .int .i64 (if y < x then y else x)) (call_bi ho hb (by simp [builtin, ha, Builtin.min_, Builtin.min2, hv, hv', Result.andThen])) ⟨rfl, ?_⟩
    split
    · exact hy.2
    · exact hx.2
  · rename_i x y _ _ hargs hT
    obtain ⟨a, b, ha, ex, ey⟩ := args_two hargs
    have hx := he a
    have hy := he b
    rw [ex] at hx
    rw [ey] at hy
    cases h
    have hv : ρ a = .int .i64 x := hx.1
    have hv' : ρ b = .int .i64 y := hy.1
    refine stepOk_pure hr (v := .int .i64 (if x < y then y else x)) (call_bi ho hb (by simp [builtin, ha, Builtin.max_, Builtin.max2, hv, hv', Result.andThen])) ⟨rfl, ?_⟩
    split
    · exact hy.2
    · exact hx.2
  · cases h
end Go.Proofs.YtpmnhbjbkoackaaDoor.En
