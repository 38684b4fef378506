/- Each operation of the plain run is what the model makes of it: rows that are made and appended to. -/
import Derived.Test.YtpmnhbjbkoackaaDoorEn6
namespace Go.Proofs.YtpmnhbjbkoackaaDoor.En
open Go Go.RowKit
set_option linter.unusedVariables false
set_option linter.unusedSimpArgs false
variable {P : Program} {rw : Nat → Bool} {wt : World} {Fb : Nat → Nat → Prop} {w w' : World} {R R' : Nat → Option Res} {g g' : Gh} {o : Oper} {ρ : Operand → Value} {ev : Operand → PVal} {c : List Cnd} {p : PVal} {us : List (Nat × Res)}

theorem FR.nil {α : Type} (sz : Nat) (D : α → List Value → Prop) : FR sz D [] ([] : List α) := ⟨by simp, fun i x h => by simp at h⟩
theorem FR.append {α : Type} {sz : Nat} {D : α → List Value → Prop} {xs ys : List Value} {l m : List α} (h : FR sz D xs l) (h' : FR sz D ys m) : FR sz D (xs ++ ys) (l ++ m) := by
  refine ⟨by simp [h.1, h'.1, Nat.add_mul], fun i x hx => ?_⟩
  by_cases hi : i < l.length
  · rw [List.getElem?_append_left hi] at hx
    obtain ⟨vs, h1, h2, h3⟩ := h.2 i x hx
    refine ⟨vs, h1, h2, fun j u hu => ?_⟩
    have := h3 j u hu
    rw [List.getElem?_append_left (List.getElem?_eq_some_iff.1 this).1]
    exact this
  · rw [List.getElem?_append_right (by omega)] at hx
    obtain ⟨vs, h1, h2, h3⟩ := h'.2 _ x hx
    refine ⟨vs, h1, h2, fun j u hu => ?_⟩
    have := h3 j u hu
    have e : i * sz = l.length * sz + (i - l.length) * sz := by rw [← Nat.add_mul]; congr 1; omega
    rw [List.getElem?_append_right (by rw [h.1]; omega), h.1]
    rwa [show i * sz + j - l.length * sz = (i - l.length) * sz + j by omega]
theorem FR.one {α : Type} {sz : Nat} {D : α → List Value → Prop} {vs : List Value} {x : α} (h : vs.length = sz) (hd : D x vs) : FR sz D vs [x] := by
  refine ⟨by simp [h], fun i y hy => ?_⟩
  cases i with
  | zero => simp at hy; subst hy; exact ⟨vs, h, hd, fun j u hu => by simpa using hu⟩
  | succ i => simp at hy
theorem FR.ones {α : Type} {sz : Nat} {D : α → List Value → Prop} {xs : List Value} {l : List α} (h : FR sz D xs l) (hD : ∀ x vs, D x vs → ∀ v ∈ vs, v.oneCell' = true) (hs : 0 < sz) : ∀ v ∈ xs, v.oneCell' = true := by
  intro v hv
  obtain ⟨k, hk⟩ := List.getElem?_of_mem hv
  have hlt : k < l.length * sz := by rw [← h.1]; exact (List.getElem?_eq_some_iff.1 hk).1
  have hi : k / sz < l.length := Nat.div_lt_of_lt_mul (by rwa [Nat.mul_comm])
  obtain ⟨vs, h1, h2, h3⟩ := h.2 (k / sz) _ (List.getElem?_eq_getElem hi)
  have hj : k % sz < vs.length := by rw [h1]; exact Nat.mod_lt _ hs
  have := h3 (k % sz) _ (List.getElem?_eq_getElem hj)
  rw [show k / sz * sz + k % sz = k by rw [Nat.mul_comm]; exact Nat.div_add_mod k sz, hk] at this
  cases this
  exact hD _ _ h2 _ (List.getElem_mem _)
/-- The cells of a list in memory. -/
theorem LC.flat {α : Type} {W : Nat → Nat → Prop} {sz : Nat} {D : α → List Value → Prop} : ∀ (l : List α) (b o : Nat),
    (∀ (i : Nat) (x : α), l[i]? = some x → ∃ vs : List Value, vs.length = sz ∧ D x vs ∧ ∀ (j : Nat) (v : Value), vs[j]? = some v → w.cell? ⟨b, o + i * sz + j, none⟩ = some v ∧ ¬ W b (o + i * sz + j)) →
    ∃ xs, FR sz D xs l ∧ ∀ (j : Nat) (u : Value), xs[j]? = some u → w.cell? ⟨b, o + j, none⟩ = some u ∧ ¬ W b (o + j)
  | [], b, o, _ => ⟨[], FR.nil _ _, fun j u h => by simp at h⟩
  | x :: l, b, o, h => by
    obtain ⟨vs, h1, h2, h3⟩ := h 0 x rfl
    obtain ⟨xs, hx, hc⟩ := LC.flat l b (o + sz) (fun i y hy => by
      obtain ⟨us, k1, k2, k3⟩ := h (i + 1) y (by simpa using hy)
      refine ⟨us, k1, k2, fun j v hv => ?_⟩
      have := k3 j v hv
      rwa [show o + (i + 1) * sz + j = o + sz + i * sz + j by rw [Nat.add_mul]; omega] at this)
    refine ⟨vs ++ xs, FR.append (l := [x]) (FR.one h1 h2) hx, fun j u hu => ?_⟩
    by_cases hj : j < vs.length
    · rw [List.getElem?_append_left hj] at hu
      have := h3 j u hu
      simpa using this
    · rw [List.getElem?_append_right (by omega)] at hu
      have := hc _ u hu
      rwa [show o + sz + (j - vs.length) = o + j by omega] at this
/-- A row that is owned, read as a list. -/
theorem DV_of_row {W : Nat → Nat → Prop} {e : Ty} {T : TypeId} {v : Value} {l : List e.T} {xs : List Value} (hrow : w.ownsRow 0 T e.sz v (List.length l) xs) (hf : FR e.sz (DV w W e) xs l)
    (hW : ∀ b o, v.ownBlock = some b → o < List.length l * e.sz → ¬ W b o) : DV w W (.list e) l [v] := by
  rcases hrow.2 with ⟨rfl, hn⟩ | ⟨gb, cap, cur, rfl, h1, h2, h3, h4, h5, h6⟩
  · have : l = [] := List.eq_nil_of_length_eq_zero hn
    subst this
    exact ⟨none, 0, rfl, Nat.le_refl _, by simp [lenOk], .inl rfl⟩
  · refine ⟨some ⟨gb, 0, none⟩, cap, rfl, h3, by simpa [lenOk, maxLen] using h4, .inr ⟨gb, 0, rfl, fun i x hx => ?_⟩⟩
    obtain ⟨vs, k1, k2, k3⟩ := hf.2 i x hx
    refine ⟨vs, k1, k2, fun j u hu => ?_⟩
    have hxs := k3 j u hu
    have hlt : i * e.sz + j < List.length l * e.sz := by
      have := (List.getElem?_eq_some_iff.1 hxs).1
      rw [hf.1] at this
      exact this
    have := World.ownsRow.cells hrow (g := gb) rfl _ u hxs
    rw [add_lit] at this
    refine ⟨by simpa using this, by simpa using hW gb _ rfl hlt⟩
/-- What a row that is owned holds, out of its reading as a list. -/
theorem FR_of_row {W : Nat → Nat → Prop} {e : Ty} {T : TypeId} {v : Value} {l : List e.T} {xs : List Value} (hrow : w.ownsRow 0 T e.sz v (List.length l) xs) (hd : DV w W (.list e) l [v]) : FR e.sz (DV w W e) xs l := by
  obtain ⟨A, c, hv, h1, h2, hL⟩ := hd
  simp only [List.cons.injEq, and_true] at hv
  subst hv
  refine ⟨hrow.1, fun i x hx => ?_⟩
  obtain ⟨b, o, rfl, vs, k1, k2, k3⟩ := hL.get hx
  refine ⟨vs, k1, k2, fun j u hu => ?_⟩
  have hc := (k3 j u hu).1
  rcases hrow.2 with ⟨hn, _⟩ | ⟨gb, cap, cur, hv, j1, j2, j3, j4, j5, j6⟩
  · cases hn
  · simp only [Value.slice.injEq, Option.some.injEq, Addr.mk.injEq, and_true, true_and] at hv
    obtain ⟨⟨rfl, rfl⟩, rfl⟩ := hv
    have hlt : i * e.sz + j < List.length l * e.sz := by
      have hj : j < e.sz := by rw [← k1]; exact (List.getElem?_eq_some_iff.1 hu).1
      have hi := (List.getElem?_eq_some_iff.1 hx).1
      calc i * e.sz + j < i * e.sz + e.sz := by omega
        _ = (i + 1) * e.sz := by rw [Nat.add_mul]; omega
        _ ≤ List.length l * e.sz := Nat.mul_le_mul_right _ hi
    have := World.ownsRow.cellAt hrow (i * e.sz + j) hlt
    rw [← this]
    simpa using hc
/-- append onto a row of the call's own: either in place, or a new row. -/
theorem append_own' (t ty e : TypeId) (i : TypeInfo) (z : Value) (ht : P.underlying t = some (.slice e)) (hi : P.info? e = some i) (hz : i.zero = some z) (hzs : z.cells.size = i.size) (hsz : 0 < i.size)
    (v : Value) (n : Nat) (xs : List Value) (hown : w.ownsRow 0 e i.size v n xs)
    (A : Option Addr) (m c : Nat) (news : List Value) (hl : news.length = m * i.size) (hA : 0 < m → A ≠ none) (hnews : ∀ a, A = some a → ∀ (j : Nat) (u : Value), news[j]? = some u → w.cell? (a.add j) = some u) (h1 : ∀ u ∈ news, u.oneCell' = true)
    (h63 : n + m ≤ 9223372036854775807) (hbytes : (n + m) * i.bytes ≤ 140737488355328) :
    ∃ v' w', (Builtin.append_ #[t, t] ty #[v, .slice A m c]).run P w = .ok v' w' ∧ w'.ownsRow 0 e i.size v' (n + m) (xs ++ news) ∧
      ((w.grownBy w' v.ownBlock ∧ v'.ownBlock = v.ownBlock) ∨ (w.grownBy w' none ∧ v'.ownBlock = some w.heap.size ∧ w.heap.size < w'.heap.size)) := by
  have h63' : n + m ≤ maxLen := by simpa [maxLen] using h63
  have hlen : (xs ++ news).length = (n + m) * i.size := by rw [List.length_append, hown.1, hl, Nat.add_mul]
  by_cases hm : m = 0
  · subst hm
    have hn : news = [] := List.eq_nil_of_length_eq_zero (by simpa using hl)
    subst hn
    refine ⟨v, w, ?_, by simpa using hown, .inl ⟨⟨rfl, rfl, rfl, Nat.le_refl _, fun _ _ _ => rfl⟩, rfl⟩⟩
    have hfirst : (Builtin.firstCells i.size 0 (.slice A 0 c)).run P w = .ok #[] w := by
      cases A <;> simp [Builtin.firstCells, loadCells, loadCellsFrom]
    rcases hown.2 with ⟨rfl, rfl⟩ | ⟨gb, cap, cur, rfl, _, _, hnc, _⟩
    · simp [Builtin.append_, run_underlying ht, sizeOf, typeInfo, hi, Builtin.lenOf, hfirst]
    · simp [Builtin.append_, run_underlying ht, sizeOf, typeInfo, hi, Builtin.lenOf, hfirst, hnc, storeCells]
  · obtain ⟨a, rfl⟩ : ∃ a, A = some a := by
      cases A with
      | none => exact absurd rfl (hA (by omega))
      | some a => exact ⟨a, rfl⟩
    have hnews' := hnews a rfl
    have grown : ∀ (old : Nat), old < n + m →
        (w.drew.alloc (.cells (xs.toArray ++ news.toArray ++ Builtin.zeroCells z.cells (grownCap w (n + m) old e - (n + m))) e)).ownsRow 0 e i.size
          (.slice (some ⟨w.heap.size, 0, none⟩) (n + m) (grownCap w (n + m) old e)) (n + m) (xs ++ news) ∧
        w.grownBy (w.drew.alloc (.cells (xs.toArray ++ news.toArray ++ Builtin.zeroCells z.cells (grownCap w (n + m) old e - (n + m))) e)) none := by
      intro old ho
      have hge := grownCap_ge w (n + m) old e
      have hcm : grownCap w (n + m) old e ≤ maxLen := grownCap_le_maxLen w (n + m) old e h63'
      refine ⟨⟨hlen, .inr ⟨w.heap.size, _, _, rfl, Nat.zero_le _, alloc_new w.drew _, hge, hcm, ?_, ?_⟩⟩, ⟨rfl, rfl, rfl, by simp, fun k hk _ => alloc_other w.drew _ k hk⟩⟩
      · simp only [Array.size_append, List.size_toArray, size_zeroCells, hzs, hown.1, hl, ← Nat.add_mul]
        congr 1
        omega
      · simp only [Array.toList_append, List.append_assoc]
        rw [← List.append_assoc, ← hlen]
        exact List.take_left
    rcases hown.2 with ⟨rfl, rfl⟩ | ⟨gb, cap, cur, rfl, hbg, hg, hnc, hcm, hcs, htake⟩
    · have hx : xs = [] := List.eq_nil_of_length_eq_zero (by simpa using hown.1)
      subst hx
      have hr := run_append_nil (P := P) w t ty e i z ht hi hz a m c news hl hnews' (by omega) (by omega) (by have hb := hbytes; simp only [Nat.zero_add] at hb; omega)
      have hgr := grown 0 (by omega)
      simp only [Nat.zero_add, List.nil_append, Array.empty_append] at hgr ⊢
      exact ⟨_, _, hr, hgr.1, .inr ⟨hgr.2, rfl, by simp⟩⟩
    · by_cases hroom : n + m ≤ cap
      · have hfit : n * i.size + news.length ≤ cur.size := by rw [hl, hcs, ← Nat.add_mul]; exact Nat.mul_le_mul_right _ hroom
        have hr := run_append_room (P := P) w t ty e i ht hi gb n cap cur hg a m c news hl hnews' h1 hroom hfit
        refine ⟨_, _, hr, ⟨hlen, .inr ⟨gb, cap, _, rfl, hbg, setRow_heap w gb cur _ e _ hg, hroom, hcm, ?_, ?_⟩⟩, .inl ⟨⟨rfl, rfl, rfl, by simp, fun k _ hk => setRow_other w gb k _ (fun e => hk (by simp [Value.ownBlock, e]))⟩, rfl⟩⟩
        · simp only [List.size_toArray, List.length_append, List.length_take, List.length_drop, Array.length_toList]
          omega
        · rw [htake, ← hlen]
          exact List.take_left
      · have holds : ∀ j u, xs[j]? = some u → w.cell? ((⟨gb, 0, none⟩ : Addr).add j) = some u := hown.cells (g := gb) rfl
        have hr := run_append_grow (P := P) w t ty e i z ht hi hz ⟨gb, 0, none⟩ n cap xs hown.1 holds a m c news hl hnews' (by omega) (by omega) (growslice_fits (by omega) hbytes)
        have hgr := grown cap (by omega)
        exact ⟨_, _, hr, hgr.1, .inr ⟨hgr.2, rfl, by simp⟩⟩
/-- The source of an append, out of its reading. -/
theorem src_of {W : Nat → Nat → Prop} {e : Ty} {ys : List e.T} {v : Value} (h : DV w W (.list e) ys [v]) :
    ∃ A cp news, v = .slice A (List.length ys) cp ∧ FR e.sz (DV w W e) news ys ∧ (0 < List.length ys → A ≠ none) ∧
      ∀ a, A = some a → ∀ (j : Nat) (u : Value), news[j]? = some u → w.cell? (a.add j) = some u := by
  obtain ⟨A, cp, hv, h1, h2, hL⟩ := h
  simp only [List.cons.injEq, and_true] at hv
  rcases hL with rfl | ⟨b, o, rfl, hL⟩
  · exact ⟨A, cp, [], hv, FR.nil _ _, fun h => by simp at h, fun a _ j u hu => by simp at hu⟩
  · obtain ⟨xs, hf, hc⟩ := LC.flat ys b o hL
    exact ⟨_, cp, xs, hv, hf, fun _ => by simp, fun a e j u hu => by cases e; rw [add_lit]; exact (hc j u hu).1⟩
theorem src_sound (hr : HR wt Fb w R g) {τ : Ty} {ys : List τ.T} {q : PVal} {v : Value} (h : srcF τ R q = some ys) (hv : PV w (Wr Fb R g) R g v q) :
    ∃ A cp news, v = .slice A (List.length ys) cp ∧ FR τ.sz (DV w (Wr Fb R g) τ) news ys ∧ (0 < List.length ys → A ≠ none) ∧
      ∀ a, A = some a → ∀ (j : Nat) (u : Value), news[j]? = some u → w.cell? (a.add j) = some u := by
  unfold srcF at h
  split at h
  · rename_i e T0 id ver
    split at h
    · rename_i e1 l T1 ver' hR
      split at h
      · rename_i he
        subst he
        split at h
        · rename_i hc
          obtain ⟨rfl, rfl, rfl⟩ := hc
          cases h
          obtain ⟨l', v', q1, q2, q3, q4⟩ := hv
          rw [hR] at q1
          cases q1
          have hv := q4 rfl
          obtain ⟨xs, hrow, hfr⟩ := hr.res id _ hR
          cases hloc : g.loc id with
          | some b =>
            refine ⟨_, _, xs, hv.trans (rowV_some hloc), hfr, fun _ => by simp, fun a ea j u hu => ?_⟩
            cases ea
            exact World.ownsRow.cells hrow (g := b) (by rw [rowV_block]; exact hloc) j u hu
          | none =>
            have hv1 : rowV g id (List.length l) = .slice none 0 0 := by unfold rowV; rw [hloc]
            have h0 : List.length l = 0 := by
              rcases hrow.2 with ⟨_, q⟩ | ⟨gb, cap, cur, q, _⟩
              · exact q
              · rw [hv1] at q; cases q
            exact ⟨none, 0, xs, by rw [hv, hv1, h0], hfr, fun h => absurd h (by show ¬ 0 < List.length l; omega), fun a ea => by cases ea⟩
        · cases h
      · cases h
    · cases h
  · exact src_of (asList_sound h hv)
def capOf : Value → Nat
  | .slice _ _ c => c
  | _ => 0
theorem rowV_at {T sz n : Nat} {v : Value} {xs : List Value} {d : Nat} (h : w.ownsRow 0 T sz v n xs) : rowV (g.at' d v.ownBlock (capOf v)) d n = v := by
  rcases h.2 with ⟨rfl, h0⟩ | ⟨gb, cap, cur, rfl, _⟩
  · subst h0; simp [rowV, Value.ownBlock]
  · simp [rowV, Value.ownBlock, capOf]
/-- A new list whose elements may be written. -/
theorem birth_row (hr : HR wt Fb w R g) {d : Nat} (hd : R d = none) {el : TypeId} {τ : Ty} {v' : Value} {w' : World} {ys : List τ.T} {news : List Value} (hrow : w'.ownsRow 0 el τ.sz v' (List.length ys) news)
    (hfn : FR τ.sz (DV w (Wr Fb R g) τ) news ys) (hgr : w.grownBy w' none) (hbo : ∀ b1, v'.ownBlock = some b1 → w.heap.size ≤ b1 ∧ b1 < w'.heap.size) (hrun : (execOp ρ o).run P w = .ok (.value v') w') :
    StepOk P wt Fb o ρ w R g (.p (.one (.row τ el d 0))) [(d, .row τ ys el 0)] := by
  have heff := new_eff (w' := w') (d := d) (k := capOf v') (bo := v'.ownBlock) (r := .row τ ys el 0) hr hd hbo hgr.os hgr.tape hgr.output hgr.size (fun b1 hb1 => hgr.block b1 hb1 (by simp)) (fun htr =>
    ⟨news, by rw [rowV_at hrow]; exact hrow, hfn.mono fun x vs h => DV.mono htr.kp h⟩)
  refine ⟨_, v', w', _, hrun, .inl rfl, ⟨ys, 0, by rw [up_one, if_pos rfl], Nat.le_refl _, ?_, fun _ => (rowV_at hrow).symm⟩, heff⟩
  rw [← rowV_at (g := g) (d := d) hrow]
  exact rowV_one
theorem FR.take {α : Type} {sz : Nat} {D : α → List Value → Prop} {xs : List Value} {l : List α} (h : FR sz D xs l) {k : Nat} (hk : k ≤ l.length) : FR sz D (xs.take (k * sz)) (l.take k) := by
  have hle : k * sz ≤ l.length * sz := Nat.mul_le_mul_right _ hk
  refine ⟨by rw [List.length_take, List.length_take, h.1, Nat.min_eq_left hle, Nat.min_eq_left hk], fun i x hx => ?_⟩
  rw [List.getElem?_take] at hx
  split at hx
  · rename_i hi
    obtain ⟨vs, h1, h2, h3⟩ := h.2 i x hx
    refine ⟨vs, h1, h2, fun j u hu => ?_⟩
    have hj : j < sz := by rw [← h1]; exact (List.getElem?_eq_some_iff.1 hu).1
    have : i * sz + sz ≤ k * sz := by
      have := Nat.mul_le_mul_right sz (show i + 1 ≤ k from hi)
      rwa [Nat.add_mul, Nat.one_mul] at this
    rw [List.getElem?_take, if_pos (by omega)]
    exact h3 j u hu
  · cases hx
/-- A cut of a list that may be written, from its begin on. -/
theorem s_slice_row (hr : HR wt Fb w R g) (he : Evs w (Wr Fb R g) R g ρ ev) {x : Operand} {lo hi mx : Option Operand} {T : TypeId} (ho : o.op = .slice T x lo hi mx) {e : Ty} {T0 id ver : Nat} (ex : ev x = .p (.one (.row e T0 id ver))) (h : stepF (tiE P rw) o ev R = some (c, p, us)) (hc : allP c) : StepOk P wt Fb o ρ w R g p us := by
  cases mx with
  | some m => simp [stepF, ho] at h
  | none =>
  simp only [stepF, ho] at h
  have hx := he x
  rw [ex] at h hx
  split at h
  · rename_i h0; cases h0
  · rename_i a n z el τ by' e' T0' id' ver' ht h0
    cases h0
    split at h
    · rename_i e1 l T1 ver1 hR
      split at h
      · rename_i _ _ hh hhi
        split at h
        · rename_i hcc
          obtain ⟨rfl, rfl, rfl⟩ := hcc
          cases h
          obtain ⟨⟨h0, h1⟩, _⟩ := hc
          obtain ⟨l', v', q1, q2, q3, q4⟩ := hx
          rw [hR] at q1
          cases q1
          have hv := q4 rfl
          obtain ⟨xs, hrow, hfr⟩ := hr.res id _ hR
          obtain ⟨hu, ie, ze, k1, k2, k3, k4, k5, k6⟩ := ti_slice ht
          have hk : hh.toNat ≤ List.length l := by omega
          have htl : List.length (l.take hh.toNat) = hh.toNat := by rw [List.length_take]; omega
          have hcap : ∃ A cap, rowV g id (List.length l) = .slice A (List.length l) cap ∧ List.length l ≤ cap ∧ rowV g id hh.toNat = .slice A hh.toNat cap := by
            cases hloc : g.loc id with
            | some b =>
              rw [rowV_some hloc] at hrow
              rcases hrow.2 with ⟨q, _⟩ | ⟨gb, cap, cur, hv0, _, _, j3, _⟩
              · cases q
              · simp only [Value.slice.injEq, true_and] at hv0
                exact ⟨_, _, rowV_some hloc, by rw [hv0.2]; exact j3, rowV_some hloc⟩
            | none =>
              have hv1 : ∀ n, rowV g id n = .slice none 0 0 := fun n => by unfold rowV; rw [hloc]
              rw [hv1] at hrow
              rcases hrow.2 with ⟨_, q⟩ | ⟨gb, cap, cur, hv0, _⟩
              · exact ⟨none, 0, by rw [hv1, q], by omega, by rw [hv1, show hh.toNat = 0 by omega]⟩
              · cases hv0
          obtain ⟨A, cap, hv1, hle, hv2⟩ := hcap
          have hb : (Instr.sliceBounds true (List.length l) cap none (hi.map ρ) none).run P w = .ok (0, hh.toNat, cap) w := bounds_run (P := P) (l := 0) (lo := none) true he (by rfl) hhi (Int.le_refl 0) h0 h1 hle
          refine ⟨_, rowV g id hh.toNat, w, g.at' id (g.loc id) (g.tip id), ?_, .inl rfl, ?_, ?_⟩
          · simp [execOp, ho, Instr.sliceAt, run_underlying hu, Instr.slice, hv, hv1, hv2, Result.andThen, hb, run_sizeOf' k1]
            cases A with
            | none => simp
            | some ad => simp [Addr.add]
          · exact ⟨_, ver + 1, by rw [up_one, if_pos rfl], Nat.le_refl _, rowV_one, fun _ => by rw [htl]; exact (rowV_eq (by simp) (by simp))⟩
          · refine chg_eff hr hR (fun b e => ⟨.inl e, (hr.base id _ b hR e).2⟩) rfl rfl rfl (Nat.le_refl _) (fun _ _ _ => rfl) ?_ ?_ ?_ ?_
            · intro b1 o1 v1 hb1 _ hno
              exact absurd ⟨id, _, hR, hb1, fun v hv => by cases hv⟩ hno
            · intro b1 o1 hb1 _ _
              exact ⟨id, _, hR, hb1, fun v hv => by cases hv⟩
            · exact ⟨rfl, rfl, by omega, fun e => by omega⟩
            · intro htr
              refine ⟨xs.take (hh.toNat * e.sz), ?_, (hfr.mono fun x vs h => DV.mono htr.kp h).take hk⟩
              rw [htl, rowV_eq (g := g) (id := id) (by simp) (by simp)]
              refine ⟨by rw [List.length_take, hrow.1]; exact Nat.min_eq_left (Nat.mul_le_mul_right _ hk), ?_⟩
              rcases hrow.2 with ⟨q, q0⟩ | ⟨gb, cp, cur, hv0, j1, j2, j3, j4, j5, j6⟩
              · left
                rw [hv1] at q
                simp only [Value.slice.injEq] at q
                obtain ⟨rfl, _, rfl⟩ := q
                have : hh.toNat = 0 := by omega
                exact ⟨by rw [hv2, this], this⟩
              · right
                rw [hv1] at hv0
                simp only [Value.slice.injEq, true_and] at hv0
                obtain ⟨rfl, rfl⟩ := hv0
                refine ⟨gb, cap, cur, hv2, j1, j2, by omega, j4, j5, ?_⟩
                rw [← j6, List.take_take, Nat.min_eq_left (Nat.mul_le_mul_right _ hk)]
        · cases h
      · cases h
    · cases h
  · exfalso
    simp_all
    rename_i hn
    exact hn e T0 id ver rfl rfl rfl rfl
  · cases h
theorem s_append (hr : HR wt Fb w R g) (he : Evs w (Wr Fb R g) R g ρ ev) {cl : Call} (ho : o.op = .call cl) (hb : cl.callee = .builtin .append) (h : biF (tiE P rw) .append (cl.args.toList.map ev) cl.argTypes.toList o.dst R = some (c, p, us)) (hc : allP c) : StepOk P wt Fb o ρ w R g p us := by
  unfold biF at h
  split at h
  · rename_i h0 _ _; cases h0
  · rename_i x y T T' _ hargs hT
    obtain ⟨a, b, ha, ex, ey⟩ := args_two hargs
    have hx := he a
    have hy := he b
    rw [ex] at hx
    rw [ey] at hy
    split at h
    · rename_i eT
      subst eT
      have hTs : cl.argTypes = #[T, T] := by rw [← hT]
      split at h
      · rename_i ia n z el τ bytes d ht _
        obtain ⟨hu, ie, ze, k1, k2, k3, k4, k5, k6⟩ := ti_slice ht
        subst k3
        split at h
        · rename_i ys hys
          obtain ⟨A, cp, news, hv, hfn, hAn, hnews⟩ := src_sound hr hys hy
          have hones := hfn.ones (fun x vs h => DV.one h) (Ty.sz_pos τ)
          have hfl : news.length = List.length ys * ie.size := by rw [k2]; exact hfn.1
          split at h
          · rename_i e l T0 id ver
            split at h
            · rename_i ee
              subst ee
              split at h
              · rename_i ver' hid
                split at h
                · rename_i hver
                  obtain ⟨rfl, rfl⟩ := hver
                  cases h
                  obtain ⟨hxd, ver2, h2, h3, h4⟩ := hx
                  rw [hid] at h2
                  cases h2
                  obtain ⟨hob, xs, hrow, htip⟩ := h4 rfl
                  have hrow' : w.ownsRow 0 T0 ie.size (ρ a) (List.length l) xs := by rw [k2]; exact hrow
                  obtain ⟨v', w', hrun, hrow2, hcase⟩ := append_own' (P := P) T o.type T0 ie ze hu k1 k4 (k5.trans k2.symm) (by rw [k2]; exact Ty.sz_pos _) (ρ a) (List.length l) xs hrow' A (List.length ys) cp news hfl hAn hnews hones hc.1.2 hc.1.1
                  have hfx : FR e.sz (DV w (Wr Fb R g) e) xs l := FR_of_row hrow hxd
                  have hll : List.length (l ++ ys) = List.length l + List.length ys := by simp
                  have hrow3 : w'.ownsRow 0 T0 e.sz v' (List.length (l ++ ys)) (xs ++ news) := by rw [hll, ← k2]; exact hrow2
                  -- where it lies
                  have hos : w'.os = w.os := by rcases hcase with ⟨q, _⟩ | ⟨q, _⟩ <;> exact q.os
                  have htape : w'.tape = w.tape := by rcases hcase with ⟨q, _⟩ | ⟨q, _⟩ <;> exact q.tape
                  have hout : w'.output = w.output := by rcases hcase with ⟨q, _⟩ | ⟨q, _⟩ <;> exact q.output
                  have hsize : w.heap.size ≤ w'.heap.size := by rcases hcase with ⟨q, _⟩ | ⟨q, _⟩ <;> exact q.size
                  have hloc : g.loc id = (ρ a).ownBlock := hob.symm
                  have hold : ∀ b1, b1 < w.heap.size → g.loc id ≠ some b1 → w'.heap[b1]? = w.heap[b1]? := by
                    intro b1 hb1 hne
                    rcases hcase with ⟨q, _⟩ | ⟨q, _⟩
                    · exact q.block b1 hb1 (fun e => hne (by rw [hloc, ← e]))
                    · exact q.block b1 hb1 (by simp)
                  have hbo : ∀ b1, v'.ownBlock = some b1 → (g.loc id = some b1 ∨ w.heap.size ≤ b1) ∧ b1 < w'.heap.size := by
                    intro b1 hb1
                    rcases hcase with ⟨q, e2⟩ | ⟨q, e2, e3⟩
                    · rw [e2, hob] at hb1
                      exact ⟨.inl hb1, Nat.lt_of_lt_of_le (hr.base id _ b1 hid hb1).2 q.size⟩
                    · rw [e2] at hb1; cases hb1; exact ⟨.inr (Nat.le_refl _), e3⟩
                  have heff := chg_eff (w' := w') (id := id) (k := List.length (l ++ ys) * e.sz) (bo := v'.ownBlock) (r0 := .tok ver) (r1 := .tok (ver + 1)) hr hid hbo hos htape hout hsize hold (by
                    intro b1 o1 v1 hb1 hc1 hno
                    have hlt : o1 < g.tip id := by
                      rcases Nat.lt_or_ge o1 (g.tip id) with h | h
                      · exact h
                      · exact absurd ⟨id, _, hid, hb1, fun _ _ => h⟩ hno
                    rw [htip b1 hb1] at hlt
                    refine ⟨?_, fun _ => ⟨ver + 1, rfl, by rw [hll, Nat.add_mul]; omega⟩⟩
                    rcases hcase with ⟨q, e2⟩ | ⟨q, e2, e3⟩
                    · have hblk : v'.ownBlock = some b1 := by rw [e2, hob]; exact hb1
                      rcases hrow.2 with ⟨e4, _⟩ | ⟨gb, cap, cur, e4, _⟩
                      · rw [e4] at hob; rw [← hob] at hb1; cases hb1
                      · rw [e4] at hob
                        have eg : gb = b1 := by rw [← hob] at hb1; simpa [Value.ownBlock] using hb1
                        subst eg
                        rw [e4] at hrow
                        have c1 := World.ownsRow.cellAt hrow o1 hlt
                        rw [hc1] at c1
                        have := World.ownsRow.cells hrow3 hblk o1 v1 (by rw [List.getElem?_append_left (by rw [hrow.1]; exact hlt)]; exact c1.symm)
                        rw [add_lit] at this
                        simpa using this
                    · rw [World.cell?_of_block (q.block b1 (World.block_lt_of_cell? _ _ hc1) (by simp))]
                      exact hc1) (by
                    intro b1 o1 hb1 hlt hk
                    have hk' := hk _ rfl
                    rcases (hbo b1 hb1).1 with h | h
                    · exact ⟨id, _, hid, h, fun v hv => by rw [htip b1 h]; refine Nat.le_trans ?_ hk'; rw [hll, Nat.add_mul]; omega⟩
                    · omega) ⟨by omega, fun e => by omega⟩ (fun htr => by
                    intro b1 hb1
                    simp only [Gh.at'_loc, if_pos] at hb1
                    exact tok_of_row (d := 0) hrow3 rfl b1 hb1)
                  refine ⟨_, v', w', _, call_bi ho hb (v := v') (w1 := w') ?_, .inl rfl, ?_, heff⟩
                  · simp [builtin, ha, hTs, hv, hrun, Result.andThen]
                  · refine ⟨DV_of_row hrow3 ((hfx.append hfn).mono (fun x vs h => DV.mono heff.tr.kp h)) ?_, ver + 1, by rw [up_one, if_pos rfl], Nat.le_refl _, fun _ => ⟨by simp, xs ++ news, hrow3, fun b1 _ => by simp⟩⟩
                    intro b1 o1 hb1 hlt hW
                    rcases hW with hf | ⟨id2, r2, q1, q2, q3⟩
                    · have hb1s := hr.fbs b1 o1 hf
                      rcases (hbo b1 hb1).1 with h | h
                      · exact hr.fb id _ b1 o1 hid h hf
                      · omega
                    · rw [up_one] at q1
                      by_cases e2 : id2 = id
                      · subst e2
                        rw [if_pos rfl] at q1
                        cases q1
                        have := q3 _ rfl
                        simp at this
                        simp at hlt
                        omega
                      · rw [if_neg e2] at q1
                        simp only [Gh.at'_loc, e2, if_false] at q2
                        rcases (hbo b1 hb1).1 with h | h
                        · exact e2 (hr.inj id2 id _ _ b1 q1 hid q2 h)
                        · have := (hr.base id2 _ b1 q1 q2).2; omega
                · cases h
              · cases h
            · cases h
          · rename_i e T0 id ver
            split at h
            · rename_i e1 l T1 ver' hid
              split at h
              · rename_i ee
                subst ee
                split at h
                · rename_i hcc
                  obtain ⟨rfl, rfl, rfl, rfl⟩ := hcc
                  cases h
                  obtain ⟨l', v1, q1, q2, q3, q4⟩ := hx
                  rw [hid] at q1
                  cases q1
                  have hva := q4 rfl
                  obtain ⟨xs, hrow, hfx⟩ := hr.res id _ hid
                  rw [← hva] at hrow
                  have hob : (ρ a).ownBlock = g.loc id := by rw [hva]; exact rowV_block
                  have hrow' : w.ownsRow 0 T0 ie.size (ρ a) (List.length l) xs := by rw [k2]; exact hrow
                  obtain ⟨v', w', hrun, hrow2, hcase⟩ := append_own' (P := P) T o.type T0 ie ze hu k1 k4 (k5.trans k2.symm) (by rw [k2]; exact Ty.sz_pos _) (ρ a) (List.length l) xs hrow' A (List.length ys) cp news hfl hAn hnews hones hc.1.2 hc.1.1
                  have hll : List.length (l ++ ys) = List.length l + List.length ys := by simp
                  have hrow3 : w'.ownsRow 0 T0 e.sz v' (List.length (l ++ ys)) (xs ++ news) := by rw [hll, ← k2]; exact hrow2
                  have hos : w'.os = w.os := by rcases hcase with ⟨q, _⟩ | ⟨q, _⟩ <;> exact q.os
                  have htape : w'.tape = w.tape := by rcases hcase with ⟨q, _⟩ | ⟨q, _⟩ <;> exact q.tape
                  have hout : w'.output = w.output := by rcases hcase with ⟨q, _⟩ | ⟨q, _⟩ <;> exact q.output
                  have hsize : w.heap.size ≤ w'.heap.size := by rcases hcase with ⟨q, _⟩ | ⟨q, _⟩ <;> exact q.size
                  have hold : ∀ b1, b1 < w.heap.size → g.loc id ≠ some b1 → w'.heap[b1]? = w.heap[b1]? := by
                    intro b1 hb1 hne
                    rcases hcase with ⟨q, _⟩ | ⟨q, _⟩
                    · exact q.block b1 hb1 (fun e => hne (by rw [← hob, ← e]))
                    · exact q.block b1 hb1 (by simp)
                  have hbo : ∀ b1, v'.ownBlock = some b1 → (g.loc id = some b1 ∨ w.heap.size ≤ b1) ∧ b1 < w'.heap.size := by
                    intro b1 hb1
                    rcases hcase with ⟨q, e2⟩ | ⟨q, e2, e3⟩
                    · rw [e2, hob] at hb1
                      exact ⟨.inl hb1, Nat.lt_of_lt_of_le (hr.base id _ b1 hid hb1).2 q.size⟩
                    · rw [e2] at hb1; cases hb1; exact ⟨.inr (Nat.le_refl _), e3⟩
                  have heff := chg_eff (w' := w') (id := id) (k := capOf v') (bo := v'.ownBlock) (r0 := .row e l T0 ver) (r1 := .row e (l ++ ys) T0 (ver + 1)) hr hid hbo hos htape hout hsize hold
                    (fun b1 o1 v1 hb1 _ hno => absurd ⟨id, _, hid, hb1, fun v hv => by cases hv⟩ hno)
                    (fun b1 o1 hb1 hlt _ => by
                      rcases (hbo b1 hb1).1 with h | h
                      · exact ⟨id, _, hid, h, fun v hv => by cases hv⟩
                      · omega)
                    ⟨rfl, rfl, by omega, fun e => by omega⟩
                    (fun htr => ⟨xs ++ news, by rw [rowV_at hrow3]; exact hrow3, (hfx.append hfn).mono fun x vs h => DV.mono htr.kp h⟩)
                  refine ⟨_, v', w', _, call_bi ho hb (v := v') (w1 := w') ?_, .inl rfl, ⟨l ++ ys, ver + 1, by rw [up_one, if_pos rfl], Nat.le_refl _, ?_, fun _ => (rowV_at hrow3).symm⟩, heff⟩
                  · simp [builtin, ha, hTs, hv, hrun, Result.andThen]
                  · rw [← rowV_at (g := g) (d := id) hrow3]
                    exact rowV_one
                · cases h
              · cases h
            · cases h
          · split at h
            · rename_i hd
              cases h
              have hva : ρ a = .slice none 0 0 := hx.1
              obtain ⟨v', w', hrun, hrow2, hcase⟩ := append_own' (P := P) T o.type el ie ze hu k1 k4 (k5.trans k2.symm) (by rw [k2]; exact Ty.sz_pos _) (.slice none 0 0) 0 [] (World.ownsRow_nil w 0 el ie.size) A (List.length ys) cp news hfl hAn hnews hones (by simpa using hc.1.2) (by simpa using hc.1.1)
              simp only [Nat.zero_add, List.nil_append] at hrow2
              have hrow3 : w'.ownsRow 0 el τ.sz v' (List.length ys) news := by rw [← k2]; exact hrow2
              have hgr : w.grownBy w' none := by rcases hcase with ⟨q, _⟩ | ⟨q, _⟩ <;> exact q
              have hbo : ∀ b1, v'.ownBlock = some b1 → w.heap.size ≤ b1 ∧ b1 < w'.heap.size := by
                intro b1 hb1
                rcases hcase with ⟨q, e2⟩ | ⟨q, e2, e3⟩
                · rw [e2] at hb1; simp [Value.ownBlock] at hb1
                · rw [e2] at hb1; cases hb1; exact ⟨Nat.le_refl _, e3⟩
              by_cases hrw : rw d = true
              · rw [if_pos hrw, if_pos hrw]
                exact birth_row hr hd hrow3 hfn hgr hbo (call_bi ho hb (v := v') (w1 := w') (by simp [builtin, ha, hTs, hv, hva, hrun, Result.andThen]))
              rw [if_neg hrw, if_neg hrw]
              have heff := new_eff (w' := w') (d := d) (k := List.length ys * τ.sz) (bo := v'.ownBlock) (r := .tok 0) hr hd hbo hgr.os hgr.tape hgr.output hgr.size (fun b1 hb1 => hgr.block b1 hb1 (by simp)) (fun htr => by
                intro b1 hb1
                simp only [Gh.at'_loc, if_pos] at hb1
                exact tok_of_row (d := 0) hrow3 rfl b1 hb1)
              refine ⟨_, v', w', _, call_bi ho hb (v := v') (w1 := w') ?_, .inl rfl, ?_, heff⟩
              · simp [builtin, ha, hTs, hv, hva, hrun, Result.andThen]
              · refine ⟨DV_of_row hrow3 (hfn.mono (fun x vs h => DV.mono heff.tr.kp h)) ?_, 0, by rw [up_one, if_pos rfl], Nat.le_refl _, fun _ => ⟨by simp, news, hrow3, fun b1 _ => by simp⟩⟩
                intro b1 o1 hb1 hlt hW
                have hb2 := hbo b1 hb1
                rcases hW with hf | ⟨id2, r2, q1, q2, q3⟩
                · have := hr.fbs b1 o1 hf; omega
                · rw [up_one] at q1
                  by_cases e2 : id2 = d
                  · subst e2
                    rw [if_pos rfl] at q1
                    cases q1
                    have := q3 _ rfl
                    simp at this
                    omega
                  · rw [if_neg e2] at q1
                    simp only [Gh.at'_loc, e2, if_false] at q2
                    have := (hr.base id2 _ b1 q1 q2).2; omega
            · cases h
          · cases h
        · cases h
      · cases h
    · cases h
  · rename_i h0 _ _; cases h0
  · rename_i h0 _ _; cases h0
  · cases h
theorem elems_fill {W : Nat → Nat → Prop} {τ : Ty} : ∀ (parts : List (Nat × Operand)) (k : Nat) (cells : Array Value) (l : List τ.T),
    Evs w W R g ρ ev → elems τ (parts.map fun p => (p.1, ev p.2)) k = some l → (k + List.length l) * τ.sz ≤ cells.size →
    ∃ (cells' : Array Value) (xs : List Value), Instr.fill (fun i => some (i * τ.sz, τ.sz)) cells (parts.map fun p => (p.1, ρ p.2)) = some cells' ∧ FR τ.sz (DV w W τ) xs l ∧
      cells'.toList = cells.toList.take (k * τ.sz) ++ xs ++ cells.toList.drop (k * τ.sz + xs.length)
  | [], k, cells, l, _, h, _ => by
    simp [elems] at h
    subst h
    exact ⟨cells, [], rfl, FR.nil _ _, by simp⟩
  | (i, x) :: rest, k, cells, l, he, h, hsz => by
    have hx := he x
    simp only [List.map_cons] at h
    cases hev : ev x with
    | tup ps => rw [hev] at h; simp [elems] at h
    | p q =>
      rw [hev] at h hx
      simp only [elems] at h
      split at h
      · rename_i hc
        obtain ⟨rfl, hl⟩ := hc
        simp only [Option.bind_eq_some_iff, Option.map_eq_some_iff] at h
        obtain ⟨y, hy, l', hl', rfl⟩ := h
        have hq := P1V.cells hx hl
        have hd := unflat_sound hy hq
        have hlen : (ρ x).cells.toList.length = τ.sz := DV.len hd
        have hll : List.length (y :: l') = List.length l' + 1 := by simp
        rw [hll] at hsz
        have hmul : (i + (List.length l' + 1)) * τ.sz = i * τ.sz + τ.sz + List.length l' * τ.sz := by rw [Nat.add_mul, Nat.add_mul]; omega
        have hz := zipIdx_foldl (i * τ.sz) (ρ x).cells.toList 0 cells (by rw [hlen]; omega)
        have hcs : (((ρ x).cells.toList.zipIdx 0).foldl (fun cs (x : Value × Nat) => cs.setIfInBounds (i * τ.sz + x.2) x.1) cells).size = cells.size := by
          rw [← Array.length_toList, hz]
          simp at hlen ⊢
          omega
        obtain ⟨cells', xs, h1, h2, h3⟩ := elems_fill rest (i + 1) (((ρ x).cells.toList.zipIdx 0).foldl (fun cs (x : Value × Nat) => cs.setIfInBounds (i * τ.sz + x.2) x.1) cells) l' he hl' (by rw [hcs, Nat.add_assoc, Nat.add_comm 1]; exact hsz)
        refine ⟨cells', (ρ x).cells.toList ++ xs, ?_, FR.append (l := [y]) (FR.one hlen hd) h2, ?_⟩
        · simp only [List.map_cons, Instr.fill]
          have hlen' : (ρ x).cells.size = τ.sz := by simpa using hlen
          rw [if_neg (by simp [hlen']; omega)]
          rw [← h1]
          congr 1
          rw [← Array.foldl_toList]
          simp
        · have h21 := h2.1
          rw [h3, hz]
          have e1 : (i + 1) * τ.sz = i * τ.sz + τ.sz := by rw [Nat.add_mul]; omega
          simp only [Nat.add_zero, e1, hlen, List.length_append]
          have ta : (cells.toList.take (i * τ.sz)).length = i * τ.sz := by simp; omega
          have tb : (cells.toList.take (i * τ.sz) ++ (ρ x).cells.toList).length = i * τ.sz + τ.sz := by rw [List.length_append, ta, hlen]
          rw [List.take_left' tb, List.drop_append, List.drop_of_length_le (by rw [tb]; omega), tb, List.drop_drop]
          simp only [List.nil_append, List.append_assoc]
          congr 4
          omega
      · cases h
theorem s_buildSlice (hr : HR wt Fb w R g) (he : Evs w (Wr Fb R g) R g ρ ev) {T : TypeId} {len : Nat} {parts : Array (Nat × Operand)} (ho : o.op = .buildSlice T len parts) (h : stepF (tiE P rw) o ev R = some (c, p, us)) (hc : allP c) : StepOk P wt Fb o ρ w R g p us := by
  simp only [stepF, ho] at h
  split at h
  · rename_i ia n z el τ bytes d ht _
    obtain ⟨hu, ie, ze, k1, k2, k3, k4, k5, k6⟩ := ti_slice ht
    split at h
    · rename_i hd
      split at h
      · rename_i hlim
        simp only [Option.bind_eq_some_iff] at h
        obtain ⟨l, hl, h⟩ := h
        split at h
        · rename_i hlen
          cases h
          obtain ⟨cells', xs, hf, hx, hcells⟩ := elems_fill parts.toList 0 ((Array.range (len * ie.size)).map (fun i => ze.cells[i % ze.cells.size]!)) l he hl (by simp [hlen, k2])
          have hxl : xs.length = len * τ.sz := by rw [hx.1, hlen]
          have hcl : cells'.toList = xs := by
            rw [hcells]
            simp [hxl, k2]
          have hcs : cells'.size = len * ie.size := by rw [← Array.length_toList, hcl, hxl, k2]
          have hlenb : len ≤ maxLen := by
            have := Ty.sz_pos τ
            have : len * 1 ≤ len * τ.sz := Nat.mul_le_mul_left _ this
            simp only [maxLen]; omega
          have hrow := World.ownsRow_lit (base := 0) (e := el) (size := ie.size) w cells' len (Nat.zero_le _) hlenb hcs
          rw [hcl] at hrow
          have hrow' : (w.alloc (.cells cells' el)).ownsRow 0 el τ.sz (.slice (some ⟨w.heap.size, 0, none⟩) len len) (List.length l) xs := by rw [hlen, ← k2]; exact hrow
          have hrun : (execOp ρ o).run P w = .ok (.value (.slice (some ⟨w.heap.size, 0, none⟩) len len)) (w.alloc (.cells cells' el)) := by
            have key : ∀ zero : Array Value, (zero = ze.cells ∨ len * ie.size = 0) → (Array.range (len * ie.size)).map (fun i => zero[i % zero.size]!) = (Array.range (len * ie.size)).map (fun i => ze.cells[i % ze.cells.size]!) := by
              rintro zero (rfl | h0)
              · rfl
              · simp [h0]
            have hlim' : ¬ (16777216 < len * ie.size) := by rw [k2]; omega
            have hf' : Instr.fill (fun i => some (i * ie.size, ie.size)) ((Array.range (len * ie.size)).map (fun i => ze.cells[i % ze.cells.size]!)) (parts.map (fun x => (x.1, ρ x.2))).toList = some cells' := by
              rw [Array.toList_map, k2]; rw [← k2] at hf ⊢; exact hf
            simp only [execOp, ho, Instr.buildSlice, Sem.run_bind, run_underlying hu, Result.andThen, run_sizeOf' k1]
            rw [Sem.run_ite, if_neg (by simpa using hlim'), Sem.run_ite]
            by_cases h0 : len * ie.size = 0
            · rw [if_pos h0]
              simp only [Sem.run_pure, Sem.run_bind, Result.andThen]
              rw [key #[] (.inr h0)]
              simp only [hf']
              rfl
            · rw [if_neg h0]
              simp only [zeroValue, typeInfo, Sem.run_pure, Sem.run_bind, Result.andThen, run_program, k1, k4]
              simp only [hf']
              rfl
          by_cases hrw : rw d = true
          · rw [if_pos hrw, if_pos hrw]
            exact birth_row hr hd hrow' hx ⟨rfl, rfl, rfl, by simp, fun b1 hb1 _ => alloc_other w _ b1 hb1⟩ (fun b1 e => by simp only [Value.ownBlock, Option.some.injEq] at e; subst e; simp) hrun
          rw [if_neg hrw, if_neg hrw]
          have heff := new_eff (w' := w.alloc (.cells cells' el)) (d := d) (k := List.length l * τ.sz) (bo := some w.heap.size) (r := .tok 0) hr hd (fun b1 e => by cases e; simp) rfl rfl rfl (by simp) (fun b1 hb1 => alloc_other w _ b1 hb1) (fun htr => by
            intro b1 hb1
            simp only [Gh.at'_loc, if_pos] at hb1
            exact tok_of_row (d := 0) hrow' rfl b1 hb1)
          refine ⟨_, .slice (some ⟨w.heap.size, 0, none⟩) len len, w.alloc (.cells cells' el), _, hrun, .inl rfl, ?_, heff⟩
          · refine ⟨DV_of_row hrow' (hx.mono (fun x vs h => DV.mono heff.tr.kp h)) ?_, 0, by rw [up_one, if_pos rfl], Nat.le_refl _, fun _ => ⟨by simp [Value.ownBlock], xs, hrow', fun b1 _ => by simp⟩⟩
            intro b1 o1 hb1 hlt hW
            simp only [Value.ownBlock, Option.some.injEq] at hb1
            subst hb1
            rcases hW with hf | ⟨id2, r2, q1, q2, q3⟩
            · have := hr.fbs _ o1 hf; omega
            · rw [up_one] at q1
              by_cases e2 : id2 = d
              · subst e2
                rw [if_pos rfl] at q1
                cases q1
                have := q3 _ rfl
                simp at this
                omega
              · rw [if_neg e2] at q1
                simp only [Gh.at'_loc, e2, if_false] at q2
                have := (hr.base id2 _ _ q1 q2).2; omega
        · cases h
      · cases h
    · cases h
  · cases h
end Go.Proofs.YtpmnhbjbkoackaaDoor.En
