/- A call by a contract whose names are turned to the caller's. -/
import Derived.Test.YtpmnhbjbkoackaaDoorEn8
namespace Go.Proofs.YtpmnhbjbkoackaaDoor.En
open Go Go.RowKit
set_option linter.unusedVariables false
set_option linter.unusedSimpArgs false
variable {P : Program} {wt : World} {Fb : Nat → Nat → Prop} {w w' : World} {W W' : Nat → Nat → Prop} {R R' : Nat → Option Res} {g g' : Gh}

theorem Kp.of_sub (h : ∀ b o, W' b o → W b o) : Kp w W w W' := fun b o v hc hn => ⟨hc, fun hW => hn (h b o hW)⟩
theorem CLe.sound {c d : Cell} {v : Value} (h : CLe c d) (hv : CV w W R g v d) : CV w W R g v c := by
  unfold CLe at h
  split at h
  · exact trivial
  · rename_i e l e' l' _ _ _
    cases h
    exact hv.1
  · subst h
    rw [show v = .slice none 0 0 from hv.1]
    exact ⟨none, 0, rfl, Nat.le_refl _, by simp [lenOk], .inl rfl⟩
  · subst h; exact hv
theorem CLes.sound : ∀ {cs ds : List Cell} {vs : List Value}, CLes cs ds → CVs w W R g vs ds → CVs w W R g vs cs
  | [], [], [], _, _ => trivial
  | _ :: _, _ :: _, _ :: _, h, hv => ⟨⟨CLe.sound h.1.1 hv.1.1, hv.1.2⟩, CLes.sound h.2 hv.2⟩
  | [], [], _ :: _, _, hv => hv.elim
  | _ :: _, _ :: _, [], _, hv => hv.elim
  | [], _ :: _, _, h, _ => h.elim
  | _ :: _, [], _, h, _ => h.elim
theorem P1Le.sound {x y : P1} {v : Value} (h : P1Le x y) (hv : P1V w W R g v y) : P1V w W R g v x := by
  unfold P1Le at h
  split at h
  · exact CLe.sound h hv
  · obtain ⟨vs, e, hv⟩ := hv; exact ⟨vs, e, CLes.sound h hv⟩
  · exact trivial
  · exact h.elim
theorem P1Les.sound : ∀ {ps qs : List P1} {vs : List Value}, P1Les ps qs → P1Vs w W R g vs qs → P1Vs w W R g vs ps
  | [], [], [], _, _ => trivial
  | _ :: _, _ :: _, _ :: _, h, hv => ⟨P1Le.sound h.1 hv.1, P1Les.sound h.2 hv.2⟩
  | [], [], _ :: _, _, hv => hv.elim
  | _ :: _, _ :: _, [], _, hv => hv.elim
  | [], _ :: _, _, h, _ => h.elim
  | _ :: _, [], _, h, _ => h.elim
theorem PLe.sound {x y : PVal} {v : Value} (h : PLe x y) (hv : PV w W R g v y) : PV w W R g v x := by
  unfold PLe at h
  split at h
  · exact P1Le.sound h hv
  · obtain ⟨vs, e, hv⟩ := hv; exact ⟨vs, e, P1Les.sound h hv⟩
  · exact trivial
  · exact h.elim
theorem PLes.sound : ∀ {ps qs : List PVal} {vs : List Value}, PLes ps qs → PVs w W R g vs qs → PVs w W R g vs ps
  | [], [], [], _, _ => trivial
  | _ :: _, _ :: _, _ :: _, h, hv => ⟨PLe.sound h.1 hv.1, PLes.sound h.2 hv.2⟩
  | [], [], _ :: _, _, hv => hv.elim
  | _ :: _, _ :: _, [], _, hv => hv.elim
  | [], _ :: _, _, h, _ => h.elim
  | _ :: _, [], _, h, _ => h.elim

section ren
variable {σ β : Nat → Nat} {rs : List (Nat × Res)}
def sameKind (β : Nat → Nat) (i : Nat) : Res → Res → Prop
  | .blk _, .blk _ => True
  | .tok v, .tok u => u = β i + v
  | .row e l T v, .row e' l' T' u => (⟨e', l'⟩ : (e : Ty) × List e.T) = ⟨e, l⟩ ∧ T' = T ∧ u = β i + v
  | _, _ => False
def Gh.back (g : Gh) (σ : Nat → Nat) : Gh := ⟨fun i => g.loc (σ i), fun i => g.tip (σ i)⟩
theorem CV_to (hR : ∀ i r, lk rs i = some r → ∃ r1, R (σ i) = some r1 ∧ sameKind β i r r1) (hW : ∀ b o, W' b o → W b o) {c : Cell} {v : Value} (hk : okC rs c) (h : CV w W R g v (c.ren σ β)) : CV w W' (lk rs) (g.back σ) v c := by
  cases c with
  | lst e l => exact DV.mono (Kp.of_sub hW) h
  | acc e l T id ver =>
    obtain ⟨h1, ver', h2, h3, h4⟩ := h
    obtain ⟨u, hu, hle⟩ := hk
    obtain ⟨r1, hr1, hs⟩ := hR id _ hu
    rw [h2] at hr1
    cases hr1
    have e : ver' = β id + u := hs
    subst e
    refine ⟨DV.mono (Kp.of_sub hW) h1, u, hu, hle, fun e => ?_⟩
    obtain ⟨q1, xs, q2, q3⟩ := h4 (by omega)
    exact ⟨q1, xs, q2, q3⟩
  | ptr id off =>
    obtain ⟨b, cs, h1, h2, h3⟩ := h
    obtain ⟨cs', hcs⟩ := hk
    exact ⟨b, cs', hcs, h2, h3⟩
  | row e T id ver =>
    obtain ⟨l, ver', h1, h2, h3, h4⟩ := h
    obtain ⟨l0, u, hu, hle⟩ := hk
    obtain ⟨r1, hr1, hs⟩ := hR id _ hu
    rw [h1] at hr1
    cases hr1
    obtain ⟨e1, e2, e3⟩ := hs
    cases e1
    subst e3
    exact ⟨l, u, hu, hle, h3, fun e => h4 (by omega)⟩
  | rptr e T id ver i off =>
    obtain ⟨l, ver', h1, h2, h3, h4⟩ := h
    obtain ⟨l0, u, hu, hle⟩ := hk
    obtain ⟨r1, hr1, hs⟩ := hR id _ hu
    rw [h1] at hr1
    cases hr1
    obtain ⟨e1, e2, e3⟩ := hs
    cases e1
    subst e3
    exact ⟨l, u, hu, hle, h3, fun e => h4 (by omega)⟩
  | eptr τ x off =>
    obtain ⟨b, o, vs, h1, h2, h3⟩ := h
    exact ⟨b, o, vs, h1, DV.mono (Kp.of_sub hW) h2, fun j u hu => ⟨(h3 j u hu).1, fun hw => (h3 j u hu).2 (hW _ _ hw)⟩⟩
  | _ => exact h
theorem CVs_to (hR : ∀ i r, lk rs i = some r → ∃ r1, R (σ i) = some r1 ∧ sameKind β i r r1) (hW : ∀ b o, W' b o → W b o) : ∀ {cs : List Cell} {vs : List Value}, (∀ c ∈ cs, okC rs c) → CVs w W R g vs (cs.map (Cell.ren σ β)) → CVs w W' (lk rs) (g.back σ) vs cs
  | [], [], _, _ => trivial
  | c :: cs, v :: vs, hk, h => ⟨⟨CV_to hR hW (hk c (by simp)) h.1.1, h.1.2⟩, CVs_to hR hW (fun c hc => hk c (by simp [hc])) h.2⟩
  | [], _ :: _, _, h => h.elim
  | _ :: _, [], _, h => h.elim
theorem P1V_to (hR : ∀ i r, lk rs i = some r → ∃ r1, R (σ i) = some r1 ∧ sameKind β i r r1) (hW : ∀ b o, W' b o → W b o) {x : P1} {v : Value} (hk : okP1 rs x) (h : P1V w W R g v (x.ren σ β)) : P1V w W' (lk rs) (g.back σ) v x := by
  cases x with
  | one c => exact CV_to hR hW hk h
  | agg cs => obtain ⟨vs, e, h⟩ := h; exact ⟨vs, e, CVs_to hR hW hk h⟩
theorem P1Vs_to (hR : ∀ i r, lk rs i = some r → ∃ r1, R (σ i) = some r1 ∧ sameKind β i r r1) (hW : ∀ b o, W' b o → W b o) : ∀ {ps : List P1} {vs : List Value}, (∀ p ∈ ps, okP1 rs p) → P1Vs w W R g vs (ps.map (P1.ren σ β)) → P1Vs w W' (lk rs) (g.back σ) vs ps
  | [], [], _, _ => trivial
  | c :: cs, v :: vs, hk, h => ⟨P1V_to hR hW (hk c (by simp)) h.1, P1Vs_to hR hW (fun c hc => hk c (by simp [hc])) h.2⟩
  | [], _ :: _, _, h => h.elim
  | _ :: _, [], _, h => h.elim
theorem PV_to (hR : ∀ i r, lk rs i = some r → ∃ r1, R (σ i) = some r1 ∧ sameKind β i r r1) (hW : ∀ b o, W' b o → W b o) {x : PVal} {v : Value} (hk : okP rs x) (h : PV w W R g v (x.ren σ β)) : PV w W' (lk rs) (g.back σ) v x := by
  cases x with
  | p x => exact P1V_to hR hW hk h
  | tup ps => obtain ⟨vs, e, h⟩ := h; exact ⟨vs, e, P1Vs_to hR hW hk h⟩
theorem PVs_to (hR : ∀ i r, lk rs i = some r → ∃ r1, R (σ i) = some r1 ∧ sameKind β i r r1) (hW : ∀ b o, W' b o → W b o) : ∀ {ps : List PVal} {vs : List Value}, (∀ p ∈ ps, okP rs p) → PVs w W R g vs (ps.map (PVal.ren σ β)) → PVs w W' (lk rs) (g.back σ) vs ps
  | [], [], _, _ => trivial
  | c :: cs, v :: vs, hk, h => ⟨PV_to hR hW (hk c (by simp)) h.1, PVs_to hR hW (fun c hc => hk c (by simp [hc])) h.2⟩
  | [], _ :: _, _, h => h.elim
  | _ :: _, [], _, h => h.elim
/-- .. and back. -/
theorem CV_of {gc : Gh} (hR : ∀ i r, lk rs i = some r → R (σ i) = some (r.ren σ β i) ∧ g.loc (σ i) = gc.loc i ∧ g.tip (σ i) = gc.tip i) (hW : ∀ b o, W' b o → W b o) {c : Cell} {v : Value} (h : CV w W (lk rs) gc v c) : CV w W' R g v (c.ren σ β) := by
  cases c with
  | lst e l => exact DV.mono (Kp.of_sub hW) h
  | acc e l T id ver =>
    obtain ⟨h1, ver', h2, h3, h4⟩ := h
    obtain ⟨r1, r2, r3⟩ := hR id _ h2
    refine ⟨DV.mono (Kp.of_sub hW) h1, β id + ver', r1, by omega, fun e => ?_⟩
    obtain ⟨q1, xs, q2, q3⟩ := h4 (by omega)
    refine ⟨by rw [r2]; exact q1, xs, q2, fun b hb => ?_⟩
    rw [r3]
    exact q3 b (by rw [← r2]; exact hb)
  | ptr id off =>
    obtain ⟨b, cs, h1, h2, h3⟩ := h
    obtain ⟨r1, r2, r3⟩ := hR id _ h1
    exact ⟨b, _, r1, r2.trans h2, h3⟩
  | row e T id ver =>
    obtain ⟨l, ver', h1, h2, h3, h4⟩ := h
    obtain ⟨r1, r2, r3⟩ := hR id _ h1
    refine ⟨l, β id + ver', r1, by omega, h3, fun e => ?_⟩
    rw [rowV_eq r2 r3]
    exact h4 (by omega)
  | rptr e T id ver i off =>
    obtain ⟨l, ver', h1, h2, h3, h4⟩ := h
    obtain ⟨r1, r2, r3⟩ := hR id _ h1
    refine ⟨l, β id + ver', r1, by omega, h3, fun e => ?_⟩
    rw [r2]
    exact h4 (by omega)
  | eptr τ x off =>
    obtain ⟨b, o, vs, h1, h2, h3⟩ := h
    exact ⟨b, o, vs, h1, DV.mono (Kp.of_sub hW) h2, fun j u hu => ⟨(h3 j u hu).1, fun hw => (h3 j u hu).2 (hW _ _ hw)⟩⟩
  | _ => exact h
theorem CVs_of {gc : Gh} (hR : ∀ i r, lk rs i = some r → R (σ i) = some (r.ren σ β i) ∧ g.loc (σ i) = gc.loc i ∧ g.tip (σ i) = gc.tip i) (hW : ∀ b o, W' b o → W b o) : ∀ {cs : List Cell} {vs : List Value}, CVs w W (lk rs) gc vs cs → CVs w W' R g vs (cs.map (Cell.ren σ β))
  | [], [], _ => trivial
  | c :: cs, v :: vs, h => ⟨⟨CV_of hR hW h.1.1, h.1.2⟩, CVs_of hR hW h.2⟩
  | [], _ :: _, h => h.elim
  | _ :: _, [], h => h.elim
theorem P1V_of {gc : Gh} (hR : ∀ i r, lk rs i = some r → R (σ i) = some (r.ren σ β i) ∧ g.loc (σ i) = gc.loc i ∧ g.tip (σ i) = gc.tip i) (hW : ∀ b o, W' b o → W b o) {x : P1} {v : Value} (h : P1V w W (lk rs) gc v x) : P1V w W' R g v (x.ren σ β) := by
  cases x with
  | one c => exact CV_of hR hW h
  | agg cs => obtain ⟨vs, e, h⟩ := h; exact ⟨vs, e, CVs_of hR hW h⟩
theorem P1Vs_of {gc : Gh} (hR : ∀ i r, lk rs i = some r → R (σ i) = some (r.ren σ β i) ∧ g.loc (σ i) = gc.loc i ∧ g.tip (σ i) = gc.tip i) (hW : ∀ b o, W' b o → W b o) : ∀ {ps : List P1} {vs : List Value}, P1Vs w W (lk rs) gc vs ps → P1Vs w W' R g vs (ps.map (P1.ren σ β))
  | [], [], _ => trivial
  | c :: cs, v :: vs, h => ⟨P1V_of hR hW h.1, P1Vs_of hR hW h.2⟩
  | [], _ :: _, h => h.elim
  | _ :: _, [], h => h.elim
theorem PV_of {gc : Gh} (hR : ∀ i r, lk rs i = some r → R (σ i) = some (r.ren σ β i) ∧ g.loc (σ i) = gc.loc i ∧ g.tip (σ i) = gc.tip i) (hW : ∀ b o, W' b o → W b o) {x : PVal} {v : Value} (h : PV w W (lk rs) gc v x) : PV w W' R g v (x.ren σ β) := by
  cases x with
  | p x => exact P1V_of hR hW h
  | tup ps => obtain ⟨vs, e, h⟩ := h; exact ⟨vs, e, P1Vs_of hR hW h⟩
end ren
theorem lk_mem : ∀ {rs : List (Nat × Res)} {i : Nat} {r : Res}, lk rs i = some r → (i, r) ∈ rs
  | [], i, r, h => by simp [lk] at h
  | (k, r') :: rs, i, r, h => by
    simp only [lk, List.lookup] at h
    split at h
    · rename_i e
      have : i = k := by simpa using e
      cases h; subst this; simp
    · exact List.mem_cons_of_mem _ (lk_mem h)
theorem lk_of_mem : ∀ {rs : List (Nat × Res)} {i : Nat} {r : Res}, (rs.map fun x => x.1).Nodup → (i, r) ∈ rs → lk rs i = some r
  | [], i, r, _, h => by simp at h
  | (k, r') :: rs, i, r, hn, h => by
    simp only [List.map_cons, List.nodup_cons] at hn
    rcases List.mem_cons.1 h with h | h
    · cases h; simp [lk, List.lookup]
    · have hne : i ≠ k := fun e => hn.1 (by rw [← e]; exact List.mem_map.2 ⟨(i, r), h, rfl⟩)
      have : (i == k) = false := by simpa using hne
      simp only [lk, List.lookup, this]
      exact lk_of_mem hn.2 h
theorem lk_some_of_key : ∀ {rs : List (Nat × Res)} {i : Nat}, i ∈ rs.map (·.1) → ∃ r, lk rs i = some r
  | [], i, h => by simp at h
  | (k, r') :: rs, i, h => by
    by_cases e : i = k
    · subst e; exact ⟨r', by simp [lk, List.lookup]⟩
    · have : (i == k) = false := by simpa using e
      simp only [List.map_cons, List.mem_cons] at h
      obtain ⟨r, hr⟩ := lk_some_of_key (h.resolve_left e)
      exact ⟨r, by simp only [lk, List.lookup, this]; exact hr⟩
theorem us_lookup {σ : Nat → Nat} {f : Nat × Res → Res} : ∀ {rs : List (Nat × Res)}, (rs.map fun x => σ x.1).Nodup → ∀ i r, (i, r) ∈ rs → (rs.map fun x => (σ x.1, f x)).lookup (σ i) = some (f (i, r))
  | [], _, i, r, h => by simp at h
  | (k, r') :: rs, hn, i, r, h => by
    simp only [List.map_cons, List.nodup_cons] at hn
    simp only [List.map_cons, List.lookup]
    rcases List.mem_cons.1 h with h | h
    · cases h; simp
    · have hne : σ i ≠ σ k := fun e => hn.1 (by rw [← e]; exact List.mem_map.2 ⟨_, h, rfl⟩)
      have : (σ i == σ k) = false := by simpa using hne
      rw [this]
      exact us_lookup hn.2 i r h
theorem us_lookup_none {σ : Nat → Nat} {f : Nat × Res → Res} : ∀ {rs : List (Nat × Res)} {id : Nat}, (∀ x ∈ rs, σ x.1 ≠ id) → (rs.map fun x => (σ x.1, f x)).lookup id = none
  | [], id, _ => rfl
  | (k, r') :: rs, id, h => by
    have : (id == σ k) = false := by
      have := h (k, r') (by simp)
      simpa using fun e => this e.symm
    simp only [List.map_cons, List.lookup, this]
    exact us_lookup_none (fun x hx => h x (by simp [hx]))
theorem callR_sound {GL : World → Prop} {f : FuncId} {args : List PVal} {out : Out} {us : List (Nat × Res)} {T : List Nat} (h : CallR P GL f args R out us T) : CallS P GL f args R out us := by
  obtain ⟨ps, rs, out0, rs', σ, β, hcon, hple, hokp, hokr, hres, hnd, hnd0, hkeys, hfresh, rfl, rfl, rfl⟩ := h
  intro wt w Fb g vs hGL hr hvs
  -- the callee's view
  let gc := g.back σ
  let Fc : Nat → Nat → Prop := fun b o => Fb b o ∨ ∃ id r, R id = some r ∧ (∀ i, lk rs i ≠ none → σ i ≠ id) ∧ g.loc id = some b ∧ ∀ v, r = .tok v → g.tip id ≤ o
  have hinj : ∀ i j, i ∈ rs'.map (·.1) → j ∈ rs'.map (·.1) → σ i = σ j → i = j := by
    have : ∀ {l : List (Nat × Res)}, (l.map fun x => σ x.1).Nodup → ∀ i j, i ∈ l.map (·.1) → j ∈ l.map (·.1) → σ i = σ j → i = j := by
      intro l
      induction l with
      | nil => intro _ i j hi; simp at hi
      | cons x l ih =>
        intro hn i j hi hj e
        simp only [List.map_cons, List.nodup_cons, List.mem_cons] at hn hi hj
        rcases hi with rfl | hi <;> rcases hj with rfl | hj
        · rfl
        · exact absurd (by obtain ⟨y, hy, rfl⟩ := List.mem_map.1 hj; rw [e]; exact List.mem_map.2 ⟨y, hy, rfl⟩) hn.1
        · exact absurd (by obtain ⟨y, hy, rfl⟩ := List.mem_map.1 hi; rw [← e]; exact List.mem_map.2 ⟨y, hy, rfl⟩) hn.1
        · exact ih hn.2 i j hi hj e
    exact this hnd
  have hmem : ∀ i r, lk rs i = some r → i ∈ rs'.map (·.1) := fun i r hi => hkeys (i, r) (lk_mem hi)
  have hsk : ∀ i r, lk rs i = some r → ∃ r1, R (σ i) = some r1 ∧ sameKind β i r r1 ∧ RLe (r.ren σ β i) r1 := by
    intro i r hi
    obtain ⟨r1, h1, h2⟩ := hres _ (lk_mem hi)
    refine ⟨r1, h1, ?_, h2⟩
    cases r <;> cases r1 <;> first | exact trivial | exact h2.elim | exact (show _ = _ from h2).symm | exact ⟨h2.1, h2.2.1.symm, h2.2.2.symm⟩
  have hsk' : ∀ i r, lk rs i = some r → ∃ r1, R (σ i) = some r1 ∧ sameKind β i r r1 := fun i r hi => let ⟨r1, a, b, _⟩ := hsk i r hi; ⟨r1, a, b⟩
  have hWc : ∀ b o, Wr Fc (lk rs) gc b o → Wr Fb R g b o := by
    rintro b o ((hf | ⟨id, r, h1, h2, h3, h4⟩) | ⟨i, r, h1, h2, h3⟩)
    · exact .inl hf
    · exact .inr ⟨id, r, h1, h3, h4⟩
    · obtain ⟨r1, h5, h6⟩ := hsk' i r h1
      refine .inr ⟨σ i, r1, h5, h2, fun v hv => ?_⟩
      subst hv
      cases r with
      | blk cs => exact h6.elim
      | row _ _ _ _ => exact h6.elim
      | tok v0 => exact h3 v0 rfl
  have hownc : ∀ b o, own (lk rs) gc b o → own R g b o := by
    rintro b o ⟨i, r, h1, h2, h3⟩
    obtain ⟨r1, h5, h6⟩ := hsk' i r h1
    refine ⟨σ i, r1, h5, h2, fun v hv => ?_⟩
    subst hv
    cases r with
    | blk cs => exact h6.elim
    | row _ _ _ _ => exact h6.elim
    | tok v0 => exact h3 v0 rfl
  have hownR : ∀ b o, own R g b o → own (lk rs) gc b o ∨ Fc b o := by
    rintro b o ⟨id, r, h1, h2, h3⟩
    by_cases hin : ∃ i, lk rs i ≠ none ∧ σ i = id
    · obtain ⟨i, hi, rfl⟩ := hin
      left
      obtain ⟨r0, hr0⟩ : ∃ r0, lk rs i = some r0 := by cases hq : lk rs i with
        | none => exact absurd hq hi
        | some r0 => exact ⟨r0, rfl⟩
      obtain ⟨r1, h5, h6⟩ := hsk' i r0 hr0
      rw [h1] at h5
      cases h5
      refine ⟨i, r0, hr0, h2, fun v hv => ?_⟩
      subst hv
      cases r with
      | blk cs => exact h6.elim
      | row _ _ _ _ => exact h6.elim
      | tok v0 => exact h3 v0 rfl
    · exact .inr (.inr ⟨id, r, h1, fun i hi e => hin ⟨i, hi, e⟩, h2, h3⟩)
  have hrc : HR wt Fc w (lk rs) gc := by
    refine ⟨fun i r hi => ?_, ?_, ?_, ?_, ?_, hr.bel⟩
    · obtain ⟨r1, h1, h2, h3⟩ := hsk i r hi
      have hv := hr.res _ _ h1
      cases r with
      | blk cs =>
        cases r1 with
        | tok v => exact h2.elim
        | row _ _ _ _ => exact h2.elim
        | blk ds =>
          obtain ⟨b, T, us, q1, q2, q3⟩ := hv
          exact ⟨b, T, us, q1, q2, CVs_to hsk' hWc (hokr _ (lk_mem hi)) (CLes.sound h3 q3)⟩
      | tok v =>
        cases r1 with
        | blk ds => exact h2.elim
        | row _ _ _ _ => exact h2.elim
        | tok v1 => exact hv
      | row e l T v =>
        cases r1 with
        | blk ds => exact h2.elim
        | tok _ => exact h2.elim
        | row e1 l1 T1 v1 =>
          obtain ⟨q1, q2, q3⟩ := h2
          cases q1
          subst q2
          obtain ⟨xs, k1, k2⟩ := hv
          exact ⟨xs, k1, k2.mono fun x vs h => DV.mono (Kp.of_sub hWc) h⟩
    · intro i j r r' b h1 h2 h3 h4
      obtain ⟨r1, h5, h6⟩ := hsk' i r h1
      obtain ⟨r2, h7, h8⟩ := hsk' j r' h2
      exact hinj i j (hmem i r h1) (hmem j r' h2) (hr.inj _ _ _ _ b h5 h7 h3 h4)
    · intro i r b h1 h2
      obtain ⟨r1, h5, h6⟩ := hsk' i r h1
      exact hr.base _ _ b h5 h2
    · intro i r b o h1 h2 hf
      obtain ⟨r1, h5, h6⟩ := hsk' i r h1
      rcases hf with hf | ⟨id, r', k1, k2, k3, k4⟩
      · exact hr.fb _ _ b o h5 h2 hf
      · exact k2 i (by rw [h1]; simp) (hr.inj _ _ _ _ b h5 k1 h2 k3)
    · rintro b o (hf | ⟨id, r', k1, k2, k3, k4⟩)
      · exact hr.fbs b o hf
      · exact (hr.base _ _ b k1 k3).2
  refine (hcon wt w Fc gc vs hGL hrc (PVs_to hsk' hWc hokp (PLes.sound hple hvs))).mono fun e w' ⟨gc', hout, heff⟩ => ?_
  -- back in the caller
  let inv : Nat → Option Nat := fun id => (rs'.map (·.1)).find? (fun i => σ i == id)
  have hinv : ∀ i, i ∈ rs'.map (·.1) → inv (σ i) = some i := by
    intro i hi
    cases hq : inv (σ i) with
    | none =>
      have := List.find?_eq_none.1 hq i hi
      simp at this
    | some j =>
      have h1 := List.find?_some hq
      have h2 := List.mem_of_find?_eq_some hq
      rw [hinj j i h2 hi (by simpa using h1)]
  have hinvn : ∀ id, inv id = none → ∀ i, i ∈ rs'.map (·.1) → σ i ≠ id := by
    intro id hq i hi e
    have := List.find?_eq_none.1 hq i hi
    simp [e] at this
  have hinvs : ∀ id i, inv id = some i → σ i = id ∧ i ∈ rs'.map (·.1) := fun id i hq => ⟨by simpa using List.find?_some hq, List.mem_of_find?_eq_some hq⟩
  let g' : Gh := ⟨fun id => match inv id with | some i => gc'.loc i | none => g.loc id, fun id => match inv id with | some i => gc'.tip i | none => g.tip id⟩
  have hg'i : ∀ i, i ∈ rs'.map (·.1) → g'.loc (σ i) = gc'.loc i ∧ g'.tip (σ i) = gc'.tip i := fun i hi => by simp [g', hinv i hi]
  have hg'n : ∀ id, inv id = none → g'.loc id = g.loc id ∧ g'.tip id = g.tip id := fun id hq => by simp [g', hq]
  let us := rs'.map (fun x => (σ x.1, x.2.ren σ β x.1))
  have hnd' : (rs'.map fun x => x.1).Nodup := by
    have : (rs'.map fun x => σ x.1) = (rs'.map fun x => x.1).map σ := by simp
    rw [this] at hnd
    exact List.Pairwise.of_map _ (fun a b h e => h (by rw [e])) hnd
  have hupi : ∀ i r, lk rs' i = some r → up us R (σ i) = some (r.ren σ β i) := fun i r hi => by
    have := us_lookup (f := fun x => x.2.ren σ β x.1) hnd i r (lk_mem hi)
    simp only [up, us]
    rw [this]; rfl
  have hupn : ∀ id, inv id = none → up us R id = R id := fun id hq => by
    have := us_lookup_none (f := fun x => x.2.ren σ β x.1) (rs := rs') (id := id) (fun x hx => hinvn id hq _ (List.mem_map.2 ⟨x, hx, rfl⟩))
    simp only [up, us]
    rw [this]; rfl
  have hback : ∀ i r, lk rs' i = some r → up us R (σ i) = some (r.ren σ β i) ∧ g'.loc (σ i) = gc'.loc i ∧ g'.tip (σ i) = gc'.tip i := fun i r hi =>
    ⟨hupi i r hi, hg'i i (List.mem_map.2 ⟨_, lk_mem hi, rfl⟩)⟩
  have hcase : ∀ id r, up us R id = some r → (∃ i r0, σ i = id ∧ lk rs' i = some r0 ∧ r = r0.ren σ β i ∧ inv id = some i) ∨ (inv id = none ∧ R id = some r) := by
    intro id r hr'
    cases hq : inv id with
    | none => right; exact ⟨rfl, by rw [← hupn id hq]; exact hr'⟩
    | some i =>
      left
      obtain ⟨e, hi⟩ := hinvs id i hq
      obtain ⟨r0, hr0⟩ := lk_some_of_key hi
      refine ⟨i, r0, e, hr0, ?_, rfl⟩
      have := hupi i r0 hr0
      rw [e, hr'] at this
      exact Option.some.inj this
  have hnotin : ∀ id r, inv id = none → R id = some r → ∀ i, lk rs i ≠ none → σ i ≠ id := by
    intro id r hq _ i hi e
    obtain ⟨r0, hr0⟩ : ∃ r0, lk rs i = some r0 := by cases hq : lk rs i with
      | none => exact absurd hq hi
      | some r0 => exact ⟨r0, rfl⟩
    exact hinvn id hq i (hmem i r0 hr0) e
  -- what others own is forbidden to the callee
  have hheap : ∀ id r b, inv id = none → R id = some r → g.loc id = some b → w'.heap[b]? = w.heap[b]? := by
    intro id r b hq h1 h2
    refine heff.fr.block b (hr.base _ _ b h1 h2).2 fun o ho => ?_
    obtain ⟨i, r0, k1, k2, k3⟩ := ho
    obtain ⟨r1, h5, h6⟩ := hsk' i r0 k1
    have := hr.inj _ _ _ _ b h5 h1 k2 h2
    exact hinvn id hq i (hmem i r0 k1) this
  have hownb : ∀ b o, own (up us R) g' b o → own (lk rs') gc' b o ∨ (Fc b o ∧ own R g b o) := by
    rintro b o ⟨id, r, h1, h2, h3⟩
    rcases hcase id r h1 with ⟨i, r0, rfl, k1, rfl, k3⟩ | ⟨hq, k1⟩
    · left
      obtain ⟨q1, q2⟩ := hg'i i (List.mem_map.2 ⟨_, lk_mem k1, rfl⟩)
      refine ⟨i, r0, k1, by rw [← q1]; exact h2, fun v hv => ?_⟩
      subst hv
      rw [← q2]
      exact h3 _ rfl
    · right
      obtain ⟨q1, q2⟩ := hg'n id hq
      rw [q1] at h2
      refine ⟨.inr ⟨id, r, k1, hnotin id r hq k1, h2, fun v hv => by rw [← q2]; exact h3 v hv⟩, id, r, k1, h2, fun v hv => by rw [← q2]; exact h3 v hv⟩
  have hWback : ∀ b o, Wr Fb (up us R) g' b o → Wr Fc (lk rs') gc' b o := by
    rintro b o (hf | ho)
    · exact .inl (.inl hf)
    · rcases hownb b o ho with h | ⟨h, _⟩
      · exact .inr h
      · exact .inl h
  have hWsame : ∀ b o, Wr Fb R g b o → Wr Fc (lk rs) gc b o := by
    rintro b o (hf | ho)
    · exact .inl (.inl hf)
    · rcases hownR b o ho with h | h
      · exact .inr h
      · exact .inl h
  have hsub : ∀ b o, own (up us R) g' b o → b < w.heap.size → own R g b o := by
    intro b o ho hlt
    rcases hownb b o ho with h | ⟨_, h⟩
    · exact hownc b o (heff.sub b o h hlt)
    · exact h
  have htr : Tr w (Wr Fb R g) R g w' (Wr Fb (up us R) g') (up us R) g' := by
    refine ⟨fun b o v hc hn => ?_, fun id r h1 => ?_⟩
    · have := heff.tr.kp b o v hc (fun hW => hn (hWc b o hW))
      exact ⟨this.1, fun hW => this.2 (hWback b o hW)⟩
    · cases hq : inv id with
      | none =>
        obtain ⟨q1, q2⟩ := hg'n id hq
        refine ⟨r, by rw [hupn id hq]; exact h1, ?_⟩
        cases r with
        | blk cs => exact q1
        | tok v => exact ⟨Nat.le_refl _, fun _ => ⟨q1, q2, fun b hb => hheap id _ b hq h1 hb⟩⟩
        | row e l T v => exact ⟨rfl, rfl, Nat.le_refl _, fun _ => ⟨rfl, q1, q2⟩⟩
      | some i =>
        obtain ⟨e, hi⟩ := hinvs id i hq
        subst e
        obtain ⟨r0, hr0⟩ := lk_some_of_key hi
        obtain ⟨q1, q2⟩ := hg'i i hi
        have hin : lk rs i ≠ none := by
          intro hnone
          obtain ⟨x, hx, e⟩ := List.mem_map.1 hi
          have := hfresh x hx (by rw [e]; exact hnone)
          rw [e, h1] at this
          cases this
        obtain ⟨r2, hr2⟩ : ∃ r2, lk rs i = some r2 := by cases hq : lk rs i with
          | none => exact absurd hq hin
          | some r0 => exact ⟨r0, rfl⟩
        obtain ⟨r1, h5, h6⟩ := hsk' i r2 hr2
        rw [h1] at h5
        cases h5
        obtain ⟨r3, hr3, hl⟩ := heff.tr.live i r2 hr2
        rw [hr0] at hr3
        cases hr3
        refine ⟨_, hupi i r0 hr0, ?_⟩
        cases r2 with
        | blk cs =>
          cases r0 with
          | tok v => exact hl.elim
          | row _ _ _ _ => exact hl.elim
          | blk ds =>
            cases r with
            | tok v => exact h6.elim
            | row _ _ _ _ => exact h6.elim
            | blk es =>
              show g'.loc (σ i) = g.loc (σ i)
              rw [q1]
              exact hl
        | tok v =>
          cases r0 with
          | blk ds => exact hl.elim
          | row _ _ _ _ => exact hl.elim
          | tok v2 =>
            cases r with
            | blk es => exact h6.elim
            | row _ _ _ _ => exact h6.elim
            | tok v3 =>
              have e3 : v3 = β i + v := h6
              subst e3
              obtain ⟨l1, l2⟩ := hl
              refine ⟨by omega, fun e => ?_⟩
              obtain ⟨m1, m2, m3⟩ := l2 (by omega)
              exact ⟨by rw [q1]; exact m1, by rw [q2]; exact m2, m3⟩
        | row e l T v =>
          cases r0 with
          | blk ds => exact hl.elim
          | tok _ => exact hl.elim
          | row e2 l2 T2 v2 =>
            cases r with
            | blk es => exact h6.elim
            | tok _ => exact h6.elim
            | row e3 l3 T3 v3 =>
              obtain ⟨a1, a2, a3⟩ := h6
              cases a1
              subst a2 a3
              obtain ⟨m0, m1, m2, m3⟩ := hl
              refine ⟨m0, m1, by omega, fun e => ?_⟩
              obtain ⟨n1, n2, n3⟩ := m3 (by omega)
              exact ⟨n1, by rw [q1]; exact n2, by rw [q2]; exact n3⟩
  refine ⟨g', ?_, ⟨?_, htr, ?_, hsub⟩⟩
  · cases out0 with
    | ret p =>
      obtain ⟨v, he, hv⟩ := hout
      exact ⟨v, he, PV_of hback hWback hv⟩
    | pan v => exact hout
  · refine ⟨fun id r h1 => ?_, ?_, ?_, ?_, ?_, heff.hr.bel⟩
    · rcases hcase id r h1 with ⟨i, r0, rfl, k1, rfl, k3⟩ | ⟨hq, k1⟩
      · obtain ⟨q1, q2⟩ := hg'i i (List.mem_map.2 ⟨_, lk_mem k1, rfl⟩)
        have hv := heff.hr.res i r0 k1
        cases r0 with
        | blk cs =>
          obtain ⟨b, T, us', m1, m2, m3⟩ := hv
          exact ⟨b, T, us', q1.trans m1, m2, CVs_of hback hWback m3⟩
        | tok v => intro b hb; exact hv b (by rw [← q1]; exact hb)
        | row e l T v =>
          obtain ⟨xs, m1, m2⟩ := hv
          exact ⟨xs, by rw [rowV_eq q1 q2]; exact m1, m2.mono fun x vs h => DV.mono (Kp.of_sub hWback) h⟩
      · obtain ⟨q1, q2⟩ := hg'n id hq
        exact (hr.res id r k1).mono htr q1 q2 (fun b hb => hheap id r b hq k1 hb)
    · intro id1 id2 r1 r2 b h1 h2 h3 h4
      rcases hcase id1 r1 h1 with ⟨i, r0, rfl, k1, rfl, k3⟩ | ⟨hq, k1⟩ <;> rcases hcase id2 r2 h2 with ⟨j, r0', rfl, k1', rfl, k3'⟩ | ⟨hq', k1'⟩
      · obtain ⟨q1, _⟩ := hg'i i (List.mem_map.2 ⟨_, lk_mem k1, rfl⟩)
        obtain ⟨q2, _⟩ := hg'i j (List.mem_map.2 ⟨_, lk_mem k1', rfl⟩)
        rw [heff.hr.inj i j _ _ b k1 k1' (by rw [← q1]; exact h3) (by rw [← q2]; exact h4)]
      · obtain ⟨q1, _⟩ := hg'i i (List.mem_map.2 ⟨_, lk_mem k1, rfl⟩)
        obtain ⟨q2, _⟩ := hg'n id2 hq'
        exact absurd (.inr ⟨id2, r2, k1', hnotin id2 r2 hq' k1', by rw [← q2]; exact h4, fun v hv => Nat.le_refl _⟩) (heff.hr.fb i _ b (g.tip id2) k1 (by rw [← q1]; exact h3))
      · obtain ⟨q1, _⟩ := hg'i j (List.mem_map.2 ⟨_, lk_mem k1', rfl⟩)
        obtain ⟨q2, _⟩ := hg'n id1 hq
        exact absurd (.inr ⟨id1, r1, k1, hnotin id1 r1 hq k1, by rw [← q2]; exact h3, fun v hv => Nat.le_refl _⟩) (heff.hr.fb j _ b (g.tip id1) k1' (by rw [← q1]; exact h4))
      · obtain ⟨q1, _⟩ := hg'n id1 hq
        obtain ⟨q2, _⟩ := hg'n id2 hq'
        exact hr.inj id1 id2 _ _ b k1 k1' (by rw [← q1]; exact h3) (by rw [← q2]; exact h4)
    · intro id r b h1 h2
      rcases hcase id r h1 with ⟨i, r0, rfl, k1, rfl, k3⟩ | ⟨hq, k1⟩
      · obtain ⟨q1, _⟩ := hg'i i (List.mem_map.2 ⟨_, lk_mem k1, rfl⟩)
        exact heff.hr.base i _ b k1 (by rw [← q1]; exact h2)
      · obtain ⟨q1, _⟩ := hg'n id hq
        have := hr.base id r b k1 (by rw [← q1]; exact h2)
        exact ⟨this.1, Nat.lt_of_lt_of_le this.2 heff.fr.size⟩
    · intro id r b o h1 h2 hf
      rcases hcase id r h1 with ⟨i, r0, rfl, k1, rfl, k3⟩ | ⟨hq, k1⟩
      · obtain ⟨q1, _⟩ := hg'i i (List.mem_map.2 ⟨_, lk_mem k1, rfl⟩)
        exact heff.hr.fb i _ b o k1 (by rw [← q1]; exact h2) (.inl hf)
      · obtain ⟨q1, _⟩ := hg'n id hq
        exact hr.fb id r b o k1 (by rw [← q1]; exact h2) hf
    · exact fun b o hf => Nat.lt_of_lt_of_le (hr.fbs b o hf) heff.fr.size
  · exact ⟨heff.fr.os, heff.fr.tape, heff.fr.output, heff.fr.size, fun b hb ho => heff.fr.block b hb (fun o h => ho o (hownc b o h)), fun b o v hc ho => heff.fr.cell b o v hc (fun h => ho (hownc b o h))⟩
end Go.Proofs.YtpmnhbjbkoackaaDoor.En
