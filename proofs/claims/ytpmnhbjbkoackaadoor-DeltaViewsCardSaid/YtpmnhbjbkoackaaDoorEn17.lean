/- Functions that are handed variables: how a call is matched to what is known of the function. -/
import Derived.Test.YtpmnhbjbkoackaaDoorEn16
namespace Go.Proofs.YtpmnhbjbkoackaaDoor.En
open Go Go.RowKit
set_option linter.unusedVariables false
set_option linter.unusedSimpArgs false
/-- A kept cell of the function's, matched to a cell of the caller's: its data, and which name stands for which. -/
def KV.mt (R : Nat → Option Res) : (k : KV) → Cell → Option (k.T × List (Nat × Nat × Nat))
  | .v τ, c => (unc τ c).map fun x => (x, [])
  | .t e T i, .acc e' l T' j u => match R j with
    | some (.tok u') => if h : e' = e then (if T' = T ∧ u' = u then some (h ▸ l, [(i, j, u)]) else none) else none
    | _ => none
  | .r e T i, .row e' T' j u => match R j with
    | some (.row e2 _ T2 u') => if e' = e ∧ e2 = e ∧ T' = T ∧ T2 = T ∧ u' = u then some ((), [(i, j, u)]) else none
    | _ => none
  | .p i off, .ptr j off' => if off' = off then some ((), [(i, j, 0)]) else none
  | .np, .lit (.pointer none) => some ((), [])
  | .nl, .lit (.slice none 0 0) => some ((), [])
  | .fn f, .lit (.func (.func f') ⟨[]⟩ ⟨[]⟩) => if f' = f then some ((), []) else none
  | _, _ => none
def mtH (R : Nat → Option Res) : (ks : List KV) → List Cell → Option (HL ks × List (Nat × Nat × Nat))
  | [], [] => some ((), [])
  | k :: ks, c :: cs => (k.mt R c).bind fun x => (mtH R ks cs).bind fun y => some ((x.1, y.1), x.2 ++ y.2)
  | _, _ => none
def K1.mt (R : Nat → Option Res) : (k : K1) → PVal → Option (k.T × List (Nat × Nat × Nat))
  | .one k, .p (.one c) => k.mt R c
  | .agg ks, .p (.agg cs) => mtH R ks cs
  | _, _ => none
def mtA (R : Nat → Option Res) : (ts : List (Nat × K1)) → List PVal → Option (HT ts × List (Nat × Nat × Nat))
  | [], [] => some ((), [])
  | k :: ks, c :: cs => (k.2.mt R c).bind fun x => (mtA R ks cs).bind fun y => some ((x.1, y.1), x.2 ++ y.2)
  | _, _ => none
def mtB (R : Nat → Option Res) : (bs : List (Nat × List KV)) → List (Nat × Nat × Nat) → Option (HB bs × List (Nat × Nat × Nat))
  | [], m => some ((), m)
  | b :: bs, m => match m.lookup b.1 with
    | some (j, _) => match R j with
      | some (.blk cs) => (mtH R b.2 cs).bind fun x => (mtB R bs (m ++ x.2)).bind fun y => some ((x.1, y.1), y.2)
      | _ => none
    | none => none
/-- The lists that may be written, by the caller's names. -/
def mtW (R : Nat → Option Res) (m : List (Nat × Nat × Nat)) : (l : List TKd) → Option (HW l)
  | [] => some ()
  | (i, none) :: l => match m.lookup i with
    | some (j, v) => match R j with
      | some (.tok v') => if v' = v then mtW R m l else none
      | _ => none
    | none => none
  | (i, some p) :: l => match m.lookup i with
    | some (j, v) => match R j with
      | some (.row e c T v') => if h : e = p.1 then if T = p.2 ∧ v' = v then (mtW R m l).map fun y => (h ▸ c, y) else none else none
      | _ => none
    | none => none
def consB (m : List (Nat × Nat × Nat)) : Bool := m.all fun y => match m.lookup y.1 with
  | some (j, v) => j == y.2.1 && v == y.2.2
  | none => false
/-- The names turned. -/
def sgM (base : Nat) (m : List (Nat × Nat × Nat)) (i : Nat) : Nat := match m.lookup i with
  | some (j, _) => j
  | none => 100000 + 1000 * base + i
def btM (m : List (Nat × Nat × Nat)) (i : Nat) : Nat := match m.lookup i with
  | some (_, v) => v
  | none => 0
section
variable {R : Nat → Option Res} {σ β : Nat → Nat}
def BndOk (σ β : Nat → Nat) (m : List (Nat × Nat × Nat)) : Prop := ∀ y ∈ m, σ y.1 = y.2.1 ∧ β y.1 = y.2.2
theorem BndOk.of {base : Nat} {m : List (Nat × Nat × Nat)} (h : consB m = true) : BndOk (sgM base m) (btM m) m := by
  intro y hy
  have := List.all_eq_true.1 h y hy
  simp only [sgM, btM]
  split at this
  · rename_i j v hl
    simp only [Bool.and_eq_true, beq_iff_eq] at this
    exact this
  · cases this
theorem BndOk.left {m m' : List (Nat × Nat × Nat)} (h : BndOk σ β (m ++ m')) : BndOk σ β m := fun y hy => h y (by simp [hy])
theorem BndOk.right {m m' : List (Nat × Nat × Nat)} (h : BndOk σ β (m ++ m')) : BndOk σ β m' := fun y hy => h y (by simp [hy])
theorem KV.mt_le {k : KV} {c : Cell} {x : k.T} {m : List (Nat × Nat × Nat)} (h : k.mt R c = some (x, m)) (hb : BndOk σ β m) : CLe ((k.cell x).ren σ β) c ∧ (k.cell x).ren σ β ≠ .dead := by
  unfold KV.mt at h
  split at h
  · rename_i τ
    obtain ⟨y, h1, h2⟩ := Option.map_eq_some_iff.mp h
    cases h2
    have hl := unc_le h1
    cases τ with
    | pair a b =>
      have : unc (.pair a b) c = none := by cases c <;> rfl
      rw [this] at h1
      cases h1
    | int k => exact hl.1
    | bool => exact hl.1
    | str => exact hl.1
    | list e => exact hl.1
  · rename_i e T i e' l T' j v
    split at h
    · rename_i v' hv
      split at h
      · rename_i he
        split at h
        · rename_i h2
          cases h
          subst he
          obtain ⟨rfl, rfl⟩ := h2
          obtain ⟨h3, h4⟩ := hb _ (List.mem_singleton.2 rfl)
          simp only at h3 h4
          simp only [KV.cell, Cell.ren, h3, h4, Nat.add_zero]
          exact ⟨rfl, by simp⟩
        · cases h
      · cases h
    · cases h
  · rename_i e T i e' T' j u
    split at h
    · rename_i e2 l T2 u' hv
      split at h
      · rename_i h2
        obtain ⟨rfl, rfl, rfl, rfl, rfl⟩ := h2
        cases h
        obtain ⟨h3, h4⟩ := hb _ (List.mem_singleton.2 rfl)
        simp only at h3 h4
        simp only [KV.cell, Cell.ren, h3, h4, Nat.add_zero]
        exact ⟨rfl, by simp⟩
      · cases h
    · cases h
  · rename_i i off j off'
    split at h
    · rename_i h2
      cases h
      subst h2
      obtain ⟨h3, h4⟩ := hb _ (List.mem_singleton.2 rfl)
      simp only at h3
      simp only [KV.cell, Cell.ren, h3]
      exact ⟨rfl, by simp⟩
    · cases h
  · cases h
    exact ⟨rfl, by simp [KV.cell, Cell.ren]⟩
  · cases h
    exact ⟨rfl, by simp [KV.cell, Cell.ren]⟩
  · split at h
    · rename_i h2
      cases h
      subst h2
      exact ⟨rfl, by simp [KV.cell, Cell.ren]⟩
    · cases h
  · cases h
theorem mtH_le : ∀ {ks : List KV} {cs : List Cell} {x : HL ks} {m : List (Nat × Nat × Nat)}, mtH R ks cs = some (x, m) → BndOk σ β m → CLes ((cellsH ks x).map (Cell.ren σ β)) cs
  | [], [], _, _, _, _ => trivial
  | k :: ks, c :: cs, x, m, h, hb => by
    simp only [mtH, Option.bind_eq_some_iff] at h
    obtain ⟨y, h1, z, h2, e⟩ := h
    cases e
    exact ⟨KV.mt_le h1 hb.left, mtH_le h2 hb.right⟩
  | [], _ :: _, _, _, h, _ => by cases h
  | _ :: _, [], _, _, h, _ => by cases h
theorem K1.mt_le : ∀ {k : K1} {p : PVal} {x : k.T} {m : List (Nat × Nat × Nat)}, k.mt R p = some (x, m) → BndOk σ β m → PLe ((k.val x).ren σ β) p
  | .one k, .p (.one c), x, m, h, hb => (KV.mt_le (k := k) h hb).1
  | .agg ks, .p (.agg cs), x, m, h, hb => mtH_le (ks := ks) h hb
  | .one _, .p (.agg _), _, _, h, _ => by cases h
  | .agg _, .p (.one _), _, _, h, _ => by cases h
  | .one _, .tup _, _, _, h, _ => by cases h
  | .agg _, .tup _, _, _, h, _ => by cases h
theorem mtA_le : ∀ {ts : List (Nat × K1)} {ps : List PVal} {x : HT ts} {m : List (Nat × Nat × Nat)}, mtA R ts ps = some (x, m) → BndOk σ β m → PLes (((slotsH ts x).map (·.2)).map (PVal.ren σ β)) ps
  | [], [], _, _, _, _ => trivial
  | k :: ks, c :: cs, x, m, h, hb => by
    simp only [mtA, Option.bind_eq_some_iff] at h
    obtain ⟨y, h1, z, h2, e⟩ := h
    cases e
    exact ⟨K1.mt_le h1 hb.left, mtA_le h2 hb.right⟩
  | [], _ :: _, _, _, h, _ => by cases h
  | _ :: _, [], _, _, h, _ => by cases h
theorem mtB_sub : ∀ {bs : List (Nat × List KV)} {m m' : List (Nat × Nat × Nat)} {x : HB bs}, mtB R bs m = some (x, m') → ∀ y ∈ m, y ∈ m'
  | [], m, m', x, h => by cases h; exact fun y hy => hy
  | b :: bs, m, m', x, h => by
    simp only [mtB] at h
    split at h
    · split at h
      · simp only [Option.bind_eq_some_iff] at h
        obtain ⟨y, h1, z, h2, e⟩ := h
        cases e
        exact fun u hu => mtB_sub h2 u (by simp [hu])
      · cases h
    · cases h
theorem lookup_mem3 {m : List (Nat × Nat × Nat)} {i : Nat} {y : Nat × Nat} (h : m.lookup i = some y) : (i, y) ∈ m := by
  induction m with
  | nil => cases h
  | cons z m ih =>
    obtain ⟨k, v⟩ := z
    simp only [List.lookup] at h
    split at h
    · rename_i e
      have : i = k := by simpa using e
      subst this
      cases h
      simp
    · exact List.mem_cons_of_mem _ (ih h)
theorem mtB_le : ∀ {bs : List (Nat × List KV)} {m m' : List (Nat × Nat × Nat)} {x : HB bs}, mtB R bs m = some (x, m') → BndOk σ β m' → ∀ y ∈ blksH bs x, ∃ r, R (σ y.1) = some r ∧ RLe (y.2.ren σ β y.1) r
  | [], m, m', x, h, _ => fun y hy => by cases hy
  | b :: bs, m, m', x, h, hb => by
    simp only [mtB] at h
    split at h
    · rename_i j v hl
      split at h
      · rename_i cs hcs
        simp only [Option.bind_eq_some_iff] at h
        obtain ⟨u, h1, z, h2, e⟩ := h
        cases e
        have hsub := mtB_sub h2
        intro y hy
        rcases List.mem_cons.1 hy with rfl | hy
        · have hj := (hb _ (hsub _ (List.mem_append_left _ (lookup_mem3 hl)))).1
          simp only at hj
          refine ⟨.blk cs, by simp only [hj]; exact hcs, ?_⟩
          exact mtH_le h1 (fun q hq => hb q (hsub q (by simp [hq])))
        · exact mtB_le h2 hb y hy
      · cases h
    · cases h
theorem mtW_le {m : List (Nat × Nat × Nat)} (hb : BndOk σ β m) : ∀ {l : List TKd} {x : HW l}, mtW R m l = some x → ∀ y ∈ resW l x, ∃ r, R (σ y.1) = some r ∧ RLe (y.2.ren σ β y.1) r
  | [], x, h => fun y hy => by cases hy
  | (i, none) :: l, x, h => by
    simp only [mtW] at h
    split at h
    · rename_i j v hl
      split at h
      · rename_i v' hv
        split at h
        · rename_i e
          subst e
          intro y hy
          rcases List.mem_cons.1 hy with rfl | hy
          · have h3 := hb _ (lookup_mem3 hl)
            simp only at h3
            refine ⟨.tok v', by simp only [h3.1]; exact hv, ?_⟩
            show β i + 0 = v'
            rw [h3.2]
            rfl
          · exact mtW_le hb h y hy
        · cases h
      · cases h
    · cases h
  | (i, some p) :: l, x, h => by
    simp only [mtW] at h
    split at h
    · rename_i j v hl
      split at h
      · rename_i e c T v' hv
        split at h
        · rename_i he
          subst he
          split at h
          · rename_i hc
            obtain ⟨rfl, rfl⟩ := hc
            obtain ⟨z, h1, h2⟩ := Option.map_eq_some_iff.mp h
            cases h2
            intro y hy
            rcases List.mem_cons.1 hy with rfl | hy
            · have h3 := hb _ (lookup_mem3 hl)
              simp only at h3
              refine ⟨.row p.1 c p.2 v', by simp only [h3.1]; exact hv, ⟨rfl, rfl, ?_⟩⟩
              show β i + 0 = v'
              rw [h3.2]
              rfl
            · exact mtW_le hb h1 y hy
          · cases h
        · cases h
      · cases h
    · cases h
end
/-- The names of a shape are known, and each once. -/
def KV.okB (bi : List Nat) (ti : List TKd) : KV → Bool
  | .p i _ => bi.contains i
  | .t _ _ i => decide ((i, none) ∈ ti)
  | .r e T i => decide ((i, some (e, T)) ∈ ti)
  | .v (.pair _ _) => false
  | _ => true
def K1.okB (bi : List Nat) (ti : List TKd) : K1 → Bool
  | .one k => k.okB bi ti
  | .agg ks => ks.all (KV.okB bi ti)
def Sh.bi (s : Sh) : List Nat := s.bs.map (·.1)
def Sh.keys (s : Sh) : List Nat := s.bi ++ s.tk ++ s.dk.map (·.1)
def Sh.okB (s : Sh) : Bool := decide s.keys.Nodup && s.ts.all (fun x => x.2.okB s.bi s.ws) && (s.bs.all fun x => x.2.all (KV.okB s.bi s.ws)) && s.dk.all fun x => match x.2 with | .blk _ => false | _ => true
def okCB (bi : List Nat) (ti : List TKd) : Cell → Bool
  | .ptr i _ => bi.contains i
  | .acc _ _ _ i v => decide ((i, none) ∈ ti) && v == 0
  | .row e T i v => decide ((i, some (e, T)) ∈ ti) && v == 0
  | .rptr _ _ _ _ _ _ => false
  | .dead => false
  | _ => true
def okP1B (bi : List Nat) (ti : List TKd) : P1 → Bool
  | .one c => okCB bi ti c
  | .agg cs => cs.all (okCB bi ti)
def okPB (bi : List Nat) (ti : List TKd) : PVal → Bool
  | .p x => okP1B bi ti x
  | .tup ps => ps.all (okP1B bi ti)
theorem CLe.refl (c : Cell) : CLe c c := by cases c <;> first | rfl | trivial
theorem CLes.refl : ∀ {cs : List Cell}, (∀ c ∈ cs, c ≠ .dead) → CLes cs cs
  | [], _ => trivial
  | c :: cs, h => ⟨⟨CLe.refl c, h c (by simp)⟩, CLes.refl fun d hd => h d (by simp [hd])⟩
theorem okCB_dead {bi : List Nat} {ti : List TKd} {c : Cell} (h : okCB bi ti c = true) : c ≠ .dead := by rintro rfl; cases h
theorem P1Le.refl {bi : List Nat} {ti : List TKd} {p : P1} (h : okP1B bi ti p = true) : P1Le p p := by
  cases p with
  | one c => exact CLe.refl c
  | agg cs => exact CLes.refl fun c hc => okCB_dead (List.all_eq_true.1 h c hc)
theorem P1Les.refl {bi : List Nat} {ti : List TKd} : ∀ {ps : List P1}, ps.all (okP1B bi ti) = true → P1Les ps ps
  | [], _ => trivial
  | p :: ps, h => by
    simp only [List.all_cons, Bool.and_eq_true] at h
    exact ⟨P1Le.refl h.1, P1Les.refl h.2⟩
theorem PLe.refl {bi : List Nat} {ti : List TKd} {p : PVal} (h : okPB bi ti p = true) : PLe p p := by
  cases p with
  | p x => exact P1Le.refl h
  | tup ps => exact P1Les.refl h
section
variable {s : Sh}
theorem Sh.st_keys (s : Sh) (x : s.T) : (s.st x).res.map (·.1) = s.keys := by
  have : ∀ (bs : List (Nat × List KV)) (y : HB bs), (blksH bs y).map (·.1) = bs.map (·.1) := by
    intro bs
    induction bs with
    | nil => intro y; rfl
    | cons b bs ih => intro y; simp [blksH, ih]
  have h2 : ∀ (l : List TKd) (y : HW l), (resW l y).map (·.1) = l.map (·.1) := by
    intro l
    induction l with
    | nil => intro y; rfl
    | cons b l ih =>
      intro y
      obtain ⟨i, o⟩ := b
      cases o with
      | none => simp only [resW, List.map_cons, ih]
      | some p => simp only [resW, List.map_cons, ih]
  simp [Sh.st, Sh.keys, Sh.bi, Sh.tk, this, h2]
theorem blksH_lookup : ∀ {bs : List (Nat × List KV)} {y : HB bs} {i : Nat}, i ∈ bs.map (·.1) → ∃ cs, (blksH bs y).lookup i = some (.blk cs)
  | [], _, i, h => by cases h
  | b :: bs, y, i, h => by
    by_cases e : i = b.1
    · subst e; exact ⟨cellsH b.2 y.1, by simp [blksH, List.lookup]⟩
    · have e2 : (i == b.1) = false := by simpa using e
      simp only [List.map_cons, List.mem_cons] at h
      obtain ⟨cs, hcs⟩ := blksH_lookup (y := y.2) (h.resolve_left e)
      exact ⟨cs, by simp only [blksH, List.lookup, e2]; exact hcs⟩
theorem Sh.lk_blk {x : s.T} {i : Nat} (h : i ∈ s.bi) : ∃ cs, lk (s.st x).res i = some (.blk cs) := by
  obtain ⟨cs, hcs⟩ := blksH_lookup (y := x.2.1) h
  refine ⟨cs, ?_⟩
  simp only [lk, Sh.st]
  rw [up_app, up_app, hcs]
  rfl
theorem blksH_none {bs : List (Nat × List KV)} {y : HB bs} {i : Nat} (h : i ∉ bs.map (·.1)) : (blksH bs y).lookup i = none := by
  induction bs with
  | nil => rfl
  | cons b bs ih =>
    simp only [List.map_cons, List.mem_cons, not_or] at h
    have e2 : (i == b.1) = false := by simpa using h.1
    simp only [blksH, List.lookup, e2]
    exact ih h.2
theorem resW_lookup : ∀ {l : List TKd} {y : HW l} {i : Nat}, (l.map (·.1)).Nodup → ((i, none) ∈ l → (resW l y).lookup i = some (.tok 0)) ∧ (∀ p : Ty × TypeId, (i, some p) ∈ l → ∃ c, (resW l y).lookup i = some (.row p.1 c p.2 0))
  | [], y, i, _ => ⟨(fun h => by cases h), (fun p h => by cases h)⟩
  | (j, none) :: l, y, i, hn => by
    simp only [List.map_cons, List.nodup_cons] at hn
    have ih := resW_lookup (l := l) (y := y) (i := i) hn.2
    have hne : ∀ o, (i, o) ∈ l → (i == j) = false := fun o h => by
      have : i ≠ j := fun e => hn.1 (by rw [← e]; exact List.mem_map.2 ⟨_, h, rfl⟩)
      simpa using this
    refine ⟨fun h => ?_, fun p h => ?_⟩
    · rcases List.mem_cons.1 h with h | h
      · cases h; simp [resW, List.lookup]
      · simp only [resW, List.lookup, hne _ h]; exact ih.1 h
    · rcases List.mem_cons.1 h with h | h
      · cases h
      · simp only [resW, List.lookup, hne _ h]; exact ih.2 p h
  | (j, some q) :: l, y, i, hn => by
    simp only [List.map_cons, List.nodup_cons] at hn
    have ih := resW_lookup (l := l) (y := y.2) (i := i) hn.2
    have hne : ∀ o, (i, o) ∈ l → (i == j) = false := fun o h => by
      have : i ≠ j := fun e => hn.1 (by rw [← e]; exact List.mem_map.2 ⟨_, h, rfl⟩)
      simpa using this
    refine ⟨fun h => ?_, fun p h => ?_⟩
    · rcases List.mem_cons.1 h with h | h
      · cases h
      · simp only [resW, List.lookup, hne _ h]; exact ih.1 h
    · rcases List.mem_cons.1 h with h | h
      · cases h; exact ⟨y.1, by simp [resW, List.lookup]⟩
      · simp only [resW, List.lookup, hne _ h]; exact ih.2 p h
theorem Sh.lk_w {x : s.T} {i : Nat} (hn : s.keys.Nodup) : ((i, none) ∈ s.ws → lk (s.st x).res i = some (.tok 0)) ∧ (∀ p : Ty × TypeId, (i, some p) ∈ s.ws → ∃ c, lk (s.st x).res i = some (.row p.1 c p.2 0)) := by
  have hb : i ∈ s.tk → i ∉ s.bs.map (·.1) := fun h hb => by
    have h1 := (List.nodup_append.1 (List.nodup_append.1 hn).1).2.2 i hb i h
    exact h1 rfl
  have hw := resW_lookup (l := s.ws) (y := x.2.2) (i := i) (List.nodup_append.1 (List.nodup_append.1 hn).1).2.1
  refine ⟨fun h => ?_, fun p h => ?_⟩
  · simp only [lk, Sh.st]
    rw [up_app, up_app, blksH_none (hb (List.mem_map.2 ⟨_, h, rfl⟩)), hw.1 h]
    rfl
  · obtain ⟨c, hc⟩ := hw.2 p h
    refine ⟨c, ?_⟩
    simp only [lk, Sh.st]
    rw [up_app, up_app, blksH_none (hb (List.mem_map.2 ⟨_, h, rfl⟩)), hc]
    rfl
theorem okCB_ok {x : s.T} (hn : s.keys.Nodup) {c : Cell} (h : okCB s.bi s.ws c = true) : okC (s.st x).res c := by
  cases c with
  | ptr i o => exact Sh.lk_blk (by simpa [okCB] using h)
  | acc e l T i v =>
    simp only [okCB, Bool.and_eq_true, beq_iff_eq, decide_eq_true_eq] at h
    obtain ⟨h1, rfl⟩ := h
    exact ⟨0, (Sh.lk_w hn).1 h1, Nat.le_refl _⟩
  | row e T i v =>
    simp only [okCB, Bool.and_eq_true, beq_iff_eq, decide_eq_true_eq] at h
    obtain ⟨h1, rfl⟩ := h
    obtain ⟨c, hc⟩ := (Sh.lk_w (x := x) hn).2 _ h1
    exact ⟨c, 0, hc, Nat.le_refl _⟩
  | rptr e T i v n o => cases h
  | _ => trivial
theorem KV.okB_cell {k : KV} {bi : List Nat} {ti : List TKd} (h : k.okB bi ti = true) (x : k.T) : okCB bi ti (k.cell x) = true := by
  cases k with
  | v τ => cases τ <;> first | rfl | cases h
  | t e T i => simpa [KV.cell, okCB, KV.okB] using h
  | r e T i => simpa [KV.cell, okCB, KV.okB] using h
  | p i o => exact h
  | np => rfl
  | nl => rfl
  | fn f => rfl
theorem cellsH_okB {bi : List Nat} {ti : List TKd} : ∀ {ks : List KV} {x : HL ks}, ks.all (KV.okB bi ti) = true → (cellsH ks x).all (okCB bi ti) = true
  | [], _, _ => rfl
  | k :: ks, x, h => by
    simp only [List.all_cons, Bool.and_eq_true] at h
    simp only [cellsH, List.all_cons, Bool.and_eq_true]
    exact ⟨KV.okB_cell h.1 _, cellsH_okB h.2⟩
theorem K1.okB_val {bi : List Nat} {ti : List TKd} : ∀ {k : K1}, k.okB bi ti = true → ∀ x : k.T, okPB bi ti (k.val x) = true
  | .one k, h, x => KV.okB_cell (k := k) h x
  | .agg ks, h, x => cellsH_okB (ks := ks) h
theorem okPB_ok {x : s.T} (hn : s.keys.Nodup) {p : PVal} (h : okPB s.bi s.ws p = true) : okP (s.st x).res p := by
  have h1 : ∀ {q : P1}, okP1B s.bi s.ws q = true → okP1 (s.st x).res q := by
    intro q hq
    cases q with
    | one c => exact okCB_ok hn hq
    | agg cs => exact fun c hc => okCB_ok hn (List.all_eq_true.1 hq c hc)
  cases p with
  | p q => exact h1 h
  | tup ps => exact fun q hq => h1 (List.all_eq_true.1 h q hq)
theorem slotsH_ok : ∀ {ts : List (Nat × K1)} {y : HT ts} {bi : List Nat} {ti : List TKd}, ts.all (fun x => x.2.okB bi ti) = true → ∀ p ∈ (slotsH ts y).map (·.2), okPB bi ti p = true
  | [], _, _, _, _, p, hp => by cases hp
  | k :: ks, y, bi, ti, h, p, hp => by
    simp only [List.all_cons, Bool.and_eq_true] at h
    rcases List.mem_cons.1 hp with rfl | hp
    · exact K1.okB_val h.1 _
    · exact slotsH_ok h.2 p hp
theorem blksH_ok : ∀ {bs : List (Nat × List KV)} {y : HB bs} {bi : List Nat} {ti : List TKd}, bs.all (fun x => x.2.all (KV.okB bi ti)) = true → ∀ z ∈ blksH bs y, ∃ cs, z.2 = .blk cs ∧ cs.all (okCB bi ti) = true
  | [], _, _, _, _, p, hp => by cases hp
  | k :: ks, y, bi, ti, h, p, hp => by
    simp only [List.all_cons, Bool.and_eq_true] at h
    rcases List.mem_cons.1 hp with rfl | hp
    · exact ⟨_, rfl, cellsH_okB h.1⟩
    · exact blksH_ok h.2 p hp
theorem Sh.res_ok (h : s.okB = true) (x : s.T) : ∀ z ∈ (s.st x).res, okR (s.st x).res z.2 ∧ RLe z.2 z.2 := by
  simp only [Sh.okB, Bool.and_eq_true, decide_eq_true_eq] at h
  obtain ⟨h, hdk⟩ := h
  intro z hz
  simp only [Sh.st, List.mem_append] at hz
  rcases hz with (hz | hz) | hz
  · obtain ⟨cs, e, hcs⟩ := blksH_ok h.2 z hz
    rw [e]
    exact ⟨fun c hc => okCB_ok h.1.1 (List.all_eq_true.1 hcs c hc), CLes.refl fun c hc => okCB_dead (List.all_eq_true.1 hcs c hc)⟩
  · have : ∀ {l : List TKd} {y : HW l}, z ∈ resW l y → okR (s.st x).res z.2 ∧ RLe z.2 z.2 := by
      intro l
      induction l with
      | nil => intro y h; cases h
      | cons b l ih =>
        intro y h
        obtain ⟨i, o⟩ := b
        cases o with
        | none =>
          rcases List.mem_cons.1 h with rfl | h
          · exact ⟨trivial, rfl⟩
          · exact ih h
        | some p =>
          rcases List.mem_cons.1 h with rfl | h
          · exact ⟨trivial, rfl, rfl, rfl⟩
          · exact ih h
    exact this hz
  · have := List.all_eq_true.1 hdk z hz
    obtain ⟨i, r⟩ := z
    cases r with
    | blk cs => cases this
    | tok v => exact ⟨trivial, rfl⟩
    | row e l T v => exact ⟨trivial, rfl, rfl, rfl⟩
theorem RsLe_self : ∀ {l : List (Nat × Res)} {S : St}, (∀ z ∈ l, S.R z.1 = some z.2 ∧ RLe z.2 z.2) → RsLe S l
  | [], _, _ => trivial
  | z :: l, S, h => by
    refine ⟨?_, RsLe_self fun y hy => h y (by simp [hy])⟩
    obtain ⟨h1, h2⟩ := h z (by simp)
    rw [h1]
    exact h2
theorem lookup_nodup : ∀ {l : List (Nat × Res)} {z : Nat × Res}, (l.map (·.1)).Nodup → z ∈ l → l.lookup z.1 = some z.2
  | [], _, _, h => by cases h
  | y :: l, z, hn, h => by
    obtain ⟨k, v⟩ := y
    simp only [List.map_cons, List.nodup_cons] at hn
    rcases List.mem_cons.1 h with rfl | h
    · simp [List.lookup]
    · have hne : z.1 ≠ k := fun e => hn.1 (by rw [← e]; exact List.mem_map.2 ⟨z, h, rfl⟩)
      have : (z.1 == k) = false := by simpa using hne
      simp only [List.lookup, this]
      exact lookup_nodup hn.2 h
end
/-- A function's arguments stand in its first slots. -/
def seqB : List (Nat × K1) → Nat → Bool
  | [], _ => true
  | x :: l, k => x.1 == k && seqB l (k + 1)
theorem seqB_args : ∀ {ts : List (Nat × K1)} {y : HT ts} {k : Nat}, seqB ts k = true → args0 ((slotsH ts y).map (·.2)) k = slotsH ts y
  | [], _, _, _ => rfl
  | x :: l, y, k, h => by
    simp only [seqB, Bool.and_eq_true, beq_iff_eq] at h
    obtain ⟨rfl, h2⟩ := h
    simp only [slotsH, List.map_cons, args0, seqB_args h2]
theorem slotsH_len : ∀ {ts : List (Nat × K1)} {y : HT ts}, (slotsH ts y).length = ts.length
  | [], _ => rfl
  | _ :: _, y => by simp [slotsH, slotsH_len]
/-- What a function hands back, out of the kept state at its end. -/
def rvOf (E : EnvT) (fn : Func) (S : St) : PVal := match resF E S fn.results.toList with
  | some p => p
  | none => .tup []
def endX (outs : List (PE × Pt)) : PE → St → Option (ExT outs)
  | .ret, S | .normal, S => packX outs .ret S
  | _, _ => none
def shB (fn : Func) (inn : Pt) (outs : List (PE × Pt)) : Bool := inn.sh.n == fn.ntmps && decide (inn.sh.ts.length ≤ fn.ntmps) && (fn.body.isSome && !(fn.name == "runtime.NumGoroutine")) && seqB inn.sh.ts 0 && inn.sh.okB && (outs.all fun x => x.2.sh.okB && peEq x.1 .ret) && keepsX inn.sh.keys outs && inn.sh.dk.isEmpty
theorem shB_spec {fn : Func} {inn : Pt} {outs : List (PE × Pt)} (hn : shB fn inn outs = true) : inn.sh.n = fn.ntmps ∧ inn.sh.ts.length ≤ fn.ntmps ∧ (fn.body.isSome && !(fn.name == "runtime.NumGoroutine")) = true ∧ seqB inn.sh.ts 0 = true ∧ inn.sh.okB = true ∧ (∀ x ∈ outs, x.2.sh.okB = true ∧ x.1 = .ret ∧ keeps inn.sh.keys x.2.sh = true) ∧ keepsX inn.sh.keys outs = true ∧ inn.sh.dk = [] := by
  simp only [shB, Bool.and_eq_true, decide_eq_true_eq, beq_iff_eq, List.isEmpty_iff] at hn
  obtain ⟨⟨⟨⟨⟨⟨⟨n1, n2⟩, n3⟩, n5⟩, n6⟩, n7⟩, n8⟩, n9⟩ := hn
  refine ⟨n1, n2, by simpa using n3, n5, n6, fun x hx => ?_, n8, n9⟩
  have h1 := List.all_eq_true.1 n7 x hx
  simp only [Bool.and_eq_true] at h1
  exact ⟨h1.1, peEq_eq h1.2, List.all_eq_true.1 n8 x hx⟩
/-- The results are known at each end. -/
def OutsOk (E : EnvT) (fn : Func) : List (PE × Pt) → Prop
  | [] => True
  | x :: l => (∀ c : x.2.C, (match resF E (x.2.st c) fn.results.toList with | some p => okPB x.2.sh.bi x.2.sh.ws p | none => false) = true) ∧ OutsOk E fn l
theorem OutsOk.at {E : EnvT} {fn : Func} : ∀ {l : List (PE × Pt)} {x : PE × Pt}, OutsOk E fn l → x ∈ l → ∀ c : x.2.C, (match resF E (x.2.st c) fn.results.toList with | some p => okPB x.2.sh.bi x.2.sh.ws p | none => false) = true
  | [], _, _, h => by cases h
  | y :: l, x, h, hx => by
    rcases List.mem_cons.1 hx with rfl | hx
    · exact h.1
    · exact OutsOk.at h.2 hx
/-- What the end of a body must hold, for a function that is handed variables. -/
def ConF (P : Program) (GL : World → Prop) (E : EnvT) (id : FuncId) (fn : Func) (inn : Pt) (outs : List (PE × Pt)) (F : inn.C → Option (ExT outs)) : Prop :=
  ∀ v z, F (inn.p v) = some z → ∀ x ∈ outs, ∀ c : x.2.C, (∀ {α : Type} (κ : PE → St → α), goX κ outs z = κ x.1 (x.2.st c)) →
    Con P GL id ((slotsH inn.sh.ts v.1).map (·.2)) (inn.sh.st v).res (.ret (rvOf E fn (x.2.st c))) (x.2.st c).res
theorem conR_of {P : Program} {GL : World → Prop} (V : Env P GL) (id : FuncId) (fn : Func) (hf : P.funcs[id]? = some fn) (inn : Pt) (outs : List (PE × Pt)) (F : inn.C → Option (ExT outs)) (a : CT P GL inn.sh.keys)
    (hn : shB fn inn outs = true) (hr : OutsOk V.E fn outs)
    (ha : putC (bodyOf fn) a = bodyOf fn)
    (h : ∀ v, F v = evC V (bodyOf fn) a (inn.st v) (endX outs)) : ConF P GL V.E id fn inn outs F := by
  intro v z h3 x hx c0 hgo
  obtain ⟨n1, n2, n3, n5, n6, n7, n8, n9⟩ := shB_spec hn
  simp only [Bool.and_eq_true] at n3
  have hst : inn.st (inn.p v) = inn.sh.st v := by simp only [Pt.st, inn.hp]
  obtain ⟨ok2, hret, hkeep⟩ := n7 x hx
  have okx := ok2
  simp only [Sh.okB, Bool.and_eq_true, decide_eq_true_eq] at ok2
  obtain ⟨c, hb⟩ := Option.isSome_iff_exists.1 n3.1
  have hcb : bodyOf fn = c := by simp only [bodyOf, hb]
  rw [h] at h3
  have hev := evC_sound h3
  rw [ha, hcb, hst] at hev
  refine Con.of V.hE hf hb (by simp [slotsH_len]; exact n2) ?_
  rw [seqB_args n5, Sh.st_keys]
  have e : (⟨fn.ntmps, slotsH inn.sh.ts v.1, (inn.sh.st v).res⟩ : St) = inn.sh.st v := by
    rw [← n1]; rfl
  rw [e]
  refine PW.absorb (PW.mono hev fun e S hq => ?_)
  have fin : ∀ {e : PE}, e = .ret ∨ e = .normal → packX outs .ret S = some z → ∃ S2, Wk inn.sh.keys S S2 ∧ Post V.E fn inn.sh.keys (.ret (rvOf V.E fn (x.2.st c0))) (x.2.st c0).res e S2 := by
    intro e he hg
    obtain ⟨y, hy, cy, hey, hwk, hgo2⟩ := packX_at hg n8
    have e1 : (x.1, x.2.st c0) = (PE.ret, y.2.st cy) := (hgo fun e S => (e, S)).symm.trans (hgo2 fun e S => (e, S))
    have e2 : y.2.st cy = x.2.st c0 := (Prod.mk.inj e1).2.symm
    rw [e2] at hwk
    refine ⟨x.2.st c0, hwk, ?_, ?_, ?_, ?_, ?_⟩
    · refine RsLe_self fun q hq => ⟨lookup_nodup ?_ hq, (Sh.res_ok okx (x.2.o c0) q hq).2⟩
      show ((x.2.sh.st (x.2.o c0)).res.map (·.1)).Nodup
      rw [Sh.st_keys]; exact ok2.1.1.1
    · show ((x.2.sh.st (x.2.o c0)).res.map (·.1)).Nodup
      rw [Sh.st_keys]; exact ok2.1.1.1
    · exact fun q hq => (Sh.res_ok okx (x.2.o c0) q hq).1
    · intro k hk
      show k ∈ (x.2.sh.st (x.2.o c0)).res.map (·.1)
      rw [Sh.st_keys]
      have := List.all_eq_true.1 hkeep k hk
      simp only [Sh.keys, Sh.bi, List.mem_append]
      rcases (Bool.or_eq_true _ _).mp this with h | h
      · exact .inl (.inl (by simpa using h))
      · exact .inr (by simpa using h)
    · have hrz := hr.at hx c0
      split at hrz
      · rename_i p hp
        have : ∃ p p0, Out.ret (rvOf V.E fn (x.2.st c0)) = .ret p ∧ resF V.E (x.2.st c0) fn.results.toList = some p0 ∧ PLe p p0 ∧ okP (x.2.st c0).res p := by
          refine ⟨p, p, by simp [rvOf, hp], hp, PLe.refl hrz, okPB_ok (x := x.2.o c0) ok2.1.1.1 hrz⟩
        rcases he with rfl | rfl <;> exact this
      · cases hrz
  cases e with
  | ret => exact fin (.inl rfl) hq
  | normal => exact fin (.inr rfl) hq
  | exit i => cases hq
  | pan v => cases hq
def forceL {α : Type} : List (Nat × Nat × Nat) → (List (Nat × Nat × Nat) → α) → α
  | [], f => f []
  | (a, b, c) :: l, f => forceL l fun m => f ((a, b, c) :: m)
theorem forceL_eq {α : Type} : ∀ {l : List (Nat × Nat × Nat)} {f : List (Nat × Nat × Nat) → α}, forceL l f = f l
  | [], _ => rfl
  | (a, b, c) :: l, f => by simp only [forceL, forceL_eq]
/-- A call's end: the names turned, and apart. -/
def retX {α : Type} (inn : Sh) (m : List (Nat × Nat × Nat)) (n : Nat) (R : Nat → Option Res) (κ : PVal → List (Nat × Res) → List Nat → Option α) (p : PVal) (rs : List (Nat × Res)) : Option α :=
  match decide ((rs.map fun q => sgM n m q.1).Nodup) && (rs.all fun q => inn.keys.contains q.1 || (R (sgM n m q.1)).isNone) with
  | true => κ (p.ren (sgM n m) (btM m)) (rs.map fun q => (sgM n m q.1, q.2.ren (sgM n m) (btM m) q.1)) (rs.map fun q => sgM n m q.1)
  | false => none
/-- A function that is handed variables, by what is known of it. -/
def FD.res {P : Program} {GL : World → Prop} (E : EnvT) (id : FuncId) (fn : Func) (hf : P.funcs[id]? = some fn) (inn : Pt) (outs : List (PE × Pt)) (F : inn.C → Option (ExT outs)) (hn : shB fn inn outs = true) (hcon : ConF P GL E id fn inn outs F) : FD P GL where
  id := id
  ok args R := match mtA R inn.sh.ts args with
    | some x => (mtB R inn.sh.bs x.2).isSome
    | none => false
  call n args R κ := (mtA R inn.sh.ts args).bind fun x => (mtB R inn.sh.bs x.2).bind fun y => forceL y.2 fun m =>
    match consB m with
    | true => (mtW R m inn.sh.ws).bind fun w => (F (inn.p (x.1, y.1, w))).bind fun z => goX (fun _ S => retX inn.sh m n R κ (rvOf E fn S) S.res) outs z
    | false => none
  sound := by
    intro α n args R κ r hcall
    obtain ⟨n1, n2, n3, n5, n6, n7, n8, hdk⟩ := shB_spec hn
    obtain ⟨⟨x1, m1⟩, h1, hcall⟩ := Option.bind_eq_some_iff.mp hcall
    obtain ⟨⟨y1, m⟩, h2, hcall⟩ := Option.bind_eq_some_iff.mp hcall
    simp only at hcall h2
    rw [forceL_eq] at hcall
    split at hcall
    · rename_i hc
      have c1 := hc
      obtain ⟨w1, h2w, hcall⟩ := Option.bind_eq_some_iff.mp hcall
      obtain ⟨z, h3, hk⟩ := Option.bind_eq_some_iff.mp hcall
      obtain ⟨xo, hxo, co, hgo⟩ := goX_split outs z
      rw [hgo] at hk
      have hcon' := hcon _ _ h3 xo hxo co hgo
      obtain ⟨n7, _, n8⟩ := n7 xo hxo
      have hB : BndOk (sgM n m) (btM m) m := BndOk.of c1
      have ok1 := n6
      have ok2 := n7
      simp only [Sh.okB, Bool.and_eq_true, decide_eq_true_eq] at ok1 ok2
      unfold retX at hk
      split at hk
      · rename_i hc2
        simp only [Bool.and_eq_true, decide_eq_true_eq] at hc2
        obtain ⟨c3, c4⟩ := hc2
        refine ⟨_, _, _, ⟨_, _, _, _, sgM n m, btM m, hcon', mtA_le h1 (fun q hq => hB q (mtB_sub h2 q hq)), ?_, ?_, ?_, ?_, ?_, ?_, ?_, rfl, rfl, rfl⟩, hk⟩
        · intro p hp
          exact okPB_ok (x := (x1, y1, w1)) ok1.1.1.1 (slotsH_ok ok1.1.1.2 p hp)
        · exact fun q hq => (Sh.res_ok n6 (x1, y1, w1) q hq).1
        · intro q hq
          simp only [Sh.st, hdk, List.append_nil, List.mem_append] at hq
          rcases hq with hq | hq
          · exact mtB_le h2 hB q hq
          · exact mtW_le hB h2w q hq
        · exact c3
        · show ((inn.sh.st (x1, y1, w1)).res.map (·.1)).Nodup
          rw [Sh.st_keys]; exact ok1.1.1.1
        · intro q hq
          have hq' : q.1 ∈ inn.sh.keys := by rw [← Sh.st_keys inn.sh (x1, y1, w1)]; exact List.mem_map.2 ⟨q, hq, rfl⟩
          show q.1 ∈ (xo.2.sh.st (xo.2.o co)).res.map (·.1)
          rw [Sh.st_keys]
          have := List.all_eq_true.1 n8 q.1 hq'
          simp only [Sh.keys, Sh.bi, List.mem_append]
          rcases (Bool.or_eq_true _ _).mp this with h | h
          · exact .inl (.inl (by simpa using h))
          · exact .inr (by simpa using h)
        · intro q hq hnone
          have := List.all_eq_true.1 c4 q hq
          rcases (Bool.or_eq_true _ _).mp this with h | h
          · have hin : q.1 ∈ inn.sh.keys := by simpa using h
            rw [← Sh.st_keys inn.sh (x1, y1, w1)] at hin
            obtain ⟨u, hu, e⟩ := List.mem_map.1 hin
            have := lookup_nodup (by rw [Sh.st_keys]; exact ok1.1.1.1) hu
            rw [e] at this
            rw [lk, this] at hnone
            cases hnone
          · cases hh : R (sgM n m q.1) with
            | none => rfl
            | some u => rw [hh] at h; cases h
      · cases hk
    · cases hcall
  fn := fnOk hf (shB_spec hn).2.2.1
/-- A function that is handed variables: its body's run. -/
def FD.ofR {P : Program} {GL : World → Prop} (V : Env P GL) (id : FuncId) (fn : Func) (hf : P.funcs[id]? = some fn) (inn : Pt) (outs : List (PE × Pt)) (F : inn.C → Option (ExT outs)) (a : CT P GL inn.sh.keys)
    (hn : shB fn inn outs = true) (hr : OutsOk V.E fn outs)
    (ha : putC (bodyOf fn) a = bodyOf fn)
    (h : ∀ v, F v = evC V (bodyOf fn) a (inn.st v) (endX outs)) : FD P GL := FD.res V.E id fn hf inn outs F hn (conR_of V id fn hf inn outs F a hn hr ha h)
end Go.Proofs.YtpmnhbjbkoackaaDoor.En
