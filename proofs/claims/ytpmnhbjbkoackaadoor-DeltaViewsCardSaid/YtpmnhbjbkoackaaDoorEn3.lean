/- Each operation of the plain run is what the model makes of it: the lemmas on memory. -/
import Derived.Test.YtpmnhbjbkoackaaDoorEn2
import Derived.Laws.OwnMore
import Derived.Laws.Build
namespace Go.Proofs.YtpmnhbjbkoackaaDoor.En
open Go Go.RowKit
set_option linter.unusedVariables false
set_option linter.unusedSimpArgs false
variable {P : Program} {wt : World} {Fb : Nat → Nat → Prop} {w w' : World} {R R' : Nat → Option Res} {g g' : Gh}

theorem up_nil (R : Nat → Option Res) : up [] R = R := by funext id; simp [up]
theorem up_one (d : Nat) (r : Res) (R : Nat → Option Res) (id : Nat) : up [(d, r)] R id = if id = d then some r else R id := by
  simp only [up, List.lookup]
  by_cases h : id = d
  · subst h; simp
  · have : (id == d) = false := by simpa using h
    simp [this, h]
theorem up_app (us vs : List (Nat × Res)) (id : Nat) : (us ++ vs).lookup id = (us.lookup id).or (vs.lookup id) := by
  induction us with
  | nil => simp
  | cons u us ih =>
    obtain ⟨k, r⟩ := u
    simp only [List.cons_append, List.lookup]
    split
    · simp
    · exact ih
theorem St.R_put (S : St) (d : Option Nat) (p : PVal) (us : List (Nat × Res)) : (S.put d p us).R = up us S.R := by
  funext id
  simp [St.put, St.R, up, up_app]
theorem Fr.refl (O : Nat → Nat → Prop) (w : World) : Fr O w w := ⟨rfl, rfl, rfl, Nat.le_refl _, fun _ _ _ => rfl, fun _ _ _ h _ => h⟩
theorem Fr.trans {O O' : Nat → Nat → Prop} {w1 w2 w3 : World} (h : Fr O w1 w2) (h' : Fr O' w2 w3) (hs : ∀ b o, O' b o → b < w1.heap.size → O b o) : Fr O w1 w3 where
  os := h'.os.trans h.os
  tape := h'.tape.trans h.tape
  output := h'.output.trans h.output
  size := Nat.le_trans h.size h'.size
  block := fun b hb ho => (h'.block b (Nat.lt_of_lt_of_le hb h.size) (fun o hO => ho o (hs b o hO hb))).trans (h.block b hb ho)
  cell := fun b o v hc hO => h'.cell b o v (h.cell b o v hc hO) (fun h' => hO (hs b o h' (World.block_lt_of_cell? _ _ hc)))
theorem Eff.refl (h : HR wt Fb w R g) : Eff wt Fb w R g w R g := ⟨h, Tr.refl _ _ _ _, Fr.refl _ _, fun _ _ h _ => h⟩
/-- What an operation has done. -/
def StepOk (P : Program) (wt : World) (Fb : Nat → Nat → Prop) (o : Oper) (ρ : Operand → Value) (w : World) (R : Nat → Option Res) (g : Gh) (p : PVal) (us : List (Nat × Res)) : Prop :=
  ∃ nx v w' g', (execOp ρ o).run P w = .ok nx w' ∧ (nx = .value v ∨ nx = .skip ∧ v = undef) ∧ PV w' (Wr Fb (up us R) g') (up us R) g' v p ∧ Eff wt Fb w R g w' (up us R) g'
theorem stepOk_pure {o : Oper} {ρ : Operand → Value} {p : PVal} {v : Value} (h : HR wt Fb w R g) (hr : (execOp ρ o).run P w = .ok (.value v) w) (hp : PV w (Wr Fb R g) R g v p) :
    StepOk P wt Fb o ρ w R g p [] :=
  ⟨_, v, w, g, hr, .inl rfl, by rw [up_nil]; exact hp, by rw [up_nil]; exact Eff.refl h⟩
theorem ti_spec {t : TypeId} {i : TI} (h : ti P t = some i) : ∃ info d z, P.info? t = some info ∧ P.underlying t = some d ∧ info.zero = some z ∧ z.cells.size = info.size ∧
    (zfit z d && z.cells.toList.all Value.oneCell') = true ∧ i = ⟨aggD d, info.size, z.cells.toList.map ofV, tdOf P d⟩ := by
  unfold ti at h
  cases h1 : P.info? t with
  | none => simp [h1] at h
  | some info =>
    cases h2 : P.underlying t with
    | none => simp [h1, h2] at h
    | some d =>
      simp only [h1, h2] at h
      cases h3 : info.zero with
      | none => simp [h3] at h
      | some z =>
        simp only [h3] at h
        split at h
        · rename_i hc
          cases h
          exact ⟨info, d, z, rfl, rfl, h3, hc.1, hc.2, rfl⟩
        · cases h
theorem run_isAgg' {t : TypeId} {d : TypeDesc} (h : P.underlying t = some d) (w : World) : (isAgg t).run P w = .ok (aggD d) w := by
  simp only [isAgg, Sem.run_bind, run_underlying h, Result.andThen]
  cases d <;> rfl
theorem run_sizeOf' {t : TypeId} {i : TypeInfo} (h : P.info? t = some i) (w : World) : (sizeOf t).run P w = .ok i.size w := by
  simp [sizeOf, typeInfo, h]
theorem add_lit (b o n : Nat) : Addr.add ⟨b, o, none⟩ n = ⟨b, o + n, none⟩ := Addr.add_lit b o n
/-- A part of a row of cells in memory. -/
theorem load_part {t : TypeId} {info : TypeInfo} {d : TypeDesc} (hi : P.info? t = some info) (hd : P.underlying t = some d) {W : Nat → Nat → Prop} {b o off : Nat} {vs : List Value} {cs : List Cell} {p : P1}
    (hv : CVs w W R g vs cs) (hc : ∀ (j : Nat) (u : Value), vs[j]? = some u → w.cell? ⟨b, o + j, none⟩ = some u) (hp : partF cs off info.size (aggD d) = some p) :
    ∃ v, (loadVar t ⟨b, o + off, none⟩).run P w = .ok v w ∧ P1V w W R g v p := by
  have hl := CVs.len hv
  unfold partF at hp
  cases ha : aggD d with
  | true =>
    rw [ha] at hp
    simp only [if_true] at hp
    split at hp
    · rename_i hle
      cases hp
      have hlen : ((vs.drop off).take info.size).length = info.size := by simp; omega
      have hr := run_loadCells_list (P := P) w ⟨b, o + off, none⟩ ((vs.drop off).take info.size) (fun j u hu => by
        rw [List.getElem?_take] at hu
        split at hu
        · rw [List.getElem?_drop] at hu
          have := hc _ _ hu
          rw [add_lit]
          rwa [show o + off + j = o + (off + j) by omega]
        · cases hu)
      rw [hlen] at hr
      refine ⟨.agg ((vs.drop off).take info.size).toArray, ?_, _, rfl, (hv.drop off).take info.size⟩
      simp [loadVar, run_isAgg' hd, ha, run_sizeOf' hi, hr, Result.andThen]
    · cases hp
  | false =>
    rw [ha] at hp
    simp only [Bool.false_eq_true, if_false] at hp
    split at hp
    · rename_i c hcc
      cases hp
      have hlt : off < vs.length := by rw [hl]; exact (List.getElem?_eq_some_iff.1 hcc).1
      obtain ⟨u, hu⟩ : ∃ u, vs[off]? = some u := ⟨_, List.getElem?_eq_getElem hlt⟩
      refine ⟨u, ?_, (CVs.get hv _ _ _ hu hcc).1⟩
      have := hc _ _ hu
      simp [loadVar, run_isAgg' hd, ha, Result.andThen, run_load, this]
    · cases hp
theorem Wr_old {id : Nat} {Fb : Nat → Nat → Prop} {b o : Nat} (h : Wr Fb R g b o) (hfb : ∀ b o, Fb b o → b < w.heap.size) (hown : ∀ b o, own R g b o → b < w.heap.size) : b < w.heap.size :=
  h.elim (hfb b o) (hown b o)
theorem HR.own_lt (h : HR wt Fb w R g) {b o : Nat} (ho : own R g b o) : b < w.heap.size := by
  obtain ⟨id, r, h1, h2, _⟩ := ho
  exact (h.base id r b h1 h2).2
def Gh.at' (g : Gh) (d : Nat) (b : Option Nat) (k : Nat) : Gh := ⟨fun i => if i = d then b else g.loc i, fun i => if i = d then k else g.tip i⟩
@[simp] theorem Gh.at'_loc (g : Gh) (d : Nat) (b : Option Nat) (k i : Nat) : (g.at' d b k).loc i = if i = d then b else g.loc i := rfl
@[simp] theorem Gh.at'_tip (g : Gh) (d : Nat) (b : Option Nat) (k i : Nat) : (g.at' d b k).tip i = if i = d then k else g.tip i := rfl
/-- Nothing turns but that a fresh name is given to a new block, or to none. -/
theorem new_tr {w' : World} {d k : Nat} {bo : Option Nat} {r : Res} (h : HR wt Fb w R g) (hd : R d = none) (hb : ∀ b, bo = some b → w.heap.size ≤ b)
    (hw : ∀ b, b < w.heap.size → w'.heap[b]? = w.heap[b]?) :
    Tr w (Wr Fb R g) R g w' (Wr Fb (up [(d, r)] R) (g.at' d bo k)) (up [(d, r)] R) (g.at' d bo k) ∧ Fr (own R g) w w' = (Fr (own R g) w w') ∧
    (∀ b o, own (up [(d, r)] R) (g.at' d bo k) b o → b < w.heap.size → own R g b o) := by
  have hsub : ∀ b o, own (up [(d, r)] R) (g.at' d bo k) b o → b < w.heap.size → own R g b o := by
    rintro b o ⟨id, r', h1, h2, h3⟩ hlt
    rw [up_one] at h1
    by_cases e : id = d
    · subst e
      simp at h2
      have := hb b h2
      omega
    · rw [if_neg e] at h1
      simp only [Gh.at'_loc, e, if_false] at h2
      exact ⟨id, r', h1, h2, fun v hv => by have := h3 v hv; simpa [e] using this⟩
  refine ⟨⟨fun b o v hc hn => ?_, fun id r' hr' => ?_⟩, rfl, hsub⟩
  · have hlt := World.block_lt_of_cell? _ _ hc
    refine ⟨by rw [World.cell?_of_block (hw b hlt)]; exact hc, fun hW => hn ?_⟩
    rcases hW with hW | hW
    · exact .inl hW
    · exact .inr (hsub b o hW hlt)
  · have e : id ≠ d := fun e => by rw [e, hd] at hr'; cases hr'
    refine ⟨r', by rw [up_one, if_neg e]; exact hr', ?_⟩
    cases r' with
    | blk cs => simp [Res.later, e]
    | tok v =>
      refine ⟨Nat.le_refl _, fun _ => ⟨by simp [e], by simp [e], fun b hb' => hw b ((h.base id _ b hr' hb').2)⟩⟩
    | row e0 l T v => exact ⟨rfl, rfl, Nat.le_refl _, fun _ => ⟨rfl, by simp [e], by simp [e]⟩⟩
theorem RV.mono {W W' : Nat → Nat → Prop} {w' : World} {id : Nat} {r : Res} (ht : Tr w W R g w' W' R' g') (h : RV w W R g id r) (hl : g'.loc id = g.loc id) (htip : g'.tip id = g.tip id) (hh : ∀ b, g.loc id = some b → w'.heap[b]? = w.heap[b]?) : RV w' W' R' g' id r := by
  cases r with
  | blk cs =>
    obtain ⟨b, T, vs, h1, h2, h3⟩ := h
    exact ⟨b, T, vs, hl.trans h1, (hh b h1).trans h2, CVs.mono ht h3⟩
  | tok v =>
    intro b hb
    rw [hl] at hb
    obtain ⟨cs, T, h1⟩ := h b hb
    exact ⟨cs, T, (hh b hb).trans h1⟩
  | row e l T v =>
    obtain ⟨xs, h1, h2⟩ := h
    refine ⟨xs, ?_, h2.mono fun x vs h => DV.mono ht.kp h⟩
    rw [rowV_eq hl htip]
    exact ownsRow_same h1 fun b hb => hh b (by rwa [rowV_block] at hb)
/-- A fresh name for a new block, or for none. -/
theorem new_eff {w' : World} {d k : Nat} {bo : Option Nat} {r : Res} (h : HR wt Fb w R g) (hd : R d = none) (hb : ∀ b, bo = some b → w.heap.size ≤ b ∧ b < w'.heap.size)
    (hos : w'.os = w.os) (htape : w'.tape = w.tape) (hout : w'.output = w.output) (hsz : w.heap.size ≤ w'.heap.size) (hw : ∀ b, b < w.heap.size → w'.heap[b]? = w.heap[b]?)
    (hr : Tr w (Wr Fb R g) R g w' (Wr Fb (up [(d, r)] R) (g.at' d bo k)) (up [(d, r)] R) (g.at' d bo k) → RV w' (Wr Fb (up [(d, r)] R) (g.at' d bo k)) (up [(d, r)] R) (g.at' d bo k) d r) :
    Eff wt Fb w R g w' (up [(d, r)] R) (g.at' d bo k) := by
  obtain ⟨htr, _, hsub⟩ := new_tr (k := k) (r := r) h hd (fun b e => (hb b e).1) hw
  have hfr : Fr (own R g) w w' := ⟨hos, htape, hout, hsz, fun b hlt _ => hw b hlt, fun b o v hc _ => by rw [World.cell?_of_block (hw b (World.block_lt_of_cell? _ _ hc))]; exact hc⟩
  refine ⟨⟨fun id r' hr' => ?_, ?_, ?_, ?_, fun b o hf => Nat.lt_of_lt_of_le (h.fbs b o hf) hsz, ?_⟩, htr, hfr, hsub⟩
  · rw [up_one] at hr'
    by_cases e : id = d
    · subst e
      rw [if_pos rfl] at hr'
      cases hr'
      exact hr htr
    · rw [if_neg e] at hr'
      exact (h.res id r' hr').mono htr (by simp [e]) (by simp [e]) (fun b hb' => hw b ((h.base id _ b hr' hb').2))
  · intro id id' r1 r2 b h1 h2 h3 h4
    rw [up_one] at h1 h2
    simp only [Gh.at'_loc] at h3 h4
    by_cases e : id = d
    · by_cases e' : id' = d
      · rw [e, e']
      · rw [if_pos e] at h3
        rw [if_neg e'] at h2 h4
        have := (hb b h3).1
        have := (h.base id' _ b h2 h4).2
        omega
    · by_cases e' : id' = d
      · rw [if_pos e'] at h4
        rw [if_neg e] at h1 h3
        have := (hb b h4).1
        have := (h.base id _ b h1 h3).2
        omega
      · rw [if_neg e] at h1 h3
        rw [if_neg e'] at h2 h4
        exact h.inj id id' r1 r2 b h1 h2 h3 h4
  · intro id r' b h1 h2
    rw [up_one] at h1
    simp only [Gh.at'_loc] at h2
    by_cases e : id = d
    · rw [if_pos e] at h2
      have := hb b h2
      exact ⟨Nat.le_trans h.bel.size this.1, this.2⟩
    · rw [if_neg e] at h1 h2
      have := h.base id _ b h1 h2
      exact ⟨this.1, by omega⟩
  · intro id r' b o h1 h2 hf
    rw [up_one] at h1
    simp only [Gh.at'_loc] at h2
    by_cases e : id = d
    · rw [if_pos e] at h2
      have := (hb b h2).1
      have := h.fbs b o hf
      omega
    · rw [if_neg e] at h1 h2
      exact h.fb id _ b o h1 h2 hf
  · exact h.bel.trans ⟨hos, htape, hout, hsz, fun b hlt => hw b (Nat.lt_of_lt_of_le hlt h.bel.size)⟩
/-- The right to append without a block yet, or a row that is the call's own. -/
theorem tok_of_row {e : Ty} {T : TypeId} {v : Value} {l : List e.T} {xs : List Value} {d : Nat} {bo : Option Nat} (hrow : w.ownsRow 0 T e.sz v (List.length l) xs) (hbo : v.ownBlock = bo) :
    ∀ b, bo = some b → ∃ cs T, w.heap[b]? = some (.cells cs T (0, 0)) := by
  intro b hb
  rcases hrow.2 with ⟨rfl, _⟩ | ⟨gb, cap, cur, rfl, h1, h2, h3⟩
  · rw [← hbo] at hb; simp [Value.ownBlock] at hb
  · rw [← hbo] at hb; simp [Value.ownBlock] at hb; subst hb; exact ⟨_, _, h2⟩
end Go.Proofs.YtpmnhbjbkoackaaDoor.En
