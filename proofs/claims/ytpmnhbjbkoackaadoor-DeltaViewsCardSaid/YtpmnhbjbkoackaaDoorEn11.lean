/- A region that draws its order: where no two operations that may change places touch the same, the text's order tells what every order comes to. -/
import Derived.Test.YtpmnhbjbkoackaaDoorEn10
namespace Go.Proofs.YtpmnhbjbkoackaaDoor.En
open Go Go.RowKit
set_option linter.unusedVariables false
set_option linter.unusedSimpArgs false
variable {P : Program} {E : EnvT} {wt : World} {Fb : Nat → Nat → Prop} {w w' : World} {R R' : Nat → Option Res} {g g' : Gh} {o : Oper} {ev : Operand → PVal}

def Cell.ids : Cell → List Nat
  | .acc _ _ _ id _ => [id]
  | .ptr id _ => [id]
  | .row _ _ id _ => [id]
  | .rptr _ _ id _ _ _ => [id]
  | _ => []
def P1.ids : P1 → List Nat
  | .one c => c.ids
  | .agg cs => cs.flatMap Cell.ids
def PVal.ids : PVal → List Nat
  | .p x => x.ids
  | .tup ps => ps.flatMap P1.ids
/-- The names that an operation looks at. -/
def touch (o : Oper) (ev : Operand → PVal) : List Nat := o.dst.toList ++ o.op.operands.toList.flatMap fun x => (ev x).ids
/-- Which operations stand ahead of one, whatever the order: a bit for each. -/
def befGo : List Oper → List Nat → List Nat
  | [], acc => acc
  | o :: rest, acc => befGo rest (acc ++ [(o.after.toList.filter (Region.binds .any)).foldl (fun m e => m ||| (1 <<< e.on) ||| acc.getD e.on 0) 0])
def apart2 (ops : Array Oper) (oi oj : Oper) (ti tj : List Nat × List Nat) : Bool :=
  oi.apart ops oj && ti.1.all (fun x => !tj.2.contains x && !tj.1.contains x) && tj.1.all (fun x => !ti.2.contains x)
/-- All pairs that may change places touch nothing in common. -/
def confOk (ops : Array Oper) (tr : List (List Nat × List Nat)) : Bool :=
  let b := befGo ops.toList []
  let l := (ops.toList.zip tr).zipIdx
  (ops.toList.zipIdx.all fun x => x.1.after.toList.all fun e => !Region.binds .any e || decide (e.on < x.2)) &&
  l.all fun x => l.all fun y => !(decide (x.2 < y.2)) || (b.getD y.2 0).testBit x.2 || apart2 ops x.1.1 y.1.1 x.1.2 y.1.2
/-- One operation of a region that draws its order. -/
def PDO (P : Program) (E : EnvT) (GL : World → Prop) (o : Oper) (S : St) (K : (List Nat × List Nat) → St → Prop) : Prop :=
  match o.op with
  | .call cl => match cl.callee with
    | .value f => match fnOf (S.ev f) with
      | some fid => ∃ p us T, CallR P GL fid (cl.args.toList.map S.ev) S.R (.ret p) us T ∧ (∃ fn, P.funcs[fid]? = some fn ∧ fn.body.isSome = true ∧ (fn.name == "runtime.NumGoroutine") = false) ∧ dstOk S.n o.dst ∧
          K (us.map (·.1), T) (S.put o.dst p us)
      | none => False
    | _ => match stepF E o S.ev S.R with
      | some (c, p, us) => allP c ∧ dstOk S.n o.dst ∧ K (us.map (·.1), touch o S.ev) (S.put o.dst p us)
      | none => False
  | _ => match stepF E o S.ev S.R with
    | some (c, p, us) => allP c ∧ dstOk S.n o.dst ∧ K (us.map (·.1), touch o S.ev) (S.put o.dst p us)
    | none => False
def PD (P : Program) (E : EnvT) (GL : World → Prop) (ops : Array Oper) (Q : St → Prop) : List Oper → List (List Nat × List Nat) → St → Prop
  | [], tr, S => confOk ops tr.reverse = true ∧ Q S
  | o :: rest, tr, S => match o.guard with
    | none => PDO P E GL o S (fun t S' => PD P E GL ops Q rest (t :: tr) S')
    | some (j, want) => match (ops[j]?).bind (·.dst) with
      | some t => match S.get t with
        | .p (.one (.bool b)) => if b = want then PDO P E GL o S (fun t S' => PD P E GL ops Q rest (t :: tr) S') else dstOk S.n o.dst ∧ PD P E GL ops Q rest (([], []) :: tr) (S.put o.dst (.tup []) [])
        | .tup [] => dstOk S.n o.dst ∧ PD P E GL ops Q rest (([], []) :: tr) (S.put o.dst (.tup []) [])
        | _ => False
      | none => False

/-- What one operation does, as a relation. -/
def OpR (P : Program) (E : EnvT) (GL : World → Prop) (o : Oper) (S : St) (p : PVal) (us : List (Nat × Res)) (T : List Nat) : Prop :=
  (∃ c, stepF E o S.ev S.R = some (c, p, us) ∧ allP c ∧ T = touch o S.ev) ∨
  (∃ cl f fid, o.op = .call cl ∧ cl.callee = .value f ∧ fnOf (S.ev f) = some fid ∧ CallR P GL fid (cl.args.toList.map S.ev) S.R (.ret p) us T ∧
    (∃ fn, P.funcs[fid]? = some fn ∧ fn.body.isSome = true ∧ (fn.name == "runtime.NumGoroutine") = false))
/-- The guard's word. -/
def Grd (ops : Array Oper) (S : St) (o : Oper) (b : Bool) : Prop :=
  match o.guard with
  | none => b = true
  | some (j, want) => ∃ t, (ops[j]?).bind (·.dst) = some t ∧ ((∃ b0, S.get t = .p (.one (.bool b0)) ∧ b = (b0 == want)) ∨ (S.get t = .tup [] ∧ b = false))
/-- One operation, done or passed over. -/
def Did (P : Program) (E : EnvT) (GL : World → Prop) (ops : Array Oper) (o : Oper) (S : St) (p : PVal) (us : List (Nat × Res)) (T : List Nat) : Prop :=
  dstOk S.n o.dst ∧ ((Grd ops S o true ∧ OpR P E GL o S p us T) ∨ (Grd ops S o false ∧ p = .tup [] ∧ us = [] ∧ T = []))
theorem PDO_opR {GL : World → Prop} {S : St} {K : (List Nat × List Nat) → St → Prop} (h : PDO P E GL o S K) : ∃ p us T, OpR P E GL o S p us T ∧ dstOk S.n o.dst ∧ K (us.map (·.1), T) (S.put o.dst p us) := by
  have other : (match stepF E o S.ev S.R with | some (c, p, us) => allP c ∧ dstOk S.n o.dst ∧ K (us.map (·.1), touch o S.ev) (S.put o.dst p us) | none => False) → ∃ p us T, OpR P E GL o S p us T ∧ dstOk S.n o.dst ∧ K (us.map (·.1), T) (S.put o.dst p us) := by
    intro hm
    cases hs : stepF E o S.ev S.R with
    | none => rw [hs] at hm; exact hm.elim
    | some x =>
      obtain ⟨c, p, us⟩ := x
      rw [hs] at hm
      exact ⟨p, us, _, .inl ⟨c, hs, hm.1, rfl⟩, hm.2.1, hm.2.2⟩
  unfold PDO at h
  split at h
  · rename_i cl ho
    split at h
    · rename_i f hf
      split at h
      · rename_i fid hfid
        obtain ⟨p, us, T, h1, h2, h3, h4⟩ := h
        exact ⟨p, us, T, .inr ⟨cl, f, fid, ho, hf, hfid, h1, h2⟩, h3, h4⟩
      · exact h.elim
    · exact other h
  · exact other h
structure Rec where
  p : PVal
  us : List (Nat × Res)
  T : List Nat
def Rec.tr (r : Rec) : List Nat × List Nat := (r.us.map (·.1), r.T)
/-- A run over a list, and its record. -/
def Runs (P : Program) (E : EnvT) (GL : World → Prop) (ops : Array Oper) : List Oper → St → List Rec → St → Prop
  | [], S, [], S' => S' = S
  | o :: rest, S, r :: rs, S' => Did P E GL ops o S r.p r.us r.T ∧ Runs P E GL ops rest (S.put o.dst r.p r.us) rs S'
  | _, _, _, _ => False
theorem PD_runs {GL : World → Prop} {ops : Array Oper} {Q : St → Prop} : ∀ (l : List Oper) (tr : List (List Nat × List Nat)) (S : St), PD P E GL ops Q l tr S →
    ∃ rs S', Runs P E GL ops l S rs S' ∧ confOk ops (tr.reverse ++ rs.map Rec.tr) = true ∧ Q S'
  | [], tr, S, h => ⟨[], S, rfl, by simpa using h.1, h.2⟩
  | o :: rest, tr, S, h => by
    have run : ∀ (hg : Grd ops S o true), PDO P E GL o S (fun t S' => PD P E GL ops Q rest (t :: tr) S') → ∃ rs S', Runs P E GL ops (o :: rest) S rs S' ∧ confOk ops (tr.reverse ++ rs.map Rec.tr) = true ∧ Q S' := by
      intro hg hp
      obtain ⟨p, us, T, h1, h2, h3⟩ := PDO_opR hp
      obtain ⟨rs, S', h4, h5, h6⟩ := PD_runs rest _ _ h3
      exact ⟨⟨p, us, T⟩ :: rs, S', ⟨⟨h2, .inl ⟨hg, h1⟩⟩, h4⟩, by simpa [Rec.tr] using h5, h6⟩
    unfold PD at h
    split at h
    · rename_i hg
      exact run (by simp [Grd, hg]) h
    · rename_i j want hg
      split at h
      · rename_i t hj
        split at h
        · rename_i b hb
          by_cases e : b = want
          · rw [if_pos e] at h
            exact run (by simp only [Grd, hg]; exact ⟨t, hj, .inl ⟨b, hb, by simp [e]⟩⟩) h
          · rw [if_neg e] at h
            obtain ⟨rs, S', h4, h5, h6⟩ := PD_runs rest _ _ h.2
            refine ⟨⟨.tup [], [], []⟩ :: rs, S', ⟨⟨h.1, .inr ⟨?_, rfl, rfl, rfl⟩⟩, h4⟩, by simpa [Rec.tr] using h5, h6⟩
            simp only [Grd, hg]
            exact ⟨t, hj, .inl ⟨b, hb, by simpa using e⟩⟩
        · rename_i hb
          obtain ⟨rs, S', h4, h5, h6⟩ := PD_runs rest _ _ h.2
          refine ⟨⟨.tup [], [], []⟩ :: rs, S', ⟨⟨h.1, .inr ⟨?_, rfl, rfl, rfl⟩⟩, h4⟩, by simpa [Rec.tr] using h5, h6⟩
          simp only [Grd, hg]
          exact ⟨t, hj, .inr ⟨hb, trivial⟩⟩
        · exact h.elim
      · exact h.elim
/-- The state behind those operations that X names, of the first k. -/
def SX (ops : List Oper) (rs : List Rec) (S : St) (X : Nat → Bool) : Nat → St
  | 0 => S
  | k + 1 => match ops[k]?, rs[k]? with
    | some o, some r => if X k then (SX ops rs S X k).put o.dst r.p r.us else SX ops rs S X k
    | _, _ => SX ops rs S X k
def valX {V : Type} (f : Nat → Option V) (b : Option V) (X : Nat → Bool) : Nat → Option V
  | 0 => b
  | k + 1 => if X k then (f k).or (valX f b X k) else valX f b X k
theorem valX_cut {V : Type} (f : Nat → Option V) (b : Option V) (X : Nat → Bool) (k : Nat) : ∀ N, k ≤ N → valX f b (fun j => X j && decide (j < k)) N = valX f b X k := by
  intro N
  induction N with
  | zero => intro h; cases k with | zero => rfl | succ k => omega
  | succ N ih =>
    intro h
    by_cases e : k = N + 1
    · subst e
      have : ∀ m, m ≤ N + 1 → valX f b (fun j => X j && decide (j < N + 1)) m = valX f b X m := by
        intro m
        induction m with
        | zero => intro _; rfl
        | succ m ihm => intro hm; simp only [valX, ihm (by omega), show m < N + 1 by omega, decide_true, Bool.and_true]
      exact this _ (Nat.le_refl _)
    · simp only [valX]
      rw [if_neg (by simp; omega), ih (by omega)]
theorem valX_agree {V : Type} {f : Nat → Option V} {b : Option V} {X Y : Nat → Bool} : ∀ N, (∀ j, j < N → f j ≠ none → X j = Y j) → valX f b X N = valX f b Y N
  | 0, _ => rfl
  | N + 1, h => by
    have ih := valX_agree (f := f) (b := b) N (fun j hj hf => h j (by omega) hf)
    simp only [valX, ih]
    by_cases hf : f N = none
    · simp [hf]
    · rw [h N (by omega) hf]
theorem valX_same {V : Type} {f : Nat → Option V} {b : Option V} {X Y : Nat → Bool} {k m : Nat} (h : ∀ j, f j ≠ none → (X j && decide (j < k)) = (Y j && decide (j < m))) : valX f b X k = valX f b Y m := by
  rw [← valX_cut f b X k (max k m) (Nat.le_max_left _ _), ← valX_cut f b Y m (max k m) (Nat.le_max_right _ _)]
  exact valX_agree _ fun j _ hf => h j hf
section sx
variable {ops : List Oper} {rs : List Rec} {S : St}
def wT (ops : List Oper) (rs : List Rec) (t : Nat) (j : Nat) : Option PVal := match ops[j]?, rs[j]? with | some o, some r => if o.dst = some t then some r.p else none | _, _ => none
def wR (ops : List Oper) (rs : List Rec) (id : Nat) (j : Nat) : Option Res := match ops[j]?, rs[j]? with | some o, some r => r.us.lookup id | _, _ => none
theorem SX_n (X : Nat → Bool) : ∀ k, (SX ops rs S X k).n = S.n
  | 0 => rfl
  | k + 1 => by
    simp only [SX]
    split
    · split
      · exact SX_n X k
      · exact SX_n X k
    · exact SX_n X k
theorem SX_tmps (X : Nat → Bool) (t : Nat) : ∀ k, (SX ops rs S X k).tmps.lookup t = valX (wT ops rs t) (S.tmps.lookup t) X k
  | 0 => rfl
  | k + 1 => by
    have ih := SX_tmps X t k
    simp only [SX, valX]
    split
    · rename_i o r ho hr
      by_cases hx : X k = true
      · rw [if_pos hx, if_pos hx]
        simp only [wT, ho, hr]
        cases hd : o.dst with
        | none => simp [St.put, hd, ih]
        | some d =>
          by_cases e : d = t
          · subst e; simp [St.put, List.lookup]
          · have : (t == d) = false := by simpa using fun h => e h.symm
            simp [St.put, List.lookup, this, e, ih]
      · rw [if_neg hx, if_neg hx]; exact ih
    · rename_i hn
      have : wT ops rs t k = none := by
        unfold wT
        split
        · rename_i o r ho hr; exact absurd hr (hn o r ho)
        · rfl
      rw [this, ih]
      split <;> rfl
theorem SX_R (X : Nat → Bool) (id : Nat) : ∀ k, (SX ops rs S X k).R id = valX (wR ops rs id) (S.R id) X k
  | 0 => rfl
  | k + 1 => by
    have ih := SX_R X id k
    simp only [SX, valX]
    split
    · rename_i o r ho hr
      by_cases hx : X k = true
      · rw [if_pos hx, if_pos hx, St.R_put]
        simp only [wR, ho, hr, up, ih]
      · rw [if_neg hx, if_neg hx]; exact ih
    · rename_i hn
      have : wR ops rs id k = none := by
        unfold wR
        split
        · rename_i o r ho hr; exact absurd hr (hn o r ho)
        · rfl
      rw [this, ih]
      split <;> rfl
end sx
/-- What a state tells hangs on its look-ups alone. -/
theorem SR.congr {I : Ini} {S S' : St} {a : Act} (h : SR wt Fb I S a w g) (hn : S'.n = S.n) (ht : ∀ t, S'.tmps.lookup t = S.tmps.lookup t) (hR : ∀ id, S'.R id = S.R id) : SR wt Fb I S' a w g := by
  have hR' : S'.R = S.R := funext hR
  exact ⟨by rw [hR']; exact h.hr, by rw [hn]; exact h.n, h.df, fun t p hp => by rw [hR']; exact h.vals t p (by rw [← ht]; exact hp), h.fr, by rw [hR']; exact h.sub, by rw [hR']; exact h.lv⟩
theorem map_ev_congr {ev' : Operand → PVal} {l : List Operand} (h : ∀ x ∈ l, ev' x = ev x) : l.map ev' = l.map ev := List.map_congr_left h
theorem mem_toList {xs : Array Operand} {x : Operand} (h : x ∈ xs.toList) : x ∈ xs := Array.mem_toList_iff.1 h
theorem bound_local {ev' : Operand → PVal} {d : Int} {x : Option Operand} (h : ∀ y, x = some y → ev' y = ev y) : bound ev' d x = bound ev d x := by
  cases x with
  | none => rfl
  | some y => simp only [bound, h y rfl]
theorem srcF_local {τ : Ty} {y : PVal} (hR : ∀ id ∈ y.ids, R' id = R id) : srcF τ R' y = srcF τ R y := by
  unfold srcF
  split
  · rename_i e T0 id ver
    rw [hR id (by simp [PVal.ids, P1.ids, Cell.ids])]
  · rfl
theorem biF_local {b : Builtin} {args : List PVal} {Ts : List TypeId} {dst : Option Nat} (hR : ∀ id, id ∈ dst.toList ++ args.flatMap PVal.ids → R' id = R id) : biF E b args Ts dst R' = biF E b args Ts dst R := by
  unfold biF
  split
  · split
    · rfl
    · rename_i e T0 id ver _
      have : R' id = R id := hR id (by simp [PVal.ids, P1.ids, Cell.ids])
      simp only [this]
    · rfl
    · rfl
  · rename_i x y T T'
    split
    · split
      · rename_i el τ bytes d ht
        rw [srcF_local (τ := τ) (y := y) fun id hid => hR id (by simp [hid])]
        split
        · split
          · rename_i e l T0 id ver
            have : R' id = R id := hR id (by simp [PVal.ids, P1.ids, Cell.ids])
            simp only [this]
          · rename_i e T0 id ver
            have : R' id = R id := hR id (by simp [PVal.ids, P1.ids, Cell.ids])
            simp only [this]
          · have : R' d = R d := hR d (by simp)
            simp only [this]
          · rfl
        · rfl
      · rfl
    · rfl
  · rfl
  · rfl
  · rfl
theorem stepF_local {ev' : Operand → PVal} (he : ∀ x ∈ o.op.operands, ev' x = ev x) (hR : ∀ id ∈ touch o ev, R' id = R id) : stepF E o ev' R' = stepF E o ev R := by
  have hd : ∀ d, o.dst = some d → R' d = R d := fun d e => hR d (by simp [touch, e])
  have hids : ∀ x ∈ o.op.operands, ∀ id ∈ (ev x).ids, R' id = R id := fun x hx id hid => hR id (by
    simp only [touch, List.mem_append, List.mem_flatMap]
    exact .inr ⟨x, by simpa using hx, hid⟩)
  cases ho : o.op with
  | move x => simp only [stepF, ho, he x (by simp [ho, Op.operands])]
  | assign x => simp only [stepF, ho, he x (by simp [ho, Op.operands])]
  | pick x a b => simp only [stepF, ho, he x (by simp [ho, Op.operands]), he a (by simp [ho, Op.operands]), he b (by simp [ho, Op.operands])]
  | alloc T =>
    simp only [stepF, ho]
    split
    · rename_i i d ht hdst
      rw [hd d hdst]
    · rfl
  | box T x =>
    simp only [stepF, ho, he x (by simp [ho, Op.operands])]
    split
    · rename_i v d hv hdst
      rw [hd d hdst]
    · rfl
  | build T ps =>
    have : ps.toList.map (fun p => (p.1, ev' p.2)) = ps.toList.map (fun p => (p.1, ev p.2)) := List.map_congr_left fun p hp => by
      rw [he p.2 (by simp [ho, Op.operands]; exact ⟨p.1, by simpa using hp⟩)]
    simp only [stepF, ho, this]
  | buildSlice T n ps =>
    have : ps.toList.map (fun p => (p.1, ev' p.2)) = ps.toList.map (fun p => (p.1, ev p.2)) := List.map_congr_left fun p hp => by
      rw [he p.2 (by simp [ho, Op.operands]; exact ⟨p.1, by simpa using hp⟩)]
    simp only [stepF, ho, this]
    split
    · rename_i el τ bytes d ht hdst
      rw [hd d hdst]
    · rfl
  | load T a =>
    have ha := he a (by simp [ho, Op.operands])
    have hi := hids a (by simp [ho, Op.operands])
    simp only [stepF, ho, ha]
    split
    · rename_i i id off ht e
      rw [hi id (by rw [e]; simp [PVal.ids, P1.ids, Cell.ids])]
    · rfl
    · rename_i i e0 T0 id ver n off ht e
      rw [hi id (by rw [e]; simp [PVal.ids, P1.ids, Cell.ids])]
    · rfl
  | store T a x =>
    have ha := he a (by simp [ho, Op.operands])
    have hx := he x (by simp [ho, Op.operands])
    have hi := hids a (by simp [ho, Op.operands])
    simp only [stepF, ho, ha, hx]
    split
    · rename_i i id off v ht e _
      rw [hi id (by rw [e]; simp [PVal.ids, P1.ids, Cell.ids])]
    · rename_i i e0 T0 id ver n off v ht e _
      rw [hi id (by rw [e]; simp [PVal.ids, P1.ids, Cell.ids])]
    · rfl
  | nilCheck x => simp only [stepF, ho, he x (by simp [ho, Op.operands])]
  | binOp op T x y T' => simp only [stepF, ho, he x (by simp [ho, Op.operands]), he y (by simp [ho, Op.operands])]
  | unOp op T x => simp only [stepF, ho, he x (by simp [ho, Op.operands])]
  | convert S T x => simp only [stepF, ho, he x (by simp [ho, Op.operands])]
  | slice T x lo hi mx =>
    have hx := he x (by simp [ho, Op.operands])
    have hlo : ∀ d, bound ev' d lo = bound ev d lo := fun d => bound_local fun y e => he y (by subst e; simp [ho, Op.operands])
    have hhi : ∀ d, bound ev' d hi = bound ev d hi := fun d => bound_local fun y e => he y (by subst e; simp [ho, Op.operands])
    cases mx with
    | none =>
      have hi := hids x (by simp [ho, Op.operands])
      simp only [stepF, ho, hx, hlo, hhi]
      split
      · rfl
      · rename_i e0 T0 id ver ht e
        rw [hi id (by rw [e]; simp [PVal.ids, P1.ids, Cell.ids])]
      · rfl
      · rfl
    | some m => simp only [stepF, ho]
  | fieldAddr T x f => simp only [stepF, ho, he x (by simp [ho, Op.operands])]
  | field T x f => simp only [stepF, ho, he x (by simp [ho, Op.operands])]
  | indexAddr T x i =>
    have hi := hids x (by simp [ho, Op.operands])
    simp only [stepF, ho, he x (by simp [ho, Op.operands]), he i (by simp [ho, Op.operands])]
    split
    · split
      · rename_i e0 T0 id ver e
        rw [hi id (by rw [e]; simp [PVal.ids, P1.ids, Cell.ids])]
      · rfl
    · rfl
    · rfl
  | index T x i => simp only [stepF, ho, he x (by simp [ho, Op.operands]), he i (by simp [ho, Op.operands])]
  | extract x i => simp only [stepF, ho, he x (by simp [ho, Op.operands])]
  | call cl =>
    simp only [stepF, ho]
    split
    · rename_i b hb
      have hm : cl.args.toList.map ev' = cl.args.toList.map ev := map_ev_congr fun x hx => he x (by simp [ho, Op.operands, Call.operands]; exact .inr (by simpa using hx))
      rw [hm]
      refine biF_local fun id hid => hR id ?_
      simp only [touch, List.mem_append, List.mem_flatMap] at hid ⊢
      rcases hid with h | ⟨q, hq, hid⟩
      · exact .inl h
      · obtain ⟨x, hx, rfl⟩ := List.mem_map.1 hq
        exact .inr ⟨x, by simp [ho, Op.operands, Call.operands]; exact .inr (by simpa using hx), hid⟩
    · rfl
  | _ => simp only [stepF, ho]
theorem flatMap_congr' {α β : Type} {f f' : α → List β} : ∀ {l : List α}, (∀ x ∈ l, f x = f' x) → l.flatMap f = l.flatMap f'
  | [], _ => rfl
  | x :: l, h => by simp only [List.flatMap_cons]; rw [h x (by simp), flatMap_congr' (fun y hy => h y (by simp [hy]))]
theorem OpR_local {GL : World → Prop} {S S' : St} {p : PVal} {us : List (Nat × Res)} {T : List Nat} (h : OpR P E GL o S p us T) (he : ∀ x ∈ o.op.operands, S'.ev x = S.ev x) (hR : ∀ id ∈ T, S'.R id = S.R id) : OpR P E GL o S' p us T := by
  rcases h with ⟨c, h1, h2, rfl⟩ | ⟨cl, f, fid, h1, h2, h3, h4, h5⟩
  · left
    refine ⟨c, by rw [stepF_local he hR]; exact h1, h2, ?_⟩
    unfold touch
    congr 1
    exact flatMap_congr' fun x hx => by rw [he x (by simpa using hx)]
  · right
    have hf : S'.ev f = S.ev f := he f (by simp [h1, Op.operands, Call.operands, h2])
    have hm : cl.args.toList.map S'.ev = cl.args.toList.map S.ev := map_ev_congr fun x hx => he x (by simp [h1, Op.operands, Call.operands]; exact .inr (by simpa using hx))
    refine ⟨cl, f, fid, h1, h2, by rw [hf]; exact h3, ?_, h5⟩
    rw [hm]
    obtain ⟨ps, rs, out0, rs', σ, β, a1, a2, a3, a4, a5, a6, a7, a8, a9, a10, a11, rfl⟩ := h4
    refine ⟨ps, rs, out0, rs', σ, β, a1, a2, a3, a4, fun x hx => ?_, a6, a7, a8, fun x hx hn => ?_, a10, a11, rfl⟩
    · obtain ⟨r, hr, hle⟩ := a5 x hx
      obtain ⟨y, hy, e⟩ := List.mem_map.1 (a8 x hx)
      exact ⟨r, by rw [hR (σ x.1) (List.mem_map.2 ⟨y, hy, by rw [e]⟩)]; exact hr, hle⟩
    · rw [hR (σ x.1) (List.mem_map.2 ⟨x, hx, rfl⟩)]
      exact a9 x hx hn
end Go.Proofs.YtpmnhbjbkoackaaDoor.En
