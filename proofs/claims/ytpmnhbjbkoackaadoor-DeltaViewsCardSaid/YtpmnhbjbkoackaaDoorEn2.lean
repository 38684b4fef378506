/- The plain run of a body: what each operation makes of plain data; the relation to the model's memory. -/
import Derived.Test.YtpmnhbjbkoackaaDoorEn1
namespace Go.Proofs.YtpmnhbjbkoackaaDoor.En
open Go Go.RowKit
set_option linter.unusedVariables false
set_option linter.unusedSimpArgs false

/-- A whole number's wrap, in the spelling of the plain laws. -/
def wrapK : IntKind → Int → Int
  | .i64, n => wrap64 n
  | .u8, n => n % 256
  | k, n => k.wrap n
theorem wrapK_eq (k : IntKind) (n : Int) : wrapK k n = k.wrap n := by
  cases k <;> simp [wrapK, IntKind.wrap_u8]
  exact (IntWalk.i64_left n).symm
/-- A constant as a cell. -/
def ofV : Value → Cell
  | .int k n => if k.wrap n = n then .int k n else .lit (.int k n)
  | .bool b => .bool b
  | .string s => if s.size ≤ 9223372036854775807 then .str s else .lit (.string s)
  | .agg _ => .dead
  | .tuple _ => .dead
  | v => .lit v
inductive TD where
  | int (k : IntKind)
  | slice (elem : TypeId) (e : Ty) (bytes : Nat)
  | struct (fs : List (Nat × Nat × Bool))
  | arr (n : Nat) (size : Nat) (agg : Bool) (e : Option Ty)
  | other (d : TypeDesc)
/-- What is known of a type. -/
structure TI where
  agg : Bool
  size : Nat
  zero : List Cell
  d : TD
def aggD : TypeDesc → Bool
  | .struct _ | .array _ _ => true
  | _ => false
def pairs : List Ty → Option Ty
  | [] => none
  | [a] => some a
  | a :: l => (pairs l).map (Ty.pair a)
def allSome {α β : Type} (f : α → Option β) : List α → Option (List β)
  | [] => some []
  | x :: l => (f x).bind fun y => (allSome f l).map (y :: ·)
/-- The plain type of a Go type. -/
def tyOf (P : Program) : Nat → TypeId → Option Ty
  | 0, _ => none
  | n + 1, t => match P.underlying t with
    | some (.int k) => some (.int k)
    | some .bool => some .bool
    | some .string => some .str
    | some (.slice e) => (tyOf P n e).map .list
    | some (.struct fs) => (allSome (fun f : Field => tyOf P n f.type) fs.toList).bind pairs
    | some (.array k e) => (tyOf P n e).bind fun τ => pairs (List.replicate k τ)
    | _ => none
def sliceD (P : Program) (d : TypeDesc) (e : TypeId) : TD :=
  match tyOf P 12 e, P.info? e with
  | some τ, some ie => if ie.size = τ.sz ∧ (ie.zero.map (·.cells.size)) = some ie.size then .slice e τ ie.bytes else .other d
  | _, _ => .other d
def fieldRow (P : Program) (f : Field) : Option (Nat × Nat × Bool) :=
  match P.info? f.type, P.underlying f.type with
  | some i, some d => if i.size = 0 then none else some (f.offset, i.size, aggD d)
  | _, _ => none
def tdOf (P : Program) (d : TypeDesc) : TD :=
  match d with
  | .int k => .int k
  | .slice e => sliceD P d e
  | .struct fs => match allSome (fieldRow P) fs.toList with | some l => .struct l | none => .other d
  | .array n e => match P.info? e, P.underlying e with | some i, some de => if i.size = 0 ∨ n ≤ 1 then .other d else .arr n i.size (aggD de) (tyOf P 12 e) | _, _ => .other d
  | _ => .other d
def zfit (z : Value) (d : TypeDesc) : Bool :=
  match z with
  | .agg _ => aggD d
  | .tuple _ => false
  | _ => !aggD d
def ti (P : Program) (t : TypeId) : Option TI :=
  match P.info? t, P.underlying t with
  | some i, some d => match i.zero with
    | some z => if z.cells.size = i.size ∧ (zfit z d && z.cells.toList.all Value.oneCell') = true then some ⟨aggD d, i.size, z.cells.toList.map ofV, tdOf P d⟩ else none
    | none => none
  | _, _ => none

/-- What a run knows of types, and which slots' new lists may be written. -/
structure EnvT where
  ty : TypeId → Option TI
  rw : Nat → Bool
instance : CoeFun EnvT (fun _ => TypeId → Option TI) := ⟨EnvT.ty⟩
@[reducible] def tiE (P : Program) (rw : Nat → Bool) : EnvT := ⟨ti P, rw⟩
/-- The state of a plain run: how many slots, what the slots hold, what may be written. -/
structure St where
  n : Nat
  tmps : List (Nat × PVal)
  res : List (Nat × Res)
def St.R (S : St) (id : Nat) : Option Res := S.res.lookup id
def St.get (S : St) (t : Nat) : PVal := (S.tmps.lookup t).getD (.p (.one .dead))
def St.ev (S : St) : Operand → PVal
  | .tmp t => S.get t
  | .const v => .p (.one (ofV v))
  | .global g => .p (.one (.lit (.pointer (some ⟨g, 0, none⟩))))
  | .func f => .p (.one (.lit (.func (.func f) #[] #[])))
def St.put (S : St) (d : Option Nat) (p : PVal) (us : List (Nat × Res)) : St :=
  { S with tmps := match d with | some t => (t, p) :: S.tmps | none => S.tmps, res := us ++ S.res }

def P1.cells : P1 → List Cell
  | .one c => [c]
  | .agg cs => cs
def P1.live : P1 → Bool
  | .one .dead => false
  | _ => true
/-- A condition, and that it can be told. -/
structure Cnd where
  p : Prop
  d : Decidable p
@[reducible] def Cnd.of (p : Prop) [d : Decidable p] : Cnd := ⟨p, d⟩
/-- All of them hold. -/
def allP : List Cnd → Prop
  | [] => True
  | c :: cs => c.p ∧ allP cs
/-- A binary operation on plain values: its condition, and what comes of it. -/
def binF (op : BinOp) (d : Option TD) : Cell → Cell → Option (List Cnd × Cell)
  | .int k a, .int k' b => if k = k' then
      match op with
      | .add => some ([], .int k (wrapK k (a + b)))
      | .sub => some ([], .int k (wrapK k (a - b)))
      | .mul => some ([], .int k (wrapK k (a * b)))
      | .quo => some ([.of (b ≠ 0)], .int k (wrapK k (a.tdiv b)))
      | .rem => some ([.of (b ≠ 0)], .int k (a.tmod b))
      | .eql => some ([], .bool (a == b))
      | .neq => some ([], .bool (a != b))
      | .lss => some ([], .bool (decide (a < b)))
      | .leq => some ([], .bool (decide (a ≤ b)))
      | .gtr => some ([], .bool (decide (b < a)))
      | .geq => some ([], .bool (decide (b ≤ a)))
      | _ => none
    else none
  | .bool a, .bool b => match op, d with
      | .eql, some (.other .bool) => some ([], .bool (a == b))
      | .neq, some (.other .bool) => some ([], .bool (!(a == b)))
      | _, _ => none
  | .str a, .str b => match op with
      | .add => some ([.of (a.size + b.size ≤ 9223372036854775807)], .str (a ++ b))
      | .eql => some ([], .bool (a.toList == b.toList))
      | .neq => some ([], .bool (!(a.toList == b.toList)))
      | .lss => some ([], .bool (Op.bytesLess a.toList b.toList))
      | .gtr => some ([], .bool (!(Op.bytesLess a.toList b.toList || a.toList == b.toList)))
      | _ => none
  | .ptr _ _, .lit (.pointer none) => match op, d with
      | .eql, some (.other (.pointer _)) => some ([], .bool false)
      | .neq, some (.other (.pointer _)) => some ([], .bool true)
      | _, _ => none
  | .lit (.pointer none), .lit (.pointer none) => match op, d with
      | .eql, some (.other (.pointer _)) => some ([], .bool true)
      | .neq, some (.other (.pointer _)) => some ([], .bool false)
      | _, _ => none
  | _, _ => none
def unF (op : UnOp) : Cell → Option Cell
  | .bool b => match op with | .not => some (.bool (!b)) | _ => none
  | .int k n => match op with | .neg => some (.int k (wrapK k (0 - n))) | _ => none
  | _ => none
/-- A part of a row of cells. -/
def partF (cs : List Cell) (off size : Nat) (agg : Bool) : Option P1 :=
  if agg then (if off + size ≤ cs.length then some (.agg ((cs.drop off).take size)) else none)
  else match cs[off]? with
    | some c => some (.one c)
    | none => none
def spliceF (cs : List Cell) (off : Nat) (new : List Cell) : List Cell := cs.take off ++ new ++ cs.drop (off + new.length)
def fillF (place : Nat → Option (Nat × Nat)) (cs : List Cell) : List (Nat × PVal) → Option (List Cell)
  | [] => some cs
  | (i, .p v) :: rest => match place i with
    | some (off, size) => if v.live = true ∧ v.cells.length = size ∧ off + size ≤ cs.length then fillF place (spliceF cs off v.cells) rest else none
    | none => none
  | _ => none
/-- The bound of a cut. -/
def bound (ev : Operand → PVal) (d : Int) : Option Operand → Option Int
  | none => some d
  | some x => match ev x with
    | .p (.one (.int _ n)) => some n
    | _ => none
def cutL {α : Type} (l : List α) (lo hi : Int) : List α := (l.take hi.toNat).drop lo.toNat
def elems (τ : Ty) : List (Nat × PVal) → Nat → Option (List τ.T)
  | [], _ => some []
  | (i, .p v) :: rest, k => if i = k ∧ v.live = true then (unflat τ v.cells).bind fun x => (elems τ rest (k + 1)).map (x :: ·) else none
  | _, _ => none
/-- An array's elements. -/
def arrEls (τ : Ty) : Nat → List Cell → Option (List τ.T)
  | 0, [] => some []
  | m + 1, cs => (unflat τ (cs.take τ.sz)).bind fun x => (arrEls τ m (cs.drop τ.sz)).map (x :: ·)
  | _, _ => none
def putF (τ : Ty) (agg : Bool) (x : τ.T) : P1 := if agg = true then .agg (flat τ x) else match flat τ x with | [c] => .one c | _ => .one .dead
def asList (e : Ty) : PVal → Option (List e.T)
  | .p (.one (.lst e' l)) => if h : e' = e then some (h ▸ l) else none
  | .p (.one (.acc e' l _ _ _)) => if h : e' = e then some (h ▸ l) else none
  | .p (.one (.lit (.slice none 0 0))) => some []
  | _ => none
/-- What is appended: data, or a list that may be written. -/
def srcF (τ : Ty) (R : Nat → Option Res) : PVal → Option (List τ.T)
  | .p (.one (.row e T0 id ver)) => match R id with
    | some (.row e1 l T1 ver') => if h : e1 = τ then if ver = ver' ∧ e = e1 ∧ T0 = T1 then some (h ▸ l) else none else none
    | _ => none
  | v => asList τ v
/-- A builtin's call. -/
def biF (E : EnvT) (b : Builtin) (args : List PVal) (Ts : List TypeId) (dst : Option Nat) (R : Nat → Option Res) : Option (List Cnd × PVal × List (Nat × Res)) :=
  match b, args, Ts with
  | .len, [x], [T] => match E T, x with
    | some ⟨_, _, _, .other .string⟩, .p (.one (.str s)) => some ([], .p (.one (.int .i64 s.size)), [])
    | some ⟨_, _, _, .slice _ _ _⟩, .p (.one (.row e T0 id ver)) => match R id with
      | some (.row e1 l T1 ver') => if ver = ver' then some ([], .p (.one (.int .i64 (List.length l))), []) else none
      | _ => none
    | some ⟨_, _, _, .slice _ τ _⟩, v => (asList τ v).map fun xs => ([], .p (.one (.int .i64 (List.length xs))), [])
    | _, _ => none
  | .append, [x, y], [T, T'] => if T = T' then match E T, dst with
    | some ⟨_, _, _, .slice el τ bytes⟩, some d => match srcF τ R y with
      | some ys => match x with
        | .p (.one (.acc e l T0 id ver)) => if h : e = τ then match R id with
            | some (.tok ver') => if ver = ver' ∧ T0 = el then some ([.of ((List.length l + List.length ys) * bytes ≤ 140737488355328 ∧ List.length l + List.length ys ≤ 9223372036854775807)], .p (.one (.acc τ ((h ▸ l) ++ ys) el id (ver + 1))), [(id, .tok (ver + 1))]) else none
            | _ => none
          else none
        | .p (.one (.row e T0 id ver)) => match R id with
            | some (.row e1 l T1 ver') => if h : e1 = τ then if ver = ver' ∧ e = e1 ∧ T0 = T1 ∧ T0 = el then some ([.of ((List.length l + List.length ys) * bytes ≤ 140737488355328 ∧ List.length l + List.length ys ≤ 9223372036854775807)], .p (.one (.row τ el id (ver + 1))), [(id, .row τ ((h ▸ l) ++ ys) el (ver + 1))]) else none else none
            | _ => none
        | .p (.one (.lit (.slice none 0 0))) => match R d with
          | none => some ([.of ((List.length ys) * bytes ≤ 140737488355328 ∧ List.length ys ≤ 9223372036854775807)], if E.rw d = true then .p (.one (.row τ el d 0)) else .p (.one (.acc τ ys el d 0)), if E.rw d = true then [(d, .row τ ys el 0)] else [(d, .tok 0)])
          | some _ => none
        | _ => none
      | none => none
    | _, _ => none
    else none
  | .min, [.p (.one (.int .i64 a)), .p (.one (.int .i64 b))], [_, _] => some ([], .p (.one (.int .i64 (if b < a then b else a))), [])
  | .max, [.p (.one (.int .i64 a)), .p (.one (.int .i64 b))], [_, _] => some ([], .p (.one (.int .i64 (if a < b then b else a))), [])
  | _, _, _ => none
/-- One operation: its condition, what its slot holds behind it, and what becomes of what may be written. -/
def stepF (E : EnvT) (o : Oper) (ev : Operand → PVal) (R : Nat → Option Res) : Option (List Cnd × PVal × List (Nat × Res)) :=
  match o.op with
  | .move x | .assign x => some ([], ev x, [])
  | .pick c a b => match ev c with
    | .p (.one (.bool t)) => some ([], if t = true then ev a else ev b, [])
    | _ => none
  | .alloc T => match E T, o.dst with
    | some i, some d => match R d with
      | none => some ([], .p (.one (.ptr d 0)), [(d, .blk i.zero)])
      | some _ => none
    | _, _ => none
  | .box T x => match ev x, o.dst with
    | .p v, some d => match R d with
      | none => if v.live = true then some ([], .p (.one (.ptr d 0)), [(d, .blk v.cells)]) else none
      | some _ => none
    | _, _ => none
  | .build T parts => match E T with
    | some ⟨_, _, z, .struct fs⟩ => (fillF (fun i => (fs[i]?).map fun f => (f.1, f.2.1)) z (parts.toList.map fun p => (p.1, ev p.2))).map fun cs => ([], .p (.agg cs), [])
    | some ⟨_, _, z, .arr n size _ _⟩ => (fillF (fun i => some (i * size, size)) z (parts.toList.map fun p => (p.1, ev p.2))).map fun cs => ([], .p (.agg cs), [])
    | _ => none
  | .buildSlice T len parts => match E T, o.dst with
    | some ⟨_, _, _, .slice el τ _⟩, some d => match R d with
      | none => if len * τ.sz ≤ 16777216 then (elems τ (parts.toList.map fun p => (p.1, ev p.2)) 0).bind fun l => if l.length = len then some ([], if E.rw d = true then .p (.one (.row τ el d 0)) else .p (.one (.acc τ l el d 0)), if E.rw d = true then [(d, .row τ l el 0)] else [(d, .tok 0)]) else none else none
      | some _ => none
    | _, _ => none
  | .load T a => match E T, ev a with
    | some i, .p (.one (.ptr id off)) => match R id with
      | some (.blk cs) => (partF cs off i.size i.agg).map fun p => ([], .p p, [])
      | _ => none
    | some i, .p (.one (.eptr τ x off)) => (partF (flat τ x) off i.size i.agg).map fun p => ([], .p p, [])
    | some i, .p (.one (.rptr e T id ver n off)) => match R id with
      | some (.row e1 l T1 ver') => if ver = ver' ∧ e = e1 then (partF (flat e1 (l.getD n e1.dflt)) off i.size i.agg).map fun p => ([], .p p, []) else none
      | _ => none
    | _, _ => none
  | .store T a x => match E T, ev a, ev x with
    | some i, .p (.one (.ptr id off)), .p v => match R id with
      | some (.blk cs) => if v.live = true ∧ v.cells.length = i.size ∧ off + i.size ≤ cs.length then some ([], .p (.one .dead), [(id, .blk (spliceF cs off v.cells))]) else none
      | _ => none
    | some i, .p (.one (.rptr e T0 id ver n off)), .p v => match R id with
      | some (.row e1 l T1 ver') => if ver = ver' ∧ e = e1 ∧ v.live = true ∧ v.cells.length = i.size ∧ off + i.size ≤ e1.sz then (unflat e1 (spliceF (flat e1 (l.getD n e1.dflt)) off v.cells)).map fun x => ([], .p (.one .dead), [(id, .row e1 (l.set n x) T1 ver')]) else none
      | _ => none
    | _, _, _ => none
  | .nilCheck x => match ev x with
    | .p (.one (.ptr id off)) => some ([], .p (.one (.ptr id off)), [])
    | .p (.one (.eptr τ x off)) => some ([], .p (.one (.eptr τ x off)), [])
    | .p (.one (.rptr e T id ver n off)) => some ([], .p (.one (.rptr e T id ver n off)), [])
    | _ => none
  | .binOp op T x y _ => match ev x, ev y with
    | .p (.one c), .p (.one d) => (binF op ((E T).map (·.d)) c d).map fun (q : List Cnd × Cell) => (q.1, .p (.one q.2), [])
    | _, _ => none
  | .unOp op _ x => match ev x with
    | .p (.one c) => (unF op c).map fun q => ([], .p (.one q), [])
    | _ => none
  | .convert s t x => match E s, E t, ev x with
    | some _, some ⟨_, _, _, .int k⟩, .p (.one (.int _ n)) => some ([], .p (.one (.int k (wrapK k n))), [])
    | some _, some ⟨_, _, _, .other .string⟩, .p (.one (.str s)) => some ([], .p (.one (.str s)), [])
    | some ⟨_, _, _, .slice el (.int .u8) _⟩, some ⟨_, _, _, .other .string⟩, v => match E el with
      | some ⟨_, _, _, .int .u8⟩ => (asList (.int .u8) v).map fun xs => ([], .p (.one (.str (strOfNums xs))), [])
      | _ => none
    | _, _, _ => none
  | .slice T x lo hi none => match E T, ev x with
    | some ⟨_, _, _, .other .string⟩, .p (.one (.str s)) => match bound ev 0 lo, bound ev s.size hi with
      | some l, some h => some ([.of (0 ≤ l ∧ l ≤ h ∧ h ≤ s.size)], .p (.one (.str (s.extract l.toNat h.toNat))), [])
      | _, _ => none
    | some ⟨_, _, _, .slice _ _ _⟩, .p (.one (.row e T0 id ver)) => match R id with
      | some (.row e1 l T1 ver') => match lo, bound ev (List.length l) hi with
        | none, some h => if ver = ver' ∧ e = e1 ∧ T0 = T1 then some ([.of (0 ≤ h ∧ h ≤ List.length l)], .p (.one (.row e1 T1 id (ver + 1))), [(id, .row e1 (l.take h.toNat) T1 (ver + 1))]) else none
        | _, _ => none
      | _ => none
    | some ⟨_, _, _, .slice _ τ _⟩, v => match asList τ v with
      | some xs => match bound ev 0 lo, bound ev (List.length xs) hi with
        | some l, some h => some ([.of (0 ≤ l ∧ l ≤ h ∧ h ≤ List.length xs)], .p (.one (.lst τ (cutL xs l h))), [])
        | _, _ => none
      | none => none
    | _, _ => none
  | .fieldAddr T x f => match E T, ev x with
    | some ⟨_, _, _, .struct fs⟩, .p (.one (.ptr id off)) => (fs[f]?).map fun r => ([], .p (.one (.ptr id (off + r.1))), [])
    | some ⟨_, _, _, .struct fs⟩, .p (.one (.eptr τ x off)) => (fs[f]?).map fun r => ([], .p (.one (.eptr τ x (off + r.1))), [])
    | some ⟨_, _, _, .struct fs⟩, .p (.one (.rptr e T id ver n off)) => (fs[f]?).map fun r => ([], .p (.one (.rptr e T id ver n (off + r.1))), [])
    | _, _ => none
  | .field T x f => match E T, ev x with
    | some ⟨_, _, _, .struct fs⟩, .p (.agg cs) => (fs[f]?).bind fun r => (partF cs r.1 r.2.1 r.2.2).map fun p => ([], .p p, [])
    | _, _ => none
  | .indexAddr T x i => match E T, ev i with
    | some ⟨_, _, _, .slice el τ _⟩, .p (.one (.int _ n)) => match ev x with
      | .p (.one (.row e T0 id ver)) => match R id with
        | some (.row e1 l T1 ver') => if ver = ver' ∧ e = e1 ∧ e = τ then some ([.of (0 ≤ n ∧ n < List.length l)], .p (.one (.rptr e T1 id ver n.toNat 0)), []) else none
        | _ => none
      | v => match asList τ v with
        | some xs => some ([.of (0 ≤ n ∧ n < List.length xs)], .p (.one (.eptr τ (rdT τ xs n) 0)), [])
        | none => none
    | some ⟨_, _, _, .arr m size _ _⟩, .p (.one (.int _ n)) => match ev x with
      | .p (.one (.ptr id off)) => some ([.of (0 ≤ n ∧ n < m)], .p (.one (.ptr id (off + n.toNat * size))), [])
      | .p (.one (.eptr τ x off)) => some ([.of (0 ≤ n ∧ n < m)], .p (.one (.eptr τ x (off + n.toNat * size))), [])
      | _ => none
    | _, _ => none
  | .index T x i => match E T, ev x, ev i with
    | some ⟨_, _, _, .other .string⟩, .p (.one (.str s)), .p (.one (.int _ n)) => some ([.of (0 ≤ n ∧ n < s.size)], .p (.one (.int .u8 (((s.data.toList.getD n.toNat 0).toNat : Nat) : Int))), [])
    | some ⟨_, _, _, .arr m size agg (some τ)⟩, .p (.agg cs), .p (.one (.int _ n)) => if size = τ.sz ∧ (agg || τ.sz == 1) = true then (arrEls τ m cs).map fun xs => ([.of (0 ≤ n ∧ n < (m : Int))], .p (putF τ agg (rdT τ xs n)), []) else none
    | _, _, _ => none
  | .extract x i => match ev x with
    | .tup ps => (ps[i]?).map fun p => ([], .p p, [])
    | _ => none
  | .call cl => match cl.callee with
    | .builtin b => biF E b (cl.args.toList.map ev) cl.argTypes.toList o.dst R
    | _ => none
  | _ => none

/-- Nothing that was there has been written but what the call may write. -/
structure Fr (O : Nat → Nat → Prop) (w w' : World) : Prop where
  os : w'.os = w.os
  tape : w'.tape = w.tape
  output : w'.output = w.output
  size : w.heap.size ≤ w'.heap.size
  block : ∀ b, b < w.heap.size → (∀ o, ¬ O b o) → w'.heap[b]? = w.heap[b]?
  cell : ∀ b o v, w.cell? ⟨b, o, none⟩ = some v → ¬ O b o → w'.cell? ⟨b, o, none⟩ = some v
/-- What a resource stands for. -/
def RV (w : World) (W : Nat → Nat → Prop) (R : Nat → Option Res) (g : Gh) (id : Nat) : Res → Prop
  | .blk cs => ∃ b T vs, g.loc id = some b ∧ w.heap[b]? = some (.cells (List.toArray vs) T (0, 0)) ∧ CVs w W R g vs cs
  | .tok _ => ∀ b, g.loc id = some b → ∃ cs T, w.heap[b]? = some (.cells cs T (0, 0))
  | .row e l T _ => ∃ xs, w.ownsRow 0 T e.sz (rowV g id (List.length l)) (List.length l) xs ∧ FR e.sz (DV w W e) xs l
/-- The relation of what may be written to memory. wt: the world ahead of all; Fb: what others may write, and the call may not. -/
structure HR (wt : World) (Fb : Nat → Nat → Prop) (w : World) (R : Nat → Option Res) (g : Gh) : Prop where
  res : ∀ id r, R id = some r → RV w (Wr Fb R g) R g id r
  inj : ∀ id id' r r' b, R id = some r → R id' = some r' → g.loc id = some b → g.loc id' = some b → id = id'
  base : ∀ id r b, R id = some r → g.loc id = some b → wt.heap.size ≤ b ∧ b < w.heap.size
  fb : ∀ id r b o, R id = some r → g.loc id = some b → ¬ Fb b o
  fbs : ∀ b o, Fb b o → b < w.heap.size
  bel : Below wt.heap.size wt w
/-- A step of memory, as seen by what it doesn't concern. -/
structure Eff (wt : World) (Fb : Nat → Nat → Prop) (w : World) (R : Nat → Option Res) (g : Gh) (w' : World) (R' : Nat → Option Res) (g' : Gh) : Prop where
  hr : HR wt Fb w' R' g'
  tr : Tr w (Wr Fb R g) R g w' (Wr Fb R' g') R' g'
  fr : Fr (own R g) w w'
  sub : ∀ b o, own R' g' b o → b < w.heap.size → own R g b o
def up (us : List (Nat × Res)) (R : Nat → Option Res) (id : Nat) : Option Res := (us.lookup id).or (R id)
/-- Where a call began. -/
structure Ini where
  w0 : World
  O0 : Nat → Nat → Prop
  R0 : Nat → Option Res
  g0 : Gh
/-- The relation of a state to a frame and a world. -/
structure SR (wt : World) (Fb : Nat → Nat → Prop) (I : Ini) (S : St) (a : Act) (w : World) (g : Gh) : Prop where
  hr : HR wt Fb w S.R g
  n : a.tmps.size = S.n
  df : a.defers = []
  vals : ∀ t p, S.tmps.lookup t = some p → PV w (Wr Fb S.R g) S.R g (a.tmps.getD t undef) p
  fr : Fr I.O0 I.w0 w
  sub : ∀ b o, own S.R g b o → b < I.w0.heap.size → I.O0 b o
  lv : ∀ id r, I.R0 id = some r → ∃ r', S.R id = some r' ∧ Res.later I.w0 w I.g0 g id r r'
end Go.Proofs.YtpmnhbjbkoackaaDoor.En
