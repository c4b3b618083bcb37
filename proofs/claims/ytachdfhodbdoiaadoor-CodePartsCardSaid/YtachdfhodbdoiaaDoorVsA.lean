/-
  A small language of pure values for Go functions as the model has them, and its evaluator: definitions alone. Under no condition.
-/
import Derived.Tactics
import Derived.Orders
import Derived.Laws.AppendOwn
import Derived.Laws.OwnMore
import Derived.Laws.MakeOwn
namespace Go.Vs
open Go

/-- A pure value. 'sl': a slice that is never written any more, element by element, each as its cells. 'row': the whole of a row of the store (g: how many elements). 'pf': a pointer into what is never written any more, the cells from there on. 'ptr id g i off': the box, the row's length (0: a variable), the element, the cell in it. 'arr': a slice over one-cell elements of a variable. -/
inductive PV where
  | undef
  | bool (b : Bool)
  | int (k : IntKind) (n : Int)
  | str (s : List UInt8)
  | nilp
  | ptr (id g i off : Nat)
  | pf (cs : List PV)
  | nilsl
  | sl (es : List (List PV))
  | row (id g : Nat)
  | arr (id off len : Nat)
  | fn (f : FuncId) (caps : List PV)
  | nilif
  | iface (t : TypeId) (v : PV)
  | agg (cs : List PV)
  | tup (vs : List PV)
  deriving Inhabited

/-- A box of the store: a variable (isRow false: es is one list, its cells) or a row that may grow (size: an element's cells). lk: how many of a row's first elements are never written any more. fz: a string shares its bytes. -/
structure Box where
  es : List (List PV)
  isRow : Bool
  size : Nat
  e : TypeId
  lk : Nat
  fz : Bool
  deriving Inhabited

def Box.gen (B : Box) : Nat := if B.isRow then B.es.length else 0

abbrev Store := List Box
abbrev Slots := Nat → PV

def upd (s : Slots) (d : Nat) (v : PV) : Slots := fun k => if k = d then v else s k
def updO (s : Slots) (d : Option Nat) (v : PV) : Slots := match d with | some d => upd s d v | none => s

inductive Opd where
  | tmp (t : Nat)
  | const (v : PV)
  | glob (g : Nat)
  deriving Inhabited

def Opd.ev (gl : Nat → List PV) (s : Slots) : Opd → PV
  | .tmp t => s t
  | .const v => v
  | .glob g => .pf (gl g)

inductive COp where
  | mov (x : Opd)
  | pick (c a b : Opd)
  | alloc (e : TypeId) (zs : List PV)
  | box (e : TypeId) (x : Opd)
  | build (zs : List PV) (parts : List (Nat × Nat × Opd))
  | bslice (e : TypeId) (size len : Nat) (zs : List PV) (parts : List (Nat × Opd))
  | ldc (a : Opd)
  | lda (n : Nat) (a : Opd)
  | st (n : Nat) (a x : Opd)
  | nilck (x : Opd)
  | bin (op : BinOp) (x y : Opd)
  | eqb (neg : Bool) (x y : Opd)
  | eqnil (isSl neg : Bool) (x : Opd)
  | eqp (neg : Bool) (x y : Opd)
  | eqs (ks : List Nat) (neg : Bool) (x y : Opd)
  | un (op : UnOp) (x : Opd)
  | cvi (k : IntKind) (x : Opd)
  | cvid (x : Opd)
  | cvp (u : Option (TypeId × Nat)) (x : Opd)
  | cvbs (x : Opd)
  | mkfn (f : FuncId) (caps : List Opd)
  | sls (x : Opd) (lo hi : Option Opd)
  | slv (size : Nat) (x : Opd) (lo hi : Option Opd)
  | slp (size : Nat) (x : Opd) (lo hi : Option Opd)
  | bsl (e : TypeId) (size len : Nat) (zs : List PV) (parts : List (Nat × Opd))
  | sla (n : Nat) (x : Opd) (lo hi : Option Opd)
  | fa (off : Nat) (x : Opd)
  | fld (off : Nat) (n : Option Nat) (x : Opd)
  | ixa (size : Nat) (x i : Opd)
  | ixaa (n size : Nat) (x i : Opd)
  | ixs (x i : Opd)
  | ixg (len size : Nat) (one : Bool) (x i : Opd)
  | ext (j : Nat) (x : Opd)
  | callf (f : FuncId) (args : List Opd)
  | callv (x : Opd) (args : List Opd)
  | len (isStr : Bool) (x : Opd)
  | app (isStr : Bool) (e : TypeId) (size bytes : Nat) (x y : Opd)
  | maxmin (mx : Bool) (x y : Opd)
  | usd (x : Opd)
  | ustr (e : TypeId) (p n : Opd)
  | stuck
  deriving Inhabited

structure CInstr where
  dst : Option Nat
  guard : Option (Nat × Bool)
  op : COp
  deriving Inhabited

inductive C where
  | skip
  | region (ops : List CInstr)
  | draw (ops : List (Bool × CInstr))
  | seq (a b : C)
  | cond (c : Opd) (a b : C)
  | block (id : Nat) (c : C)
  | loop (c : C)
  | exit (id : Nat)
  | ret
  | stuck
  deriving Inhabited

inductive CRes where
  | tmp (t : Nat)
  | cell (t : Nat) (n : Option Nat)
  deriving Inhabited

inductive Ext where
  | same
  | indexByte
  deriving Inhabited, DecidableEq

structure CFunc where
  code : C
  np : Nat
  keepNil : Bool
  res : List CRes
  ext : Option Ext := none
  deriving Inhabited

inductive CEx where
  | normal
  | exit (id : Nat)
  | ret
  deriving Inhabited, DecidableEq

inductive Req where
  | call (f : FuncId) (args : List PV) (st : Store)
  | loop (c : C) (s : Slots) (st : Store)

structure Res where
  ex : CEx
  val : PV
  s : Slots
  st : Store

/-! ### refs into the store -/
/-- No ref into the store from n on. What is frozen has none by itself. -/
def ref0 (n : Nat) : PV → Bool
  | .ptr id _ _ _ | .row id _ | .arr id _ _ => decide (id < n)
  | .fn _ caps => caps.isEmpty
  | .iface _ _ | .agg _ | .tup _ | .undef => false
  | _ => true
def ref1 (n : Nat) : PV → Bool
  | .fn _ caps => caps.all (ref0 n)
  | .iface _ v => ref0 n v
  | v => ref0 n v
def ref2 (n : Nat) : PV → Bool
  | .agg cs => cs.all (ref1 n)
  | v => ref1 n v
def ref3 (n : Nat) : PV → Bool
  | .tup vs => vs.all (ref2 n)
  | v => ref2 n v

def cellsOf : PV → List PV
  | .agg cs => cs
  | v => [v]

def PV.isUndef : PV → Bool
  | .undef => true
  | _ => false
/-- A value of one cell. -/
def oneP : PV → Bool
  | .undef | .agg _ | .tup _ => false
  | _ => true

/-! ### freezing -/
def frz1 (keep : Bool) (st : Store) : PV → Option (PV × Store)
  | .row id g => (st[id]?).bind fun B =>
    if B.isRow = true ∧ B.es.length = g ∧ (B.es.all fun e => e.all (ref1 0)) = true then some (.sl B.es, st.set id { B with lk := g }) else none
  | .nilsl => some (if keep then .nilsl else .sl [], st)
  | .arr _ _ _ => none
  | v => some (v, st)
def frzL (keep : Bool) (st : Store) : List PV → Option (List PV × Store)
  | [] => some ([], st)
  | v :: r => (frz1 keep st v).bind fun (v', st') => (frzL keep st' r).bind fun (r', st'') => some (v' :: r', st'')
def frz2 (keep : Bool) (st : Store) : PV → Option (PV × Store)
  | .agg cs => (frzL keep st cs).bind fun (cs', st') => some (.agg cs', st')
  | v => frz1 keep st v
def frzA (keep : Bool) (st : Store) : List PV → Option (List PV × Store)
  | [] => some ([], st)
  | v :: r => (frz2 keep st v).bind fun (v', st') => (frzA keep st' r).bind fun (r', st'') => some (v' :: r', st'')
def frz3 (keep : Bool) (st : Store) : PV → Option (PV × Store)
  | .tup vs => (frzA keep st vs).bind fun (vs', st') => some (.tup vs', st')
  | v => frz2 keep st v

/-! ### memory -/
def readP (st : Store) (n : Nat) : PV → Option (List PV)
  | .ptr id g i off => (st[id]?).bind fun B => if B.gen = g then (B.es[i]?).bind fun cs => if off + n ≤ cs.length then some ((cs.drop off).take n) else none else none
  | .pf cs => if n ≤ cs.length then some (cs.take n) else none
  | _ => none
def putCells (cs : List PV) (off : Nat) (xs : List PV) : List PV :=
  match xs with
  | [v] => cs.set off v
  | xs => cs.take off ++ (xs ++ cs.drop (off + xs.length))
def writeP (st : Store) (p : PV) (xs : List PV) : Option Store :=
  match p with
  | .ptr id g i off => (st[id]?).bind fun B =>
    if B.gen = g ∧ B.fz = false ∧ (B.isRow = true → B.lk ≤ i) then
      (B.es[i]?).bind fun cs => if off + xs.length ≤ cs.length then some (st.set id { B with es := B.es.set i (putCells cs off xs) }) else none
    else none
  | _ => none
def bytesOf : List (List PV) → Option (List UInt8)
  | [] => some []
  | [.int .u8 n] :: r => (bytesOf r).bind fun l => some (UInt8.ofNat n.toNat :: l)
  | _ => none
def ofBytes (l : List UInt8) : List (List PV) := l.map fun b => [.int .u8 b.toNat]
/-- A slice's elements as they now stand. -/
def elemsOf (st : Store) : PV → Option (List (List PV))
  | .nilsl => some []
  | .sl es => some es
  | .row id g => (st[id]?).bind fun B => if B.isRow = true ∧ B.es.length = g then some B.es else none
  | .arr id off len => (st[id]?).bind fun B => if B.isRow = false then (B.es[0]?).bind fun cs => if off + len ≤ cs.length then some (((cs.drop off).take len).map fun c => [c]) else none else none
  | _ => none

/-- What is appended. -/
def srcE (isStr : Bool) (st : Store) (y : PV) : Option (List (List PV)) :=
  if isStr then match y with
    | .str l => some (ofBytes l)
    | _ => none
  else elemsOf st y

/-- Elements appended. -/
def appE (st : Store) (e : TypeId) (size bytes : Nat) (new : List (List PV)) : PV → Option (PV × Store)
  | .nilsl => if new.length * bytes ≤ 140737488355328 ∧ new.length ≤ 281474976710656 then (if new.length = 0 then some (.nilsl, st) else some (.row st.length new.length, st ++ [Box.mk new true size e 0 false])) else none
  | .row id g => (st[id]?).bind fun B =>
    if B.isRow = true ∧ B.es.length = g ∧ B.fz = false ∧ B.size = size ∧ B.e = e ∧ (g + new.length) * bytes ≤ 140737488355328 ∧ g + new.length ≤ 281474976710656 then
      some (.row id (g + new.length), st.set id { B with es := B.es ++ new }) else none
  | _ => none

/-! ### operations on numbers, bools, texts -/
def binE (op : BinOp) : PV → PV → Option PV
  | .int k a, .int k' b =>
    match op with
    | .shl => if b < 0 then none else some (.int k (k.wrap (a * 2 ^ (min b.toNat k.bits))))
    | .shr => if b < 0 then none else some (.int k (a.fdiv (2 ^ (min b.toNat k.bits))))
    | op => if k = k' then
      match op with
      | .add => some (.int k (k.wrap (a + b)))
      | .sub => some (.int k (k.wrap (a - b)))
      | .mul => some (.int k (k.wrap (a * b)))
      | .quo => if b = 0 then none else some (.int k (k.wrap (a.tdiv b)))
      | .rem => if b = 0 then none else some (.int k (a.tmod b))
      | .and => some (.int k (k.wrap (BitVec.ofInt k.bits a &&& BitVec.ofInt k.bits b).toNat))
      | .or => some (.int k (k.wrap (BitVec.ofInt k.bits a ||| BitVec.ofInt k.bits b).toNat))
      | .xor => some (.int k (k.wrap (BitVec.ofInt k.bits a ^^^ BitVec.ofInt k.bits b).toNat))
      | .andNot => some (.int k (k.wrap (BitVec.ofInt k.bits a &&& ~~~BitVec.ofInt k.bits b).toNat))
      | .eql => some (.bool (decide (a = b)))
      | .neq => some (.bool (!decide (a = b)))
      | .lss => some (.bool (decide (a < b)))
      | .leq => some (.bool (decide (a ≤ b)))
      | .gtr => some (.bool (decide (a > b)))
      | .geq => some (.bool (decide (a ≥ b)))
      | _ => none
      else none
  | .str a, .str b =>
    match op with
    | .add => if a.length + b.length ≤ 9223372036854775807 then some (.str (a ++ b)) else none
    | .eql => some (.bool (decide (a = b)))
    | .neq => some (.bool (!decide (a = b)))
    | _ => none
  | _, _ => none
def unE (op : UnOp) : PV → Option PV
  | .bool b => match op with | .not => some (.bool (!b)) | _ => none
  | .int k a => match op with
    | .neg => some (.int k (k.wrap (0 - a)))
    | .xor => some (.int k (k.wrap (BitVec.ofInt k.bits (if k.signed then -1 else k.max) ^^^ BitVec.ofInt k.bits a).toNat))
    | _ => none
  | _ => none
def eqbE (neg : Bool) : PV → PV → Option PV
  | .bool a, .bool b => some (.bool (if neg then a != b else a == b))
  | _, _ => none
def eqnilE (isSl neg : Bool) (v : PV) : Option PV :=
  if isSl then match v with
    | .nilsl => some (.bool (!neg))
    | .sl (_ :: _) => some (.bool neg)
    | .row _ (_ + 1) => some (.bool neg)
    | _ => none
  else match v with
    | .nilp => some (.bool (!neg))
    | .ptr _ _ _ _ => some (.bool neg)
    | .pf _ => some (.bool neg)
    | _ => none
def eqpE (neg : Bool) : PV → PV → Option PV
  | .ptr id g i off, .ptr id' g' i' off' => if id = id' ∧ g = 0 ∧ g' = 0 ∧ i = 0 ∧ i' = 0 then some (.bool (if neg then off != off' else off == off')) else none
  | _, _ => none
/-- Two cells of one kind (0: bools, 1: numbers, else texts): the same? -/
def eqCell : Nat → PV → PV → Option Bool
  | 0, .bool a, .bool b => some (a == b)
  | 1, .int k a, .int k' b => if k = k' then some (decide (a = b)) else none
  | 2, .str a, .str b => some (decide (a = b))
  | _, _, _ => none
def eqCells : List Nat → List PV → List PV → Option Bool
  | [], [], [] => some true
  | k :: ks, a :: r, b :: r' => (eqCell k a b).bind fun x => (eqCells ks r r').bind fun y => some (x && y)
  | _, _, _ => none
def eqsE (ks : List Nat) (neg : Bool) : PV → PV → Option PV
  | .agg cs, .agg ds => (eqCells ks cs ds).bind fun b => some (.bool (if neg then !b else b))
  | _, _ => none
def idx (n : Nat) : PV → Option Nat
  | .int _ i => if 0 ≤ i ∧ i < n then some i.toNat else none
  | _ => none
/-- A bound of a slice expression: from 0 to n. -/
def bnd (n d : Nat) : Option PV → Option Nat
  | none => some d
  | some (.int _ i) => if 0 ≤ i ∧ i ≤ n then some i.toNat else none
  | some _ => none
def fillE (zs : List PV) : List (Nat × Nat × PV) → Option (List PV)
  | [] => some zs
  | (off, size, v) :: r =>
    if (cellsOf v).length = size ∧ (cellsOf v).all oneP = true ∧ off + size ≤ zs.length then fillE (putCells zs off (cellsOf v)) r else none
def fillR (es : List (List PV)) (size : Nat) : List (Nat × PV) → Option (List (List PV))
  | [] => some es
  | (i, v) :: r => if (cellsOf v).length = size ∧ (cellsOf v).all oneP = true ∧ i < es.length then fillR (es.set i (cellsOf v)) size r else none

/-- Is a variable one of such a type, and so long? -/
def cvpOk (B : Box) : Option (TypeId × Nat) → Bool
  | none => true
  | some (e, n) => decide (e = B.e) && decide ((B.es[0]?).map List.length = some n)

noncomputable section
open Classical
/-- One operation: what it yields, and the store behind it. -/
def evalOp (E : Req → Option Res) (gl : Nat → List PV) (s : Slots) (st : Store) : COp → Option (PV × Store)
  | .mov x => some (x.ev gl s, st)
  | .pick c a b => match c.ev gl s with
    | .bool t => some (if t then a.ev gl s else b.ev gl s, st)
    | _ => none
  | .alloc e zs => some (.ptr st.length 0 0 0, st ++ [Box.mk [zs] false 0 e 0 false])
  | .box e x => if (cellsOf (x.ev gl s)).all oneP = true then some (.ptr st.length 0 0 0, st ++ [Box.mk [cellsOf (x.ev gl s)] false 0 e 0 false]) else none
  | .build zs parts => (fillE zs (parts.map fun (o, n, x) => (o, n, x.ev gl s))).bind fun cs => some (.agg cs, st)
  | .bslice e size len zs parts => (fillR (List.replicate len zs) size (parts.map fun (i, x) => (i, x.ev gl s))).bind fun es =>
      some (.row st.length len, st ++ [Box.mk es true size e 0 false])
  | .ldc a => (readP st 1 (a.ev gl s)).bind fun l => match l with | [v] => some (v, st) | _ => none
  | .lda n a => (readP st n (a.ev gl s)).bind fun l => some (.agg l, st)
  | .st n a x => if (cellsOf (x.ev gl s)).length = n ∧ (cellsOf (x.ev gl s)).all oneP = true then (writeP st (a.ev gl s) (cellsOf (x.ev gl s))).bind fun st' => some (.undef, st') else none
  | .nilck x => match x.ev gl s with
    | .ptr id g i off => some (.ptr id g i off, st)
    | .pf cs => some (.pf cs, st)
    | _ => none
  | .bin op x y => (binE op (x.ev gl s) (y.ev gl s)).bind fun v => some (v, st)
  | .eqb neg x y => (eqbE neg (x.ev gl s) (y.ev gl s)).bind fun v => some (v, st)
  | .eqnil sl neg x => (eqnilE sl neg (x.ev gl s)).bind fun v => some (v, st)
  | .eqp neg x y => (eqpE neg (x.ev gl s) (y.ev gl s)).bind fun v => some (v, st)
  | .eqs ks neg x y => (eqsE ks neg (x.ev gl s) (y.ev gl s)).bind fun v => some (v, st)
  | .un op x => (unE op (x.ev gl s)).bind fun v => some (v, st)
  | .cvi k x => match x.ev gl s with
    | .int _ n => some (.int k (k.wrap n), st)
    | _ => none
  | .cvid x => match x.ev gl s with
    | .str l => some (.str l, st)
    | _ => none
  | .cvp u x => match x.ev gl s with
    | .ptr id 0 0 0 => (st[id]?).bind fun B => if B.isRow = false ∧ (B.es[0]?).any (fun c => !c.isEmpty) = true ∧ cvpOk B u = true then some (.ptr id 0 0 0, st) else none
    | _ => none
  | .cvbs x => (elemsOf st (x.ev gl s)).bind fun es => (bytesOf es).bind fun l => some (.str l, st)
  | .mkfn f caps => some (.fn f (caps.map (·.ev gl s)), st)
  | .sls x lo hi => match x.ev gl s with
    | .str l => (bnd l.length l.length (hi.map (·.ev gl s))).bind fun h => (bnd h 0 (lo.map (·.ev gl s))).bind fun b => some (.str ((l.take h).drop b), st)
    | _ => none
  | .slv size x lo hi => match frz1 false st (x.ev gl s) with
    | some (.sl es, st') => if (es.all fun e => decide (e.length = size)) = false then none else (bnd es.length es.length (hi.map (·.ev gl s))).bind fun h => (bnd h 0 (lo.map (·.ev gl s))).bind fun b => some (.sl ((es.take h).drop b), st')
    | _ => none
  | .slp size x lo hi => match x.ev gl s with
    | .sl es => if (es.all fun e => decide (e.length = size)) = false then none else (bnd es.length es.length (hi.map (·.ev gl s))).bind fun h => (bnd h 0 (lo.map (·.ev gl s))).bind fun b => some (.sl ((es.take h).drop b), st)
    | _ => none
  | .bsl _ size len zs parts => (fillR (List.replicate len zs) size (parts.map fun (i, x) => (i, x.ev gl s))).bind fun es =>
      if es.length = len ∧ (es.all fun e => e.all (ref1 0)) = true then some (.sl es, st) else none
  | .sla n x lo hi => match x.ev gl s with
    | .ptr id 0 0 off => (bnd n n (hi.map (·.ev gl s))).bind fun h => (bnd h 0 (lo.map (·.ev gl s))).bind fun b => some (.arr id (off + b) (h - b), st)
    | _ => none
  | .fa o x => match x.ev gl s with
    | .ptr id g i off => some (.ptr id g i (off + o), st)
    | .pf cs => some (.pf (cs.drop o), st)
    | _ => none
  | .fld o n x => match x.ev gl s with
    | .agg cs => match n with
      | none => (cs[o]?).bind fun v => some (v, st)
      | some n => if o + n ≤ cs.length then some (.agg ((cs.drop o).take n), st) else none
    | _ => none
  | .ixa size x i => match x.ev gl s with
    | .sl es => (idx es.length (i.ev gl s)).bind fun i => (es[i]?).bind fun e => if e.length = size then some (.pf e, st) else none
    | .row id g => (idx g (i.ev gl s)).bind fun i => (st[id]?).bind fun B => if B.isRow = true ∧ B.es.length = g ∧ B.size = size then some (.ptr id g i 0, st) else none
    | .arr id off len => if size = 1 then (idx len (i.ev gl s)).bind fun i => some (.ptr id 0 0 (off + i), st) else none
    | _ => none
  | .ixaa n size x i => match x.ev gl s with
    | .ptr id g j off => (idx n (i.ev gl s)).bind fun i => some (.ptr id g j (off + i * size), st)
    | .pf cs => (idx n (i.ev gl s)).bind fun i => some (.pf (cs.drop (i * size)), st)
    | _ => none
  | .ixs x i => match x.ev gl s with
    | .str l => (idx l.length (i.ev gl s)).bind fun i => (l[i]?).bind fun b => some (.int .u8 b.toNat, st)
    | _ => none
  | .ixg len size one x i => match x.ev gl s with
    | .agg cs => (idx len (i.ev gl s)).bind fun i => if one then (cs[i * size]?).bind fun v => some (v, st) else if i * size + size ≤ cs.length then some (.agg ((cs.drop (i * size)).take size), st) else none
    | _ => none
  | .ext j x => match x.ev gl s with
    | .tup vs => (vs[j]?).bind fun v => some (v, st)
    | _ => none
  | .callf f args => (frzA false st (args.map (·.ev gl s))).bind fun (as, st') => (E (.call f as st')).bind fun r => some (r.val, r.st)
  | .callv x args => match x.ev gl s with
    | .fn f caps => (frzA false st (args.map (·.ev gl s))).bind fun (as, st') => (E (.call f (as ++ caps) st')).bind fun r => some (r.val, r.st)
    | _ => none
  | .len isStr x => if isStr then match x.ev gl s with
    | .str l => some (.int .i64 l.length, st)
    | _ => none
    else match x.ev gl s with
    | .nilsl => some (.int .i64 0, st)
    | .sl es => some (.int .i64 es.length, st)
    | .row _ g => some (.int .i64 g, st)
    | .arr _ _ n => some (.int .i64 n, st)
    | _ => none
  | .app isStr e size bytes x y => (srcE isStr st (y.ev gl s)).bind fun new =>
      if (new.all fun e => decide (e.length = size) && e.all (ref1 0)) = true ∧ 0 < size then
        appE st e size bytes new (x.ev gl s)
      else none
  | .maxmin mx x y => match x.ev gl s, y.ev gl s with
    | .int k a, .int k' b => if k = k' then some (.int k (if mx then (if b > a then b else a) else (if b < a then b else a)), st) else none
    | _, _ => none
  | .usd x => match x.ev gl s with
    | .nilsl => some (.nilp, st)
    | .row id (g + 1) => some (.ptr id (g + 1) 0 0, st)
    | _ => none
  | .ustr e p n => match p.ev gl s, n.ev gl s with
    | .nilp, .int .i64 n => if n = 0 then some (.str [], st) else none
    | .ptr id g 0 0, .int .i64 n => (st[id]?).bind fun B =>
      if B.isRow = true ∧ B.es.length = g ∧ B.size = 1 ∧ B.e = e ∧ n = g ∧ 0 < g then (bytesOf B.es).bind fun l => if B.es = ofBytes l then some (.str l, st.set id { B with lk := g, fz := true }) else none
      else none
    | _, _ => none
  | .stuck => none

def wantedE (gds : Slots) : Option (Nat × Bool) → Option Bool
  | none => some true
  | some (t, b) => match gds t with
    | .bool c => some (c == b)
    | .tup _ => some false
    | _ => none

/-- A region in the text's order. A guard names the slot of the operation that it hangs on. -/
def evalOps (E : Req → Option Res) (gl : Nat → List PV) : List CInstr → Slots → Store → Option (Slots × Store)
  | [], s, st => some (s, st)
  | o :: r, s, st => (wantedE s o.guard).bind fun b =>
    if b then (evalOp E gl s st o.op).bind fun (v, st') => evalOps E gl r (updO s o.dst v) st'
    else evalOps E gl r (updO s o.dst (.tup [])) st

/-- What stood in the store stands there still. -/
def keepsE (st st' : Store) : Prop := ∀ (id : Nat) (B : Box), st[id]? = some B → ∃ B' : Box, st'[id]? = some B' ∧ B'.es = B.es ∧ B'.isRow = B.isRow ∧ B'.size = B.size ∧ B'.e = B.e

/-- One step of a region whose order is drawn: what it yields, and the store. -/
def outD (E : Req → Option Res) (gl : Nat → List PV) (o : Bool × CInstr) (s : Slots) (st : Store) : Option (PV × Store) :=
  (wantedE s o.2.guard).bind fun b =>
    if b then (evalOp E gl s st o.2.op).bind fun (v, st') => if o.1 = true → keepsE st st' then some (v, st') else none
    else some (.tup [], st)
def evalD (E : Req → Option Res) (gl : Nat → List PV) : List (Bool × CInstr) → Slots → Store → Option (Slots × Store)
  | [], s, st => some (s, st)
  | o :: r, s, st => (outD E gl o s st).bind fun (v, st') => evalD E gl r (updO s o.2.dst v) st'

def evalC (E : Req → Option Res) (gl : Nat → List PV) : C → Slots → Store → Option Res
  | .skip, s, st => some (Res.mk .normal .undef s st)
  | .region ops, s, st => (evalOps E gl ops s st).bind fun (s', st') => some (Res.mk .normal .undef s' st')
  | .draw ops, s, st => (evalD E gl ops s st).bind fun (s', st') => some (Res.mk .normal .undef s' st')
  | .seq a b, s, st => (evalC E gl a s st).bind fun r => match r.ex with
    | .normal => evalC E gl b r.s r.st
    | _ => some r
  | .cond c a b, s, st => match c.ev gl s with
    | .bool true => evalC E gl a s st
    | .bool false => evalC E gl b s st
    | _ => none
  | .block id c, s, st => (evalC E gl c s st).bind fun r => match r.ex with
    | .exit id' => if id' = id then some { r with ex := .normal } else some r
    | _ => some r
  | .loop c, s, st => E (.loop c s st)
  | .exit id, s, st => some (Res.mk (.exit id) .undef s st)
  | .ret, s, st => some (Res.mk .ret .undef s st)
  | .stuck, _, _ => none

def gcOk (st st' : Store) : Prop := st.length ≤ st'.length ∧ ∀ id, id < st.length → st'[id]? = st[id]? ∨ ∀ B, st'[id]? = some B → ∀ e ∈ B.es, ∀ c ∈ e, ref1 st.length c = true

def resE (s : Slots) (st : Store) : CRes → Option PV
  | .tmp t => some (s t)
  | .cell t none => (readP st 1 (s t)).bind fun l => match l with | [v] => some v | _ => none
  | .cell t (some n) => (readP st n (s t)).bind fun l => some (.agg l)
def resL (s : Slots) (st : Store) : List CRes → Option (List PV)
  | [] => some []
  | r :: l => (resE s st r).bind fun v => (resL s st l).bind fun vs => some (v :: vs)
def one : List PV → PV
  | [v] => v
  | vs => .tup vs

def leave (keep : Bool) (res : List CRes) (st0 : Store) (r : Res) : Option Res :=
  (resL r.s r.st res).bind fun vs => (frz3 keep r.st (one vs)).bind fun (v, st') =>
    if ref3 0 v = true ∧ gcOk st0 st' then some (Res.mk .ret v (fun _ => .undef) (st'.take st0.length)) else some (Res.mk .ret v (fun _ => .undef) st')

def extE : Ext → List PV → Option PV
  | .same, [.ptr id 0 0 0] => some (.ptr id 0 0 0)
  | .indexByte, [.str l, .int _ b] => some (.int .i64 (match (List.range l.length).find? fun i => decide ((l[i]?).getD 0 = UInt8.ofNat b.toNat) with | some i => (i : Int) | none => -1))
  | _, _ => none

def stepE (prog : FuncId → Option CFunc) (gl : Nat → List PV) (E : Req → Option Res) : Req → Option Res
  | .call f args st => (prog f).bind fun cf => if args.length = cf.np then
      match cf.ext with
      | some x => (extE x args).bind fun v => some (Res.mk .ret v (fun _ => .undef) st)
      | none => (evalC E gl cf.code (fun k => (args[k]?).getD .undef) st).bind fun r => match r.ex with
      | .exit _ => none
      | _ => leave cf.keepNil cf.res st r
      else none
  | .loop c s st => (evalC E gl c s st).bind fun r => match r.ex with
    | .normal => E (.loop c r.s r.st)
    | _ => some r

def En (prog : FuncId → Option CFunc) (gl : Nat → List PV) : Nat → Req → Option Res
  | 0, _ => none
  | n + 1, q => stepE prog gl (En prog gl n) q

def EE (prog : FuncId → Option CFunc) (gl : Nat → List PV) (q : Req) : Option Res :=
  if h : ∃ n r, En prog gl n q = some r then some (Classical.choose (Classical.choose_spec h)) else none
end
end Go.Vs
