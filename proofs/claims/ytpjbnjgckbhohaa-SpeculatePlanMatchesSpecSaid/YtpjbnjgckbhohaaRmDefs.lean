import GoSem.Core.Code
import GoSem.Core.Program
import GoSem.Op.String
import GoSem.Dispatch
import Derived.Orders
import Derived.Below
import Derived.Laws.IdiomCopy
import Derived.Laws.Cells
import Derived.Deep.DeepAppendWide
/-
  The abstract machine: values, heap, operations, code, and its run. A run is a function: no tape, no capacities, no open orders.
-/
namespace Go.RM

/-- Abstract values: a pointer is a block's number and a place in it; a slice bears 'lim': its capacity where that is known. -/
inductive AV where
  | int (k : IntKind) (n : Int)
  | bool (b : Bool)
  | str (s : ByteArray)
  | ptr (b off : Nat)
  | nilptr
  | slice (b off len : Nat) (lim : Option Nat)
  | empty
  | func (f : Nat) (caps : List AV)
  | nilfunc
  | agg (cs : List AV)
  | tuple (vs : List AV)
  deriving Inhabited

def AV.undef : AV := .tuple []
def AV.cells : AV → List AV
  | .agg cs => cs
  | v => [v]
def AV.scalar : AV → Bool
  | .agg _ => false
  | .tuple _ => false
  | _ => true

/-- A block. 'clean': nothing was stored into it since it was made; 'kid': the block that an append made out of it. -/
structure Blk where
  cells : List AV
  e : Nat
  live : Bool := true
  clean : Bool := true
  kid : Option Nat := none
  deriving Inhabited

abbrev Heap := List Blk

def Heap.blk (H : Heap) (b : Nat) : Option Blk :=
  match H[b]? with
  | some k => if k.live then some k else none
  | none => none

/-- A block that an append has replaced, and that the replacement has not spoilt: it may be appended to once more (the replacement dies then). -/
def Heap.rev (H : Heap) (k : Blk) : Option Nat :=
  if k.live then none else
  match k.kid with
  | some c =>
    match H[c]? with
    | some kc => if kc.live && kc.clean then some c else none
    | none => none
  | none => none

/-- Live, or to be revived. -/
def Heap.act (H : Heap) (b : Nat) : Option Blk :=
  match H[b]? with
  | some k => if k.live || (H.rev k).isSome then some k else none
  | none => none

/-- A block is given up for good. -/
def Heap.kill (H : Heap) (c : Nat) : Heap :=
  match H[c]? with
  | some k => H.set c { k with live := false, kid := none }
  | none => H

def splice (l : List AV) (off : Nat) (cs : List AV) : List AV := l.take off ++ cs ++ l.drop (off + cs.length)

def rload (H : Heap) (sz : Option Nat) (b off : Nat) : Option AV :=
  match H.act b with
  | some k =>
    match sz with
    | none => k.cells[off]?
    | some n => if off + n ≤ k.cells.length then some (.agg ((k.cells.drop off).take n)) else none
  | none => none

/-- A part of a struct's value. -/
def rpart (sz : Option Nat) (cs : List AV) (off : Nat) : Option AV :=
  match sz with
  | none => cs[off]?
  | some n => if off + n ≤ cs.length then some (.agg ((cs.drop off).take n)) else none

def rput (fl : Nat) (H : Heap) (b off : Nat) (cs : List AV) : Option Heap :=
  match H.blk b with
  | some k => if fl ≤ b ∧ off + cs.length ≤ k.cells.length ∧ cs.all AV.scalar = true then some (H.set b { k with cells := splice k.cells off cs, clean := false }) else none
  | none => none

inductive RX where
  | loc (i : Nat)
  | var (x : Nat)
  | k (v : AV)
  deriving Inhabited

inductive FK where
  | int | bool | str
  deriving Inhabited, DecidableEq

inductive EqCls where
  | no | bool
  | agg (ks : List FK)
  deriving Inhabited, DecidableEq

inductive ROp where
  | fail
  | move (x : RX)
  | pick (c a b : RX)
  | alloc (e : Nat) (zero : List AV)
  | box (e : Nat) (x : RX)
  | build (zero : List AV) (parts : List (Nat × Nat × RX))
  | buildSlice (e : Nat) (zero : List AV) (parts : List (Nat × Nat × RX)) (len : Nat)
  | load (sz : Option Nat) (x : RX)
  | store (n : Nat) (x v : RX) (apart : List RX)
  | nilCheck (x : RX)
  | bin (op : BinOp) (c : EqCls) (x y : RX)
  | un (op : UnOp) (x : RX)
  | convInt (k : IntKind) (x : RX)
  | makeFunc (f : Nat) (caps : List RX)
  | makeSlice (e bytes : Nat) (zero : List AV) (len cap : RX)
  | slice (e : Nat) (x : RX) (lo hi mx : Option RX)
  | sliceStr (x : RX) (lo hi : Option RX)
  | fieldAddr (off : Nat) (x : RX)
  | field (off : Nat) (sz : Option Nat) (x : RX)
  | indexAddr (e : Nat) (x i : RX)
  | indexArr (n e : Nat) (x i : RX)
  | indexStr (x i : RX)
  | indexAgg (len n : Nat) (sz : Option Nat) (x i : RX)
  | extract (x : RX) (i : Nat)
  | call (f : RX) (args : List RX)
  | callS (f : Nat) (args : List RX)
  | len (x : RX)
  | lenStr (x : RX)
  | append (e bytes : Nat) (x y : RX)
  | copy (e : Nat) (x y : RX)
  | clear (e : Nat) (zero : List AV) (x : RX)
  | min (x : RX) (ys : List RX)
  | max (x : RX) (ys : List RX)
  /-- a variable that nobody points at: its value, and a dead block in its place -/
  | tomb (e : Nat) (x : RX)
  | upd (n off : Nat) (x v : RX)
  deriving Inhabited

structure ROper where
  op : ROp
  guard : Option (Nat × Bool)
  dst : Option Nat
  free : Bool
  deriving Inhabited

inductive RCode where
  | fail
  | skip
  | ops (l : List ROper)
  | seq (a b : RCode)
  | cond (x : RX) (a b : RCode)
  | block (id : Nat) (c : RCode)
  | loop (c : RCode)
  | exit (id : Nat)
  | ret
  deriving Inhabited

inductive RRes where
  | var (x : Nat)
  | cell (x : Nat) (sz : Option Nat)
  | part (x : Nat) (sz : Option Nat)
  deriving Inhabited

/-- Functions that are known as a whole. -/
inductive Prim where
  /-- slices.Insert, of elements of e cells and that many bytes -/
  | insert (e bytes : Nat)
  /-- slices.Clone -/
  | clone (e bytes : Nat)
  deriving Inhabited

structure RFunc where
  nargs : Nat
  nvars : Nat
  res : List RRes
  body : RCode
  prim : Option Prim := none
  deriving Inhabited

inductive Out where
  | normal
  | exit (id : Nat)
  | ret
  deriving Inhabited, DecidableEq

/-! ### One operation -/

def binI (op : BinOp) (k : IntKind) (a b : Int) : Option AV :=
  match op with
  | .add => some (.int k (k.wrap (a + b)))
  | .sub => some (.int k (k.wrap (a - b)))
  | .mul => some (.int k (k.wrap (a * b)))
  | .quo => if b = 0 then none else some (.int k (k.wrap (a.tdiv b)))
  | .rem => if b = 0 then none else some (.int k (a.tmod b))
  | .and => some (.int k (k.wrap (BitVec.ofInt k.bits a &&& BitVec.ofInt k.bits b).toNat))
  | .or => some (.int k (k.wrap (BitVec.ofInt k.bits a ||| BitVec.ofInt k.bits b).toNat))
  | .xor => some (.int k (k.wrap (BitVec.ofInt k.bits a ^^^ BitVec.ofInt k.bits b).toNat))
  | .andNot => some (.int k (k.wrap (BitVec.ofInt k.bits a &&& ~~~BitVec.ofInt k.bits b).toNat))
  | .eql => some (.bool (a == b))
  | .neq => some (.bool (a != b))
  | .lss => some (.bool (a < b))
  | .leq => some (.bool (a ≤ b))
  | .gtr => some (.bool (a > b))
  | .geq => some (.bool (a ≥ b))
  | _ => none

def shiftI (op : BinOp) (k : IntKind) (a b : Int) : Option AV :=
  if b < 0 then none else
  match op with
  | .shl => some (.int k (k.wrap (a * 2 ^ (Min.min b.toNat k.bits))))
  | .shr => some (.int k (a.fdiv (2 ^ (Min.min b.toNat k.bits))))
  | _ => none

def binS (op : BinOp) (x y : ByteArray) : Option AV :=
  match op with
  | .add => if ((x.size + y.size : Nat) : Int) > IntKind.i64.max then none else some (.str (x ++ y))
  | .eql => some (.bool (x.toList == y.toList))
  | .neq => some (.bool !(x.toList == y.toList))
  | .lss => some (.bool (Op.bytesLess x.toList y.toList))
  | .leq => some (.bool (Op.bytesLess x.toList y.toList || x.toList == y.toList))
  | .gtr => some (.bool !(Op.bytesLess x.toList y.toList || x.toList == y.toList))
  | .geq => some (.bool !Op.bytesLess x.toList y.toList)
  | _ => none

def eqCells : List FK → List AV → List AV → Option Bool
  | [], [], [] => some true
  | .int :: ks, .int k a :: xs, .int k' b :: ys => if k = k' then (eqCells ks xs ys).map (a == b && ·) else none
  | .bool :: ks, .bool a :: xs, .bool b :: ys => (eqCells ks xs ys).map (a == b && ·)
  | .str :: ks, .str a :: xs, .str b :: ys => (eqCells ks xs ys).map (a.toList == b.toList && ·)
  | _, _, _ => none

def isShift : BinOp → Bool
  | .shl => true
  | .shr => true
  | _ => false

def binV (op : BinOp) (c : EqCls) : AV → AV → Option AV
  | .int k a, .int k' b => if isShift op then shiftI op k a b else if k = k' then binI op k a b else none
  | .str a, .str b => binS op a b
  | .bool a, .bool b =>
    if c = .bool then
      match op with
      | .eql => some (.bool (a == b))
      | .neq => some (.bool (!(a == b)))
      | _ => none
    else none
  | .agg xs, .agg ys =>
    match c with
    | .agg ks =>
      match op with
      | .eql => (eqCells ks xs ys).map .bool
      | .neq => (eqCells ks xs ys).map fun b => .bool (!b)
      | _ => none
    | _ => none
  | _, _ => none

def unV (op : UnOp) : AV → Option AV
  | .int k n =>
    match op with
    | .neg => some (.int k (k.wrap (0 - n)))
    | .xor => some (.int k (k.wrap (BitVec.ofInt k.bits (if k.signed then -1 else k.max) ^^^ BitVec.ofInt k.bits n).toNat))
    | _ => none
  | .bool b =>
    match op with
    | .not => some (.bool (!b))
    | _ => none
  | _ => none

def fillV (cells : List AV) : List (Nat × Nat × AV) → Option (List AV)
  | [] => some cells
  | (off, size, v) :: rest => if v.cells.length = size ∧ off + size ≤ cells.length then fillV (splice cells off v.cells) rest else none

def zeros (n : Nat) (zero : List AV) : List AV := (List.replicate n zero).flatten

/-- The cells that a slice (or nothing) brings to an append or a copy: its first n elements. -/
def sliceCells (H : Heap) (e n : Nat) : AV → Option (List AV)
  | .empty => if n = 0 then some [] else none
  | .slice b off len _ =>
    if n = 0 then some [] else
    if len < n then none else
    match H.act b with
    | some k => if off + n * e ≤ k.cells.length then some ((k.cells.drop off).take (n * e)) else none
    | none => none
  | _ => none

def sliceLen : AV → Option Nat
  | .empty => some 0
  | .slice _ _ n _ => some n
  | _ => none

/-- The slice's block is full (as far as is known): the append may lay a new row, or may write behind the last cell. Either way the old block is given up (by an append that is ordered against all else it may be revived). -/
def rappendTop (fl : Nat) (free : Bool) (e : Nat) (H : Heap) (b off n k : Nat) (blk : Blk) (xs : List AV) : Option (AV × Heap) :=
  if fl ≤ b ∧ xs.all AV.scalar = true then
    some (.slice H.length 0 (n + k) none,
      H.set b { blk with live := false, kid := if free then some H.length else none } ++ [{ cells := blk.cells.drop off ++ xs, e }])
  else none

def rappend (fl : Nat) (free : Bool) (e bytes : Nat) (H : Heap) (s : AV) (k : Nat) (xs : List AV) : Option (AV × Heap) :=
  if k = 0 then (match s with | .empty => some (s, H) | .slice .. => some (s, H) | _ => none) else
  match s with
  | .empty => if k * bytes ≤ 2 ^ 48 ∧ k < 2 ^ 62 then some (.slice H.length 0 k none, H ++ [{ cells := xs, e }]) else none
  | .slice b off n lim =>
    match H.act b with
    | none => none
    | some blk =>
      if blk.e = e ∧ off + n * e ≤ blk.cells.length ∧ (n + k + (n + k) / 4 + 192) * bytes ≤ 2 ^ 48 ∧ n + k < 2 ^ 62 then
        if blk.live then
          match lim with
          | some c =>
            if n + k ≤ c then (if free then (rput fl H b (off + n * e) xs).map fun H' => (.slice b off (n + k) lim, H') else none)
            else some (.slice H.length 0 (n + k) none, H ++ [{ cells := (blk.cells.drop off).take (n * e) ++ xs, e }])
          | none =>
            if off + n * e = blk.cells.length then rappendTop fl free e H b off n k blk xs
            else if free then (rput fl H b (off + n * e) xs).map fun H' => (.slice b off (n + k) lim, H') else none
        else
          match lim, H.rev blk with
          | none, some c => if free ∧ off + n * e = blk.cells.length ∧ fl ≤ c then rappendTop fl free e (H.kill c) b off n k blk xs else none
          | _, _ => none
      else none
  | _ => none

def boundOf (x : Option AV) (d : Nat) : Option Nat :=
  match x with
  | none => some d
  | some (.int _ i) => if 0 ≤ i then some i.toNat else none
  | some _ => none

/-- A slice beyond its length, of a slice whose capacity is not known: as far as cells are known. -/
def upB (H : Heap) (e b off h : Nat) (lo hi mx : Option AV) (lim : Option Nat) : Bool :=
  lo.isSome && hi.isSome && mx.isNone && lim.isNone && (match H.act b with | some k => decide (k.e = e) && decide (0 < e) && decide (off + h * e ≤ k.cells.length) | none => false)

def rslice (H : Heap) (e : Nat) (x : AV) (lo hi mx : Option AV) : Option AV :=
  match x with
  | .empty =>
    match boundOf lo 0, boundOf hi 0, boundOf mx 0 with
    | some 0, some 0, some 0 => some .empty
    | _, _, _ => none
  | .slice b off n lim =>
    match boundOf lo 0, boundOf hi n, boundOf mx (lim.getD n) with
    | some l, some h, some m =>
      if l ≤ h ∧ (h ≤ m ∨ upB H e b off h lo hi mx lim = true) ∧ m ≤ lim.getD n ∧ (l = 0 ∨ (H[b]?).map (·.e) = some e) then some (.slice b (off + l * e) (h - l) (if mx.isSome || lim.isSome then some (m - l) else none)) else none
    | _, _, _ => none
  | _ => none

def minI (k : IntKind) : Int → List AV → Option AV
  | a, [] => some (.int k a)
  | a, .int k' b :: r => if k' = k then minI k (if b < a then b else a) r else none
  | _, _ => none
def maxI (k : IntKind) : Int → List AV → Option AV
  | a, [] => some (.int k a)
  | a, .int k' b :: r => if k' = k then maxI k (if b > a then b else a) r else none
  | _, _ => none

def RX.ev (L E : List AV) : RX → AV
  | .loc i => L.getD i .undef
  | .var x => E.getD x .undef
  | .k v => v

/-- Block b is not what an append has made out of block b'. -/
def notKid (H : Heap) (b' b : Nat) : Bool :=
  match H.act b' with
  | some k => k.kid != some b
  | none => false

/-- The block that an address names is none of those that the loads beside it name, and was not made out of one of them. -/
def apartB (H : Heap) (b : Nat) : List AV → Bool
  | [] => true
  | .ptr b' _ :: l => b' != b && notKid H b' b && apartB H b l
  | .agg _ :: l => apartB H b l
  | _ => false

/-- The one or the other; of two truth values a truth value, whatever t is. -/
def pickV (t : Bool) (x y : AV) : AV :=
  match x, y with
  | .bool p, .bool q => .bool (bif t then p else q)
  | x, y => bif t then x else y

theorem pickV_true (x y : AV) : pickV true x y = x := by
  unfold pickV; split <;> rfl
theorem pickV_false (x y : AV) : pickV false x y = y := by
  unfold pickV; split <;> rfl

def rop (call : Nat → Nat → List AV → Heap → Option (AV × Heap)) (fl : Nat) (free : Bool) (X : RX → AV) (H : Heap) : ROp → Option (AV × Heap)
  | .fail => none
  | .move x => some (X x, H)
  | .pick c a b =>
    match X c with
    | .bool t => some (pickV t (X a) (X b), H)
    | _ => none
  | .alloc e zero => some (.ptr H.length 0, H ++ [{ cells := zero, e }])
  | .box e x => some (.ptr H.length 0, H ++ [{ cells := (X x).cells, e }])
  | .build zero parts => (fillV zero (parts.map fun p => (p.1, p.2.1, X p.2.2))).map fun cs => (.agg cs, H)
  | .buildSlice e zero parts len =>
    (fillV (zeros len zero) (parts.map fun p => (p.1, p.2.1, X p.2.2))).map fun cs => (.slice H.length 0 len (some len), H ++ [{ cells := cs, e }])
  | .load sz x =>
    match X x with
    | .ptr b off => (rload H sz b off).map fun v => (v, H)
    | _ => none
  | .store n x v ap =>
    match X x with
    | .ptr b off => if (X v).cells.length = n ∧ apartB H b (ap.map X) = true then (rput fl H b off (X v).cells).map fun H' => (.undef, H') else none
    | _ => none
  | .nilCheck x =>
    match X x with
    | .ptr b off => some (.ptr b off, H)
    | .func f caps => some (.func f caps, H)
    | _ => none
  | .bin op c x y => (binV op c (X x) (X y)).map fun v => (v, H)
  | .un op x => (unV op (X x)).map fun v => (v, H)
  | .convInt k x =>
    match X x with
    | .int _ n => some (.int k (k.wrap n), H)
    | _ => none
  | .makeFunc f caps => some (.func f (caps.map X), H)
  | .makeSlice e bytes zero len cap =>
    match X len, X cap with
    | .int .i64 l, .int .i64 c =>
      if 0 ≤ l ∧ l ≤ c ∧ bytes * c ≤ 2 ^ 47 ∧ c < 2 ^ 62 then some (.slice H.length 0 l.toNat (some c.toNat), H ++ [{ cells := zeros c.toNat zero, e }]) else none
    | _, _ => none
  | .slice e x lo hi mx => (rslice H e (X x) (lo.map X) (hi.map X) (mx.map X)).map fun v => (v, H)
  | .sliceStr x lo hi =>
    match X x with
    | .str s =>
      match boundOf (lo.map X) 0, boundOf (hi.map X) s.size with
      | some l, some h => if l ≤ h ∧ h ≤ s.size then some (.str (s.extract l h), H) else none
      | _, _ => none
    | _ => none
  | .fieldAddr off x =>
    match X x with
    | .ptr b o => some (.ptr b (o + off), H)
    | _ => none
  | .field off sz x =>
    match X x with
    | .agg cs => (rpart sz cs off).map fun v => (v, H)
    | _ => none
  | .indexAddr e x i =>
    match X x, X i with
    | .slice b off n _, .int _ j => if 0 ≤ j ∧ j < n then some (.ptr b (off + j.toNat * e), H) else none
    | _, _ => none
  | .indexArr n e x i =>
    match X x, X i with
    | .ptr b off, .int _ j => if 0 ≤ j ∧ j < n then some (.ptr b (off + j.toNat * e), H) else none
    | _, _ => none
  | .indexStr x i =>
    match X x, X i with
    | .str s, .int _ j =>
      match (if 0 ≤ j then s[j.toNat]? else none) with
      | some c => some (.int .u8 c.toNat, H)
      | none => none
    | _, _ => none
  | .indexAgg len n sz x i =>
    match X x, X i with
    | .agg cs, .int _ j => if 0 ≤ j ∧ j < len then (rpart sz cs (j.toNat * n)).map fun v => (v, H) else none
    | _, _ => none
  | .extract x i =>
    match X x with
    | .tuple vs => (vs[i]?).map fun v => (v, H)
    | _ => none
  | .call f args =>
    match X f with
    | .func g caps => call (if free then fl else H.length) g (args.map X ++ caps) H
    | _ => none
  | .callS g args => call (if free then fl else H.length) g (args.map X) H
  | .lenStr x =>
    match X x with
    | .str s => some (.int .i64 s.size, H)
    | _ => none
  | .len x =>
    match X x with
    | .slice _ _ n _ => some (.int .i64 n, H)
    | .empty => some (.int .i64 0, H)
    | _ => none
  | .append e bytes x y =>
    match sliceLen (X y) with
    | some k => (sliceCells H e k (X y)).bind fun xs => rappend fl free e bytes H (X x) k xs
    | none => none
  | .copy e x y =>
    match sliceLen (X x), sliceLen (X y) with
    | some n, some k =>
      let q := Min.min k n
      if q = 0 then some (.int .i64 0, H) else
      match X x with
      | .slice b off _ _ => (sliceCells H e q (X y)).bind fun xs => (rput fl H b off xs).map fun H' => (.int .i64 q, H')
      | _ => none
    | _, _ => none
  | .clear _ zero x =>
    match X x with
    | .empty => some (.undef, H)
    | .slice b off n _ => if n = 0 then some (.undef, H) else (rput fl H b off (zeros n zero)).map fun H' => (.undef, H')
    | _ => none
  | .min x ys =>
    match X x with
    | .int k a => (minI k a (ys.map X)).map fun v => (v, H)
    | _ => none
  | .max x ys =>
    match X x with
    | .int k a => (maxI k a (ys.map X)).map fun v => (v, H)
    | _ => none
  | .tomb e x => some (.agg (X x).cells, H ++ [{ cells := [], e, live := false, clean := false }])
  | .upd n off x v =>
    match X x with
    | .agg cs => if (X v).cells.length = n ∧ off + (X v).cells.length ≤ cs.length ∧ (X v).cells.all AV.scalar = true then some (.agg (splice cs off (X v).cells), H) else none
    | _ => none

/-- slices.Insert: the old block is given up if it is full, written in place if not. -/
def rinsert (fl e bytes : Nat) (H : Heap) (s : AV) (i : Int) (v : AV) : Option (AV × Heap) :=
  match v with
  | .slice vb _ m _ =>
    match sliceCells H e m v, H.blk vb with
    | some xs, some _ =>
      if 0 < m ∧ 0 < e ∧ fl ≤ vb then
        match s with
        | .empty => if i = 0 ∧ m * bytes ≤ 2 ^ 46 ∧ m < 2 ^ 40 then some (.slice H.length 0 m none, H ++ [{ cells := xs, e }]) else none
        | .slice b off n none =>
          match H.blk b with
          | some k =>
            if fl ≤ b ∧ b ≠ vb ∧ k.e = e ∧ 0 ≤ i ∧ i ≤ n ∧ off + n * e ≤ k.cells.length ∧ xs.all AV.scalar = true ∧ ((k.cells.drop (off + i.toNat * e)).take ((n - i.toNat) * e)).all AV.scalar = true ∧ (n + m + (n + m) / 4 + 192) * bytes ≤ 2 ^ 46 ∧ n + m < 2 ^ 40 then
              if off + n * e = k.cells.length then
                some (.slice H.length 0 (n + m) none, H.set b { cells := [], e, live := false, clean := false } ++ [{ cells := (k.cells.drop off).take (i.toNat * e) ++ xs ++ k.cells.drop (off + i.toNat * e), e }])
              else
                (rput fl H b (off + (i.toNat + m) * e) ((k.cells.drop (off + i.toNat * e)).take ((n - i.toNat) * e))).bind fun H1 => (rput fl H1 b (off + i.toNat * e) xs).map fun H' => (.slice b off (n + m) none, H')
            else none
          | none => none
        | _ => none
      else none
    | _, _ => none
  | _ => none

/-- slices.Clone: of nothing nothing (nil, or of no elements). -/
def rclone (e bytes : Nat) (H : Heap) (s : AV) : Option (AV × Heap) :=
  match sliceLen s with
  | none => none
  | some n =>
    if n = 0 then some (.empty, H)
    else if 0 < e ∧ n * bytes ≤ 2 ^ 46 ∧ n < 2 ^ 40 then (sliceCells H e n s).map fun xs => (.slice H.length 0 n none, H ++ [{ cells := xs, e }])
    else none

def rprim (p : Prim) (fl : Nat) (args : List AV) (H : Heap) : Option (AV × Heap) :=
  match p, args with
  | .insert e bytes, [s, .int .i64 i, v] => rinsert fl e bytes H s i v
  | .clone e bytes, [s] => rclone e bytes H s
  | _, _ => none

/-! ### Regions, code, calls -/

def wantedB (g : Option (Nat × Bool)) (L : List AV) : Bool :=
  match g with
  | none => true
  | some (j, want) =>
    match L[j]? with
    | some (.bool b) => b == want
    | _ => false

def rops (call : Nat → Nat → List AV → Heap → Option (AV × Heap)) (fl : Nat) (E : List AV) : List ROper → List AV → Heap → Option (List AV × Heap)
  | [], L, H => some (L, H)
  | o :: l, L, H =>
    if wantedB o.guard L then
      match rop call fl o.free (RX.ev L E) H o.op with
      | some (v, H') => rops call fl E l (L ++ [v]) H'
      | none => none
    else rops call fl E l (L ++ [.undef]) H

def putDst (d : Option Nat) (v : AV) (E : List AV) : List AV :=
  match d with
  | some x => E.set x v
  | none => E

def putAll : List ROper → List AV → List AV → List AV
  | o :: l, v :: L, E => putAll l L (putDst o.dst v E)
  | _, _, E => E

def resOf (E : List AV) (H : Heap) : RRes → Option AV
  | .var x => some (E.getD x .undef)
  | .cell x sz =>
    match E.getD x .undef with
    | .ptr b off => rload H sz b off
    | _ => none
  | .part x sz =>
    match E.getD x .undef with
    | .agg cs => rpart sz cs 0
    | _ => none

def resAll (E : List AV) (H : Heap) : List RRes → Option (List AV)
  | [] => some []
  | r :: l =>
    match resOf E H r with
    | some v => (resAll E H l).map (v :: ·)
    | none => none

def resVal : List AV → AV
  | [v] => v
  | vs => .tuple vs

mutual
def rexec (F : Nat → Option RFunc) : Nat → Nat → RCode → List AV → Heap → Option (Out × List AV × Heap)
  | 0, _, _, _, _ => none
  | n + 1, fl, c, E, H =>
    match c with
    | .fail => none
    | .skip => some (.normal, E, H)
    | .ops l => (rops (rcall F n) fl E l [] H).map fun x => (.normal, putAll l x.1 E, x.2)
    | .seq a b =>
      match rexec F n fl a E H with
      | some (.normal, E', H') => rexec F n fl b E' H'
      | r => r
    | .cond x a b =>
      match x.ev [] E with
      | .bool true => rexec F n fl a E H
      | .bool false => rexec F n fl b E H
      | _ => none
    | .block id c =>
      match rexec F n fl c E H with
      | some (.exit id', E', H') => if id' = id then some (.normal, E', H') else some (.exit id', E', H')
      | r => r
    | .loop c =>
      match rexec F n fl c E H with
      | some (.normal, E', H') => rexec F n fl (.loop c) E' H'
      | r => r
    | .exit id => some (.exit id, E, H)
    | .ret => some (.ret, E, H)
def rcall (F : Nat → Option RFunc) : Nat → Nat → Nat → List AV → Heap → Option (AV × Heap)
  | 0, _, _, _, _ => none
  | n + 1, fl, f, args, H =>
    match F f with
    | none => none
    | some rf =>
      match rf.prim with
      | some p => rprim p fl args H
      | none =>
      if args.length = rf.nargs then
        match rexec F n fl rf.body (args ++ List.replicate (rf.nvars - rf.nargs) .undef) H with
        | some (.normal, E, H') => (resAll E H' rf.res).map fun vs => (resVal vs, H')
        | some (.ret, E, H') => (resAll E H' rf.res).map fun vs => (resVal vs, H')
        | _ => none
      else none
end

end Go.RM

/-
  From the model's code to the abstract machine's: types are looked up, temporaries of one region become its locals, and a region whose order is open is let through only where no order matters.
-/
namespace Go.RM

mutual
def ofConst : Value → Option AV
  | .int k n => some (.int k n)
  | .bool b => some (.bool b)
  | .string s => some (.str s)
  | .pointer none => some .nilptr
  | .slice none 0 0 => some .empty
  | .nilFunc => some .nilfunc
  | .func (.func f) first cap => if first.size = 0 ∧ cap.size = 0 then some (.func f []) else none
  | .agg ⟨cs⟩ => (ofConsts cs).map .agg
  | .tuple ⟨cs⟩ => (ofConsts cs).map .tuple
  | _ => none
def ofConsts : List Value → Option (List AV)
  | [] => some []
  | v :: vs =>
    match ofConst v, ofConsts vs with
    | some a, some l => some (a :: l)
    | _, _ => none
end

def memN (n : Nat) : List Nat → Bool
  | [] => false
  | m :: l => n == m || memN n l
def dedup : List Nat → List Nat → List Nat
  | acc, [] => acc.reverse
  | acc, n :: l => if memN n acc then dedup acc l else dedup (n :: acc) l
def idx (n : Nat) : List Nat → Option Nat
  | [] => none
  | m :: l => if n = m then some 0 else (idx n l).map (· + 1)

/-- The place, in a list of operations from place k on, of one that writes t. -/
def writer (t : Nat) : List Oper → Nat → Option Nat
  | [], _ => none
  | o :: l, k => if o.dst = some t then some k else writer t l (k + 1)

def zeroOf (P : Program) (t : TypeId) : Option (List AV) :=
  match P.info? t with
  | some i => match i.zero with
    | some v => ofConsts v.cells.toList
    | none => none
  | none => none

/-- some (some n): a struct or an array of n cells; some none: one cell. -/
def aggSz (P : Program) (t : TypeId) : Option (Option Nat) :=
  match P.underlying t with
  | some (.struct _) => (P.info? t).map fun i => some i.size
  | some (.array _ _) => (P.info? t).map fun i => some i.size
  | some _ => some none
  | none => none

def szOf (P : Program) (t : TypeId) : Option Nat := (P.info? t).map (·.size)
def bytesOf? (P : Program) (t : TypeId) : Option Nat := (P.info? t).map (·.bytes)

def flatFields (P : Program) : List Field → Nat → Option (List FK)
  | [], _ => some []
  | f :: l, i =>
    if f.offset = i ∧ f.name ≠ "_" then
      match P.underlying f.type, flatFields P l (i + 1) with
      | some (.int _), some r => some (.int :: r)
      | some .bool, some r => some (.bool :: r)
      | some .string, some r => some (.str :: r)
      | _, _ => none
    else none

def flatOk (P : Program) (t : TypeId) : EqCls :=
  match P.underlying t with
  | some (.struct fs) =>
    if P.stoodInHeld t = false ∧ P.eqGuardType P.depth t = false then
      match flatFields P fs.toList 0 with
      | some ks => .agg ks
      | none => .no
    else .no
  | some .bool => .bool
  | _ => .no

def eqClsOf (P : Program) (op : BinOp) (t : TypeId) : EqCls :=
  match op with
  | .eql => flatOk P t
  | .neq => flatOk P t
  | _ => .no

section
variable (P : Program) (res : Operand → Option RX)

def resL : List Operand → Option (List RX)
  | [] => some []
  | x :: l =>
    match res x, resL l with
    | some a, some r => some (a :: r)
    | _, _ => none

def partsStruct (fs : Array Field) : List (Nat × Operand) → Option (List (Nat × Nat × RX))
  | [] => some []
  | (i, x) :: l =>
    match fs[i]? with
    | none => none
    | some f =>
      match szOf P f.type, res x, partsStruct fs l with
      | some n, some a, some r => some ((f.offset, n, a) :: r)
      | _, _, _ => none

def partsRow (size : Nat) : List (Nat × Operand) → Option (List (Nat × Nat × RX))
  | [] => some []
  | (i, x) :: l =>
    match res x, partsRow size l with
    | some a, some r => some ((i * size, size, a) :: r)
    | _, _ => none

def optX : Option Operand → Option (Option RX)
  | none => some none
  | some x => (res x).map some

/-- Every field's type is known (the model looks each up). -/
def fieldsKnown (fs : Array Field) : Bool := fs.toList.all fun f => (P.info? f.type).isSome

def eOf (t : TypeId) : Nat :=
  match P.underlying t with
  | some (.array _ e) => P.cellsOf e
  | _ => 1

def compileBuiltin (b : Builtin) (argTypes : Array TypeId) (args : List Operand) : Option ROp :=
  match b, args with
  | .len, [x] =>
    match argTypes[0]? with
    | some t =>
      match P.underlying t with
      | some .string => (res x).map .lenStr
      | some (.slice _) => (res x).map .len
      | some (.array n _) => some (.move (.k (.int .i64 n)))
      | _ => none
    | none => none
  | .append, [x, y] =>
    match argTypes[0]?, argTypes[1]? with
    | some t, some u =>
      match P.underlying t, P.underlying u with
      | some (.slice e), some (.slice _) =>
        match szOf P e, bytesOf? P e, zeroOf P e, res x, res y with
        | some n, some b, some z, some a, some c => if 0 < n ∧ 0 < b ∧ z.length = n then some (.append n b a c) else none
        | _, _, _, _, _ => none
      | _, _ => none
    | _, _ => none
  | .copy, [x, y] =>
    match argTypes[0]? with
    | some t =>
      match P.underlying t with
      | some (.slice e) =>
        match szOf P e, res x, res y with
        | some n, some a, some c => if 0 < n then some (.copy n a c) else none
        | _, _, _ => none
      | _ => none
    | none => none
  | .clear, [x] =>
    match argTypes[0]? with
    | some t =>
      match P.underlying t with
      | some (.slice e) =>
        match szOf P e, zeroOf P e, res x with
        | some n, some z, some a => if 0 < n ∧ z.length = n then some (.clear n z a) else none
        | _, _, _ => none
      | _ => none
    | none => none
  | .min, x :: ys =>
    match res x, resL res ys with
    | some a, some l => some (.min a l)
    | _, _ => none
  | .max, x :: ys =>
    match res x, resL res ys with
    | some a, some l => some (.max a l)
    | _, _ => none
  | _, _ => none

def compileOp (ap : List RX) (op : Op) : Option ROp :=
  match op with
  | .move x => (res x).map .move
  | .assign x => (res x).map .move
  | .pick c a b =>
    match res c, res a, res b with
    | some c, some a, some b => some (.pick c a b)
    | _, _, _ => none
  | .alloc t => (zeroOf P t).map fun z => .alloc (eOf P t) z
  | .box t x => (res x).map fun a => .box (eOf P t) a
  | .build t parts =>
    match P.underlying t with
    | some (.struct fs) =>
      if fieldsKnown P fs then
        match zeroOf P t, partsStruct P res fs parts.toList with
        | some z, some ps => some (.build z ps)
        | _, _ => none
      else none
    | some (.array _ e) =>
      match szOf P e, zeroOf P t with
      | some n, some z => (partsRow res n parts.toList).map fun ps => .build z ps
      | _, _ => none
    | _ => none
  | .buildSlice t len parts =>
    match P.underlying t with
    | some (.slice e) =>
      match szOf P e, zeroOf P e, partsRow res (P.cellsOf e) parts.toList with
      | some n, some z, some ps => if 0 < n ∧ z.length = n ∧ len * n ≤ 2 ^ 24 then some (.buildSlice n z ps len) else none
      | _, _, _ => none
    | _ => none
  | .load t x =>
    match aggSz P t, res x with
    | some sz, some a => some (.load sz a)
    | _, _ => none
  | .store t x v =>
    match szOf P t, res x, res v with
    | some n, some a, some b => some (.store n a b ap)
    | _, _, _ => none
  | .nilCheck x => (res x).map .nilCheck
  | .binOp op t x y _ =>
    match res x, res y with
    | some a, some b => some (.bin op (eqClsOf P op t) a b)
    | _, _ => none
  | .unOp op _ x => (res x).map fun a => .un op a
  | .convert src dst x =>
    match P.underlying src, P.underlying dst, res x with
    | some (.int _), some (.int k), some a => some (.convInt k a)
    | _, _, _ => none
  | .makeFunc (.func f) first captured => if first.size = 0 then (resL res captured.toList).map fun l => .makeFunc f l else none
  | .makeSlice t l c =>
    match P.underlying t with
    | some (.slice e) =>
      match szOf P e, bytesOf? P e, zeroOf P e, res l, res c with
      | some n, some b, some z, some x, some y => if 0 < n ∧ z.length = n then some (.makeSlice n b z x y) else none
      | _, _, _, _, _ => none
    | _ => none
  | .slice t x lo hi mx =>
    match P.underlying t, res x, optX res lo, optX res hi, optX res mx with
    | some (.slice e), some a, some l, some h, some m => if m.isSome && h.isNone then none else (szOf P e).map fun n => .slice n a l h m
    | some .string, some a, some l, some h, some none => some (.sliceStr a l h)
    | _, _, _, _, _ => none
  | .fieldAddr s x f =>
    match P.underlying s with
    | some (.struct fs) =>
      match fs[f]? with
      | some fd =>
        match szOf P fd.type, res x with
        | some n, some a => if 0 < n then some (.fieldAddr fd.offset a) else none
        | _, _ => none
      | none => none
    | _ => none
  | .field t x f =>
    match P.underlying t with
    | some (.struct fs) =>
      match fs[f]? with
      | some fd =>
        match aggSz P fd.type, res x with
        | some sz, some a => some (.field fd.offset sz a)
        | _, _ => none
      | none => none
    | _ => none
  | .indexAddr t x i =>
    match P.underlying t with
    | some (.slice e) =>
      match szOf P e, res x, res i with
      | some n, some a, some j => some (.indexAddr n a j)
      | _, _, _ => none
    | some (.array len e) =>
      match szOf P e, res x, res i with
      | some n, some a, some j => some (.indexArr len n a j)
      | _, _, _ => none
    | _ => none
  | .index t x i =>
    match P.underlying t with
    | some .string =>
      match res x, res i with
      | some a, some j => some (.indexStr a j)
      | _, _ => none
    | some (.array len e) =>
      match szOf P e, aggSz P e, res x, res i with
      | some n, some sz, some a, some j => some (.indexAgg len n sz a j)
      | _, _, _, _ => none
    | _ => none
  | .extract x i => (res x).map fun a => .extract a i
  | .call c =>
    match c.callee with
    | .value (.func f) => (resL res c.args.toList).map fun l => .callS f l
    | .value x =>
      match res x, resL res c.args.toList with
      | some a, some l => some (.call a l)
      | _, _ => none
    | .builtin b => compileBuiltin P res b c.argTypes c.args.toList
    | .invoke _ _ => none
  | _ => none

end

/-- Touches the heap (reads, makes or writes it). -/
def touches : Op → Bool
  | .alloc _ | .box .. | .buildSlice .. | .load .. | .store .. | .makeSlice .. => true
  | .call { callee := .builtin b, .. } => (match b with | .len => false | .min => false | .max => false | _ => true)
  | .call _ => true
  | .slice _ _ lo hi mx => lo.isSome && hi.isSome && mx.isNone
  | _ => false

def isLoad : Op → Bool
  | .load .. => true
  | _ => false
def isStore : Op → Bool
  | .store .. => true
  | _ => false

/-- Writes it whatever it is handed (a store apart). -/
def mustWrite : Op → Bool
  | .call { callee := .builtin b, .. } => (match b with | .copy => true | .clear => true | _ => false)
  | _ => false

/-- Which operations come before each, as bits: the edges that always bind, closed. -/
def ancs (acc : List Nat) : List Oper → List Nat
  | [] => acc
  | o :: l => ancs (acc ++ [o.after.toList.foldl (fun s e => if Region.binds .any e then s ||| 2 ^ e.on ||| acc.getD e.on 0 else s) 0]) l

def preB (draw : Bool) (A : List Nat) (j i : Nat) : Bool := if draw then (A.getD i 0).testBit j else decide (j < i)

/-- Are two operations ordered by what must come before? -/
def ordB (draw : Bool) (A : List Nat) (i j : Nat) : Bool := if j < i then preB draw A j i else preB draw A i j

/-- Is operation i ordered against all others that touch the heap? -/
def freeAt (draw : Bool) (A : List Nat) (all : List Oper) (i : Nat) : Bool :=
  all.zipIdx.all fun (o, j) => j == i || !touches o.op || ordB draw A i j

/-- An operand: a local where an operation that must come before writes it; a variable where nothing in the region does, or only what must come behind. -/
def resAt (vars : List Nat) (draw : Bool) (A : List Nat) (all : List Oper) (i : Nat) : Operand → Option RX
  | .tmp t =>
    match writer t all 0 with
    | some j =>
      if j < i then (if preB draw A j i then some (.loc j) else none)
      else if j = i ∨ preB draw A i j = true then (idx t vars).map .var else none
    | none => (idx t vars).map .var
  | .const v => (ofConst v).map .k
  | .func f => some (.k (.func f []))
  | .global _ => none

/-- The variable at whose place an address points: its own, or that of a field of it. -/
def baseOf (vars : List Nat) (draw : Bool) (A : List Nat) (all : List Oper) (j : Nat) (x : Operand) : Option Nat :=
  match resAt vars draw A all j x with
  | some (.var y) => some y
  | some (.loc k) =>
    match all[k]? with
    | some o =>
      match o.op with
      | .fieldAddr _ x' _ => (match resAt vars draw A all k x' with | some (.var y) => some y | _ => none)
      | _ => none
    | none => none
  | _ => none

def RX.isVar (y : Nat) : RX → Bool
  | .var z => z == y
  | _ => false

/-- The places that loads read which a store is not ordered against: each must be a variable's; none: the store cannot be let through. -/
def apartOf (vars : List Nat) (draw : Bool) (A : List Nat) (all : List Oper) (i : Nat) : List Oper → Nat → Option (List RX)
  | [], _ => some []
  | o :: l, j =>
    match apartOf vars draw A all i l (j + 1) with
    | none => none
    | some r =>
      if j == i || !touches o.op || ordB draw A i j then some r
      else match o.op with
        | .load _ x => (match baseOf vars draw A all j x with | some y => some (if r.any (RX.isVar y) then r else .var y :: r) | none => none)
        | _ => none

def lsOnly (all : List Oper) : Bool := all.all fun o => !touches o.op || isLoad o.op || isStore o.op

def tmpsOf (op : Op) : List Nat := op.operands.toList.filterMap fun | .tmp t => some t | _ => none

def compileOper (P : Program) (vars : List Nat) (nt : Nat) (draw : Bool) (A : List Nat) (all : List Oper) (i : Nat) (o : Oper) : Option ROper :=
  match (if isStore o.op then apartOf vars draw A all i all 0 else some []) with
  | none => none
  | some ap =>
  match compileOp P (resAt vars draw A all i) ap o.op with
  | none => some { op := .fail, guard := none, dst := none, free := false }
  | some r =>
    if (match o.dst with | some d => decide (d < nt) && (writer d all 0 == some i) | none => true) &&
      (match o.guard with | some (g, _) => decide (g < i) && preB draw A g i && ((all[g]?).bind (·.dst)).isSome | none => true) &&
      (!mustWrite o.op || freeAt draw A all i) && (ap.isEmpty || lsOnly all)
    then some { op := r, guard := o.guard, dst := o.dst.bind (idx · vars), free := freeAt draw A all i }
    else none

def compileOpers (P : Program) (vars : List Nat) (nt : Nat) (draw : Bool) (A : List Nat) (all : List Oper) : List Oper → Nat → Option (List ROper)
  | [], _ => some []
  | o :: l, i =>
    match compileOper P vars nt draw A all i o, compileOpers P vars nt draw A all l (i + 1) with
    | some r, some rs => some (r :: rs)
    | _, _ => none

/-- Edges that bind point back. -/
def edgesB : List Oper → Nat → Bool
  | [], _ => true
  | o :: l, i => (o.after.toList.all fun e => !Region.binds .any e || decide (e.on < i)) && edgesB l (i + 1)

def compileRegion (P : Program) (vars : List Nat) (nt : Nat) (draw : Bool) (ops : List Oper) : RCode :=
  match compileOpers P vars nt draw (ancs [] ops) ops ops 0 with
  | some l => if !draw || edgesB ops 0 then .ops l else .fail
  | none => .fail

def compileCode (P : Program) (vars : List Nat) (nt : Nat) : Code → RCode
  | .skip => .skip
  | .region _ ops draw => compileRegion P vars nt draw ops.toList
  | .seq a b => .seq (compileCode P vars nt a) (compileCode P vars nt b)
  | .cond c a b =>
    match resAt vars false [] [] 0 c with
    | some x => .cond x (compileCode P vars nt a) (compileCode P vars nt b)
    | none => .fail
  | .block id c => .block id (compileCode P vars nt c)
  | .loop c => .loop (compileCode P vars nt c)
  | .exit id => .exit id
  | .ret => .ret
  | _ => .fail

def freeReads : List Oper → List Nat → List Nat
  | [], _ => []
  | o :: l, defd => (tmpsOf o.op).filter (fun t => !memN t defd) ++ freeReads l (match o.dst with | some d => d :: defd | none => defd)

def persist : Code → List Nat
  | .region _ ops _ => freeReads ops.toList []
  | .seq a b => persist a ++ persist b
  | .cond c a b => (match c with | .tmp t => [t] | _ => []) ++ persist a ++ persist b
  | .block _ c => persist c
  | .loop c => persist c
  | _ => []

def resTmp : ResultVar → Nat
  | .tmp t => t
  | .cell t _ => t

def compileRes (P : Program) (vars : List Nat) : ResultVar → Option RRes
  | .tmp t => (idx t vars).map .var
  | .cell t ty =>
    match idx t vars, aggSz P ty with
    | some x, some sz => some (.cell x sz)
    | _, _ => none

def compileResL (P : Program) (vars : List Nat) : List ResultVar → Option (List RRes)
  | [] => some []
  | r :: l =>
    match compileRes P vars r, compileResL P vars l with
    | some a, some b => some (a :: b)
    | _, _ => none

def nodupB : List Nat → Bool
  | [] => true
  | n :: l => !memN n l && nodupB l

def varsOf (fn : Func) (c : Code) : List Nat :=
  dedup [] (List.range (fn.params.size + fn.nfree) ++ fn.results.toList.map resTmp ++ persist c)

def compileFunc (P : Program) (fn : Func) : Option RFunc :=
  match fn.body with
  | none => none
  | some c =>
    let vars := varsOf fn c
    let na := fn.params.size + fn.nfree
    match compileResL P vars fn.results.toList with
    | some res =>
      if fn.name != "runtime.NumGoroutine" && nodupB vars && vars.all (· < fn.ntmps) && decide (vars.take na = List.range na) then
        some { nargs := na, nvars := vars.length, res, body := compileCode P vars fn.ntmps c }
      else none
    | none => none

/-- The functions, but for those that are known as a whole. -/
def table (P : Program) (pr : Nat → Option Prim) (f : Nat) : Option RFunc :=
  match pr f with
  | some p => some { nargs := 0, nvars := 0, res := [], body := .fail, prim := some p }
  | none => (P.funcs[f]?).bind (compileFunc P)

def noPrims : Nat → Option Prim := fun _ => none

end Go.RM

/-
  How the abstract machine's values and heap stand to the model's: the relation of values, and of heaps.
-/
namespace Go.RM

/-- Where a block lies: block and first cell; how many cells are its own; cells an element. -/
structure Loc where
  cb : Nat
  co : Nat
  room : Nat
  e : Nat

abbrev BMap := Nat → Option Loc

def capOk (l : Loc) (off cap : Nat) : Option Nat → Prop
  | none => off + cap * l.e = l.room
  | some c => cap = c ∧ off + c * l.e ≤ l.room

def SlOk (m : BMap) (b off n : Nat) (lim : Option Nat) (a : Option Addr) (cap : Nat) : Prop :=
  n ≤ cap ∧ ∃ l, m b = some l ∧ capOk l off cap lim ∧ (a = some ⟨l.cb, l.co + off, none⟩ ∨ cap = 0)

mutual
def VRel (m : BMap) : AV → Value → Prop
  | .int k n, v => v = .int k n
  | .bool b, v => v = .bool b
  | .str s, v => v = .string s
  | .ptr b off, v => ∃ l, m b = some l ∧ v = .pointer (some ⟨l.cb, l.co + off, none⟩)
  | .nilptr, v => v = .pointer none
  | .slice b off n lim, v => ∃ a cap, v = .slice a n cap ∧ SlOk m b off n lim a cap
  | .empty, v => ∃ a, v = .slice a 0 0
  | .func f caps, v => ∃ cs, v = .func (.func f) #[] ⟨cs⟩ ∧ VRels m caps cs
  | .nilfunc, v => v = .nilFunc
  | .agg cs, v => ∃ vs, v = .agg ⟨vs⟩ ∧ VRels m cs vs
  | .tuple cs, v => ∃ vs, v = .tuple ⟨vs⟩ ∧ VRels m cs vs
def VRels (m : BMap) : List AV → List Value → Prop
  | [], [] => True
  | a :: asx, v :: vs => VRel m a v ∧ VRels m asx vs
  | _, _ => False
end

def Ext (m m' : BMap) : Prop := ∀ b l, m b = some l → m' b = some l
theorem Ext.refl (m : BMap) : Ext m m := fun _ _ h => h
theorem Ext.trans {a b c : BMap} (h : Ext a b) (k : Ext b c) : Ext a c := fun x l hx => k x l (h x l hx)

theorem SlOk.mono {m m' : BMap} (h : Ext m m') {b off n : Nat} {lim : Option Nat} {a : Option Addr} {cap : Nat} (s : SlOk m b off n lim a cap) : SlOk m' b off n lim a cap :=
  ⟨s.1, let ⟨l, h1, h2, h3⟩ := s.2; ⟨l, h _ _ h1, h2, h3⟩⟩

mutual
theorem VRel.mono {m m' : BMap} (h : Ext m m') : ∀ {a : AV} {v : Value}, VRel m a v → VRel m' a v
  | .int .., _, r => r
  | .bool _, _, r => r
  | .str _, _, r => r
  | .ptr .., _, ⟨l, h1, h2⟩ => ⟨l, h _ _ h1, h2⟩
  | .nilptr, _, r => r
  | .slice .., _, ⟨a, cap, h1, h2⟩ => ⟨a, cap, h1, h2.mono h⟩
  | .empty, _, r => r
  | .func _ _, _, ⟨cs, h1, h2⟩ => ⟨cs, h1, VRels.mono h h2⟩
  | .nilfunc, _, r => r
  | .agg _, _, ⟨cs, h1, h2⟩ => ⟨cs, h1, VRels.mono h h2⟩
  | .tuple _, _, ⟨cs, h1, h2⟩ => ⟨cs, h1, VRels.mono h h2⟩
theorem VRels.mono {m m' : BMap} (h : Ext m m') : ∀ {asx : List AV} {vs : List Value}, VRels m asx vs → VRels m' asx vs
  | [], [], _ => trivial
  | _ :: _, _ :: _, ⟨h1, h2⟩ => ⟨VRel.mono h h1, VRels.mono h h2⟩
end

theorem VRels.length {m : BMap} : ∀ {asx : List AV} {vs : List Value}, VRels m asx vs → asx.length = vs.length
  | [], [], _ => rfl
  | _ :: _, _ :: _, ⟨_, h2⟩ => by simp [VRels.length h2]

theorem VRels.get {m : BMap} : ∀ {asx : List AV} {vs : List Value}, VRels m asx vs → ∀ (i : Nat) (a : AV), asx[i]? = some a → ∃ v, vs[i]? = some v ∧ VRel m a v
  | _ :: _, v :: _, ⟨h1, _⟩, 0, a, h => by
    simp at h; subst h; exact ⟨v, rfl, h1⟩
  | _ :: asx, _ :: vs, ⟨_, h2⟩, i + 1, a, h => by
    obtain ⟨v, e, r⟩ := VRels.get h2 i a (by simpa using h)
    exact ⟨v, by simpa using e, r⟩

theorem VRels.of {m : BMap} : ∀ {asx : List AV} {vs : List Value}, asx.length = vs.length → (∀ (i : Nat) (a : AV) (v : Value), asx[i]? = some a → vs[i]? = some v → VRel m a v) → VRels m asx vs
  | [], [], _, _ => trivial
  | a :: asx, v :: vs, h, k => ⟨k 0 a v rfl rfl, VRels.of (by simpa using h) fun i x y hx hy => k (i + 1) x y (by simpa using hx) (by simpa using hy)⟩
  | [], _ :: _, h, _ => by simp at h
  | _ :: _, [], h, _ => by simp at h

theorem VRels.append {m : BMap} : ∀ {asx bs : List AV} {vs ws : List Value}, VRels m asx vs → VRels m bs ws → VRels m (asx ++ bs) (vs ++ ws)
  | [], _, [], _, _, h => h
  | _ :: _, _, _ :: _, _, ⟨h1, h2⟩, h => ⟨h1, VRels.append h2 h⟩

theorem VRels.drop {m : BMap} : ∀ {asx : List AV} {vs : List Value} (n : Nat), VRels m asx vs → VRels m (asx.drop n) (vs.drop n)
  | asx, vs, 0, h => by simpa using h
  | [], [], n + 1, _ => by simp [VRels]
  | _ :: _, _ :: _, n + 1, ⟨_, h2⟩ => by simpa using VRels.drop n h2

theorem VRels.take {m : BMap} : ∀ {asx : List AV} {vs : List Value} (n : Nat), VRels m asx vs → VRels m (asx.take n) (vs.take n)
  | _, _, 0, _ => by simp [VRels]
  | [], [], n + 1, _ => by simp [VRels]
  | _ :: _, _ :: _, n + 1, ⟨h1, h2⟩ => by simpa [VRels] using ⟨h1, VRels.take n h2⟩

theorem VRels.replicate {m : BMap} {a : AV} {v : Value} (h : VRel m a v) : ∀ n, VRels m (List.replicate n a) (List.replicate n v)
  | 0 => trivial
  | n + 1 => by rw [List.replicate_succ, List.replicate_succ]; exact ⟨h, VRels.replicate h n⟩

theorem VRels.flatten {m : BMap} {zero : List AV} {vs : List Value} (h : VRels m zero vs) : ∀ n, VRels m (zeros n zero) ((List.replicate n vs).flatten)
  | 0 => trivial
  | n + 1 => by
    have ih := VRels.flatten h n
    unfold zeros at ih ⊢
    rw [List.replicate_succ, List.replicate_succ, List.flatten_cons, List.flatten_cons]
    exact VRels.append h ih

theorem VRels.splice {m : BMap} {asx cs : List AV} {vs ws : List Value} (h : VRels m asx vs) (k : VRels m cs ws) (off : Nat) :
    VRels m (splice asx off cs) (vs.take off ++ ws ++ vs.drop (off + ws.length)) := by
  unfold RM.splice
  rw [← k.length]
  exact VRels.append (VRels.append (h.take _) k) (h.drop _)

theorem VRel.undef (m : BMap) : VRel m .undef Go.undef := ⟨[], rfl, trivial⟩

mutual
theorem ofConst_rel (m : BMap) : ∀ {v : Value} {a : AV}, ofConst v = some a → VRel m a v
  | .int k n, a, h => by simp only [ofConst, Option.some.injEq] at h; subst h; rfl
  | .bool b, a, h => by simp only [ofConst, Option.some.injEq] at h; subst h; rfl
  | .string b, a, h => by simp only [ofConst, Option.some.injEq] at h; subst h; rfl
  | .pointer none, a, h => by simp only [ofConst, Option.some.injEq] at h; subst h; rfl
  | .pointer (some _), a, h => by simp [ofConst] at h
  | .nilFunc, a, h => by simp only [ofConst, Option.some.injEq] at h; subst h; rfl
  | .slice none 0 0, a, h => by simp only [ofConst, Option.some.injEq] at h; subst h; exact ⟨none, rfl⟩
  | .slice none 0 (_ + 1), a, h => by simp [ofConst] at h
  | .slice none (_ + 1) _, a, h => by simp [ofConst] at h
  | .slice (some _) _ _, a, h => by simp [ofConst] at h
  | .func (.func f) ⟨first⟩ ⟨cap⟩, a, h => by
    simp only [ofConst, List.size_toArray] at h
    split at h
    · rename_i hc
      simp only [Option.some.injEq] at h; subst h
      have h1 : first = [] := List.eq_nil_of_length_eq_zero hc.1
      have h2 : cap = [] := List.eq_nil_of_length_eq_zero hc.2
      subst h1; subst h2
      exact ⟨[], rfl, trivial⟩
    · simp at h
  | .func (.method _) _ _, a, h => by simp [ofConst] at h
  | .func (.methodOf _ _) _ _, a, h => by simp [ofConst] at h
  | .func (.via ..) _ _, a, h => by simp [ofConst] at h
  | .func (.yield _) _ _, a, h => by simp [ofConst] at h
  | .agg ⟨cs⟩, a, h => by
    simp only [ofConst, Option.map_eq_some_iff] at h
    obtain ⟨l, hl, rfl⟩ := h
    exact ⟨cs, rfl, ofConsts_rel m hl⟩
  | .tuple ⟨cs⟩, a, h => by
    simp only [ofConst, Option.map_eq_some_iff] at h
    obtain ⟨l, hl, rfl⟩ := h
    exact ⟨cs, rfl, ofConsts_rel m hl⟩
  | .float .., a, h => by simp [ofConst] at h
  | .complex .., a, h => by simp [ofConst] at h
  | .map _, a, h => by simp [ofConst] at h
  | .chan _, a, h => by simp [ofConst] at h
  | .iface .., a, h => by simp [ofConst] at h
  | .nilIface, a, h => by simp [ofConst] at h
theorem ofConsts_rel (m : BMap) : ∀ {vs : List Value} {asx : List AV}, ofConsts vs = some asx → VRels m asx vs
  | [], asx, h => by simp only [ofConsts, Option.some.injEq] at h; subst h; trivial
  | v :: vs, asx, h => by
    simp only [ofConsts] at h
    split at h
    · rename_i a l h1 h2
      simp only [Option.some.injEq] at h; subst h
      exact ⟨ofConst_rel m h1, ofConsts_rel m h2⟩
    · simp at h
end

theorem VRel.cells {m : BMap} {a : AV} {v : Value} (h : VRel m a v) : VRels m a.cells v.cells.toList := by
  cases a with
  | agg cs => obtain ⟨vs, rfl, r⟩ := h; exact r
  | int k n => cases h; exact ⟨rfl, trivial⟩
  | bool b => cases h; exact ⟨rfl, trivial⟩
  | str s => cases h; exact ⟨rfl, trivial⟩
  | ptr b o => obtain ⟨l, h1, rfl⟩ := h; exact ⟨⟨l, h1, rfl⟩, trivial⟩
  | nilptr => cases h; exact ⟨rfl, trivial⟩
  | slice b o n l => obtain ⟨x, c, rfl, r⟩ := h; exact ⟨⟨x, c, rfl, r⟩, trivial⟩
  | empty => obtain ⟨x, rfl⟩ := h; exact ⟨⟨x, rfl⟩, trivial⟩
  | func f c => obtain ⟨x, rfl, r⟩ := h; exact ⟨⟨x, rfl, r⟩, trivial⟩
  | nilfunc => cases h; exact ⟨rfl, trivial⟩
  | tuple cs => obtain ⟨x, rfl, r⟩ := h; exact ⟨⟨x, rfl, r⟩, trivial⟩

theorem VRel.oneCell {m : BMap} {a : AV} {v : Value} (h : VRel m a v) (hs : a.scalar = true) : v.oneCell' = true := by
  cases a with
  | agg cs => simp [AV.scalar] at hs
  | tuple cs => simp [AV.scalar] at hs
  | int k n => cases h; rfl
  | bool b => cases h; rfl
  | str s => cases h; rfl
  | ptr b o => obtain ⟨l, h1, rfl⟩ := h; rfl
  | nilptr => cases h; rfl
  | slice b o n l => obtain ⟨x, c, rfl, r⟩ := h; rfl
  | empty => obtain ⟨x, rfl⟩ := h; rfl
  | func f c => obtain ⟨x, rfl, r⟩ := h; rfl
  | nilfunc => cases h; rfl

theorem VRels.oneCells {m : BMap} : ∀ {asx : List AV} {vs : List Value}, VRels m asx vs → asx.all AV.scalar = true → ∀ v ∈ vs, v.oneCell' = true
  | [], [], _, _, v, h => by simp at h
  | a :: asx, w :: vs, ⟨h1, h2⟩, hs, v, h => by
    simp only [List.all_cons, Bool.and_eq_true] at hs
    rcases List.mem_cons.1 h with rfl | h
    · exact h1.oneCell hs.1
    · exact VRels.oneCells h2 hs.2 v h

/-! ### Heaps -/

def CellsAt (m : BMap) (w : World) (l : Loc) (cs : List AV) : Prop := ∀ (j : Nat) (v : AV), cs[j]? = some v → ∃ cv, w.cell? ⟨l.cb, l.co + j, none⟩ = some cv ∧ VRel m v cv

structure Room (w : World) (l : Loc) : Prop where
  cell : ∀ j, j < l.room → (w.cell? ⟨l.cb, l.co + j, none⟩).isSome = true
  soft : ∀ j, w.frozen? ⟨l.cb, l.co + j, none⟩ = false
theorem Room.at {w : World} {l : Loc} (h : Room w l) (j : Nat) (hj : j < l.room) : (w.cell? ⟨l.cb, l.co + j, none⟩).isSome = true ∧ w.frozen? ⟨l.cb, l.co + j, none⟩ = false := ⟨h.cell j hj, h.soft j⟩

/-- Two blocks may lie in one row: the one is given up, the other its replacement. -/
def KidOf (k : Blk) (l : Loc) (b' : Nat) (k' : Blk) (l' : Loc) : Prop := k.live = false ∧ k.kid = some b' ∧ l.co + k.cells.length ≤ l'.co + k'.cells.length

structure Sim (n0 base : Nat) (m : BMap) (H : Heap) (w : World) : Prop where
  size : base ≤ w.heap.size
  low : n0 ≤ H.length
  kids : ∀ (b c : Nat) (k : Blk), H[b]? = some k → k.kid = some c → c < H.length
  es : ∀ (b : Nat) (k : Blk) (l : Loc), H[b]? = some k → m b = some l → l.e = k.e
  cells : ∀ b k l, H.act b = some k → m b = some l → l.e = k.e ∧ k.cells.length ≤ l.room ∧ CellsAt m w l k.cells
  ro : ∀ b l, b < n0 → m b = some l → l.cb < base
  own : ∀ b k l, n0 ≤ b → H.act b = some k → m b = some l → base ≤ l.cb ∧ l.cb < w.heap.size ∧ Room w l
  inj : ∀ b b' k k' l l', n0 ≤ b → n0 ≤ b' → H.act b = some k → H.act b' = some k' → m b = some l → m b' = some l' → l.cb = l'.cb → b = b' ∨ KidOf k l b' k' l' ∨ KidOf k' l' b k l

theorem blk_act {H : Heap} {b : Nat} {k : Blk} (h : H.blk b = some k) : H.act b = some k ∧ k.live = true ∧ H[b]? = some k := by
  unfold Heap.blk at h
  split at h
  · rename_i k' hk
    split at h
    · rename_i hl
      cases h
      exact ⟨by simp [Heap.act, hk, hl], hl, hk⟩
    · simp at h
  · simp at h

theorem act_get {H : Heap} {b : Nat} {k : Blk} (h : H.act b = some k) : H[b]? = some k := by
  unfold Heap.act at h
  split at h
  · split at h
    · cases h; assumption
    · simp at h
  · simp at h

theorem act_blk {H : Heap} {b : Nat} {k : Blk} (h : H.act b = some k) (hl : k.live = true) : H.blk b = some k := by
  simp [Heap.blk, act_get h, hl]

/-- What the run may have turned: no block of the world but those that a writable block lies in. -/
def Hit (fl : Nat) (m : BMap) (H : Heap) (c : Nat) : Prop := ∃ b k l, fl ≤ b ∧ H.act b = some k ∧ m b = some l ∧ l.cb = c

structure Step (n0 base fl : Nat) (m : BMap) (H : Heap) (w : World) (m' : BMap) (H' : Heap) (w' : World) : Prop where
  ext : Ext m m'
  new : ∀ b l, m' b = some l → m b = none → H.length ≤ b ∧ b < H'.length
  sim : Sim n0 base m' H' w'
  os : w'.os = w.os
  tape : w'.tape = w.tape
  output : w'.output = w.output
  size : w.heap.size ≤ w'.heap.size
  len : H.length ≤ H'.length
  frame : ∀ c, c < w.heap.size → ¬ Hit fl m H c → w'.heap[c]? = w.heap[c]?
  hits : ∀ c, c < w.heap.size → Hit fl m' H' c → Hit fl m H c

theorem Step.refl {n0 base fl : Nat} {m : BMap} {H : Heap} {w : World} (h : Sim n0 base m H w) : Step n0 base fl m H w m H w :=
  ⟨Ext.refl m, fun b l h1 h2 => by simp [h1] at h2, h, rfl, rfl, rfl, Nat.le_refl _, Nat.le_refl _, fun _ _ _ => rfl, fun _ _ h => h⟩

theorem Step.trans {n0 base fl : Nat} {m1 m2 m3 : BMap} {H1 H2 H3 : Heap} {w1 w2 w3 : World} (a : Step n0 base fl m1 H1 w1 m2 H2 w2) (b : Step n0 base fl m2 H2 w2 m3 H3 w3) :
    Step n0 base fl m1 H1 w1 m3 H3 w3 where
  ext := a.ext.trans b.ext
  new := fun x l h1 h2 => by
    cases h : m2 x with
    | none => have := b.new x l h1 h; have := a.len; omega
    | some l' => have := a.new x l' h h2; have := b.len; omega
  sim := b.sim
  os := b.os.trans a.os
  tape := b.tape.trans a.tape
  output := b.output.trans a.output
  size := Nat.le_trans a.size b.size
  len := Nat.le_trans a.len b.len
  frame := fun c hc hh => by
    rw [b.frame c (Nat.lt_of_lt_of_le hc a.size) (fun h => hh (a.hits c hc h)), a.frame c hc hh]
  hits := fun c hc h => a.hits c hc (b.hits c (Nat.lt_of_lt_of_le hc a.size) h)

end Go.RM

/-
  The three ways in which one operation turns the heap, each a step of the relation: a new block; cells written; a block given up for a longer one.
-/
namespace Go.RM

def upd (m : BMap) (b : Nat) (l : Loc) : BMap := fun x => if x = b then some l else m x
theorem upd_same (m : BMap) (b : Nat) (l : Loc) : upd m b l b = some l := by simp [upd]
theorem upd_ne {m : BMap} {b x : Nat} (l : Loc) (h : x ≠ b) : upd m b l x = m x := by simp [upd, h]
theorem upd_ext {m : BMap} {b : Nat} (l : Loc) (h : m b = none) : Ext m (upd m b l) := fun x k hx => by
  by_cases e : x = b
  · subst e; simp [h] at hx
  · rw [upd_ne l e]; exact hx

theorem act_push_lt {H : Heap} {k : Blk} {x : Nat} (hk : ∀ (b c : Nat) (k : Blk), H[b]? = some k → k.kid = some c → c < H.length) (hx : x < H.length) : Heap.act (H ++ [k]) x = H.act x := by
  unfold Heap.act
  rw [List.getElem?_append_left hx]
  cases h : H[x]? with
  | none => rfl
  | some kx =>
    simp only []
    have : Heap.rev (H ++ [k]) kx = H.rev kx := by
      unfold Heap.rev
      split
      · rfl
      · cases hc : kx.kid with
        | none => rfl
        | some c => simp only []; rw [List.getElem?_append_left (hk x c kx h hc)]
    rw [this]

theorem act_lt {H : Heap} {x : Nat} {k : Blk} (h : H.act x = some k) : x < H.length := by
  have := act_get h
  rcases Nat.lt_or_ge x H.length with h1 | h1
  · exact h1
  · simp [List.getElem?_eq_none h1] at this

theorem act_push {H : Heap} {k kx : Blk} {x : Nat} (hk : ∀ (b c : Nat) (k : Blk), H[b]? = some k → k.kid = some c → c < H.length)
    (h : Heap.act (H ++ [k]) x = some kx) : H.act x = some kx ∨ (x = H.length ∧ kx = k) := by
  have h1 := act_lt h
  simp at h1
  by_cases e : x < H.length
  · left; rw [← act_push_lt hk e]; exact h
  · right
    have : x = H.length := by omega
    subst this
    have h2 := act_get h
    simp at h2
    exact ⟨rfl, h2.symm⟩

theorem act_set {H : Heap} {b x : Nat} {k' kx : Blk} (hl : ∀ k, H[b]? = some k → (k'.live && k'.clean) = true → (k.live && k.clean) = true)
    (h : Heap.act (H.set b k') x = some kx) (hx : x ≠ b) : H.act x = some kx := by
  have hg := act_get h
  rw [List.getElem?_set_ne (by omega)] at hg
  unfold Heap.act at h ⊢
  rw [List.getElem?_set_ne (by omega)] at h
  rw [hg] at h ⊢
  simp only at h ⊢
  by_cases hlv : kx.live = true
  · simp [hlv]
  · simp only [hlv, Bool.false_or] at h ⊢
    split at h
    · rename_i hr
      have hr' : (Heap.rev H kx).isSome = true := by
        unfold Heap.rev at hr ⊢
        simp only [hlv] at hr ⊢
        cases hc : kx.kid with
        | none => simp [hc] at hr
        | some c =>
          simp only [hc] at hr ⊢
          by_cases ec : c = b
          · subst ec
            by_cases hlen : c < H.length
            · rw [List.getElem?_set_self hlen] at hr
              simp only [] at hr
              rw [List.getElem?_eq_getElem hlen]
              simp only []
              by_cases hq : (k'.live && k'.clean) = true
              · have := hl H[c] (List.getElem?_eq_getElem hlen) hq
                simp [this]
              · simp [hq] at hr
            · rw [List.getElem?_eq_none (by simpa using hlen)] at hr
              simp at hr
          · rw [List.getElem?_set_ne (by omega)] at hr
            exact hr
      simp [hr']
    · simp at h

theorem cellsAt_mono {m m' : BMap} {w w' : World} {l : Loc} {cs : List AV} (h : CellsAt m w l cs) (hm : Ext m m')
    (hw : ∀ j, j < cs.length → w'.cell? ⟨l.cb, l.co + j, none⟩ = w.cell? ⟨l.cb, l.co + j, none⟩) : CellsAt m' w' l cs := fun j v hv => by
  obtain ⟨cv, h1, h2⟩ := h j v hv
  have hj : j < cs.length := by
    rcases Nat.lt_or_ge j cs.length with h | h
    · exact h
    · simp [List.getElem?_eq_none h] at hv
  exact ⟨cv, by rw [hw j hj]; exact h1, h2.mono hm⟩

theorem cell_of_heap {w w' : World} {c : Nat} (h : w'.heap[c]? = w.heap[c]?) (off : Nat) : w'.cell? ⟨c, off, none⟩ = w.cell? ⟨c, off, none⟩ := by
  simp only [World.cell?, h]
theorem frozen_of_heap {w w' : World} {c : Nat} (h : w'.heap[c]? = w.heap[c]?) (off : Nat) : w'.frozen? ⟨c, off, none⟩ = w.frozen? ⟨c, off, none⟩ := by
  simp only [World.frozen?, h]

theorem room_of_heap {w w' : World} {l : Loc} (h : w'.heap[l.cb]? = w.heap[l.cb]?) (r : Room w l) : Room w' l := ⟨fun j hj => by rw [cell_of_heap h]; exact r.cell j hj, fun j => by rw [frozen_of_heap h]; exact r.soft j⟩

/-- A new block is laid in the world (it may have been drawn for before). -/
theorem push_step {n0 base fl : Nat} {m : BMap} {H : Heap} {w w1 : World} (hs : Sim n0 base m H w) (hn : m H.length = none)
    {k : Blk} {cs rest : List Value} {t : TypeId} (hk : k.kid = none) (hr : VRels m k.cells cs)
    (h1 : w1.heap = w.heap) (h2 : w1.os = w.os) (h3 : w1.tape = w.tape) (h4 : w1.output = w.output) :
    Step n0 base fl m H w (upd m H.length ⟨w.heap.size, 0, (cs ++ rest).length, k.e⟩) (H ++ [k]) (w1.alloc (.cells (cs ++ rest).toArray t)) := by
  have hext := upd_ext ⟨w.heap.size, 0, (cs ++ rest).length, k.e⟩ hn
  have hold : ∀ c, c < w.heap.size → (w1.alloc (.cells (cs ++ rest).toArray t)).heap[c]? = w.heap[c]? := fun c hc => by
    simp only [World.alloc]
    rw [Array.getElem?_push, if_neg (by rw [h1]; omega), h1]
  have hnewcell : ∀ j v, (cs ++ rest)[j]? = some v → (w1.alloc (.cells (cs ++ rest).toArray t)).cell? ⟨w.heap.size, 0 + j, none⟩ = some v := fun j v hv => by
    have := World.cell?_alloc_new w1 (cs ++ rest).toArray t (0 + j)
    rw [h1] at this
    rw [this]
    simpa using hv
  have hnewfr : ∀ j, (w1.alloc (.cells (cs ++ rest).toArray t)).frozen? ⟨w.heap.size, 0 + j, none⟩ = false := fun j => by
    have := World.frozen?_alloc_new w1 (cs ++ rest).toArray t (0 + j)
    rw [h1] at this
    exact this
  have hsz : (w1.alloc (.cells (cs ++ rest).toArray t)).heap.size = w.heap.size + 1 := by simp [h1]
  have hcb : ∀ b kb lb, n0 ≤ b → H.act b = some kb → m b = some lb → lb.cb < w.heap.size := fun b kb lb hb ha hm => (hs.own b kb lb hb ha hm).2.1
  have hlt : ∀ b kb lb, H.act b = some kb → m b = some lb → lb.cb < w.heap.size := fun b kb lb ha hm => by
    by_cases hb : n0 ≤ b
    · exact hcb b kb lb hb ha hm
    · have := hs.ro b lb (by omega) hm
      have := hs.size
      omega
  refine ⟨hext, ?_, ⟨?_, ?_, ?_, ?_, ?_, ?_, ?_, ?_⟩, h2, h3, h4, by rw [hsz]; omega, by simp, fun c hc _ => hold c hc, ?_⟩
  · intro b l hb hm
    by_cases e : b = H.length
    · subst e; simp
    · rw [upd_ne _ e] at hb; simp [hm] at hb
  · rw [hsz]; have := hs.size; omega
  · simp; have := hs.low; omega
  · intro b c kb hb hc
    by_cases e : b < H.length
    · rw [List.getElem?_append_left e] at hb
      have := hs.kids b c kb hb hc
      simp; omega
    · by_cases e2 : b = H.length
      · subst e2; simp at hb; subst hb; simp [hk] at hc
      · rw [List.getElem?_eq_none (by simp; omega)] at hb; simp at hb
  · intro b kb lb hb hm
    by_cases e : b < H.length
    · rw [List.getElem?_append_left e] at hb
      rw [upd_ne _ (by omega)] at hm
      exact hs.es b kb lb hb hm
    · by_cases e2 : b = H.length
      · subst e2; simp at hb; subst hb; rw [upd_same] at hm; cases hm; rfl
      · rw [List.getElem?_eq_none (by simp; omega)] at hb; simp at hb
  · intro b kb lb ha hm
    rcases act_push hs.kids ha with ha | ⟨rfl, rfl⟩
    · have hb := act_lt ha
      rw [upd_ne _ (by omega)] at hm
      obtain ⟨e1, e2, e3⟩ := hs.cells b kb lb ha hm
      exact ⟨e1, e2, cellsAt_mono e3 hext fun j _ => cell_of_heap (hold _ (hlt b kb lb ha hm)) _⟩
    · rw [upd_same] at hm; cases hm
      refine ⟨rfl, ?_, fun j v hv => ?_⟩
      · simp [hr.length]
      · obtain ⟨cv, c1, c2⟩ := hr.get j v hv
        refine ⟨cv, hnewcell j cv ?_, c2.mono hext⟩
        rw [List.getElem?_append_left]
        · exact c1
        · rcases Nat.lt_or_ge j cs.length with h | h
          · exact h
          · simp [List.getElem?_eq_none h] at c1
  · intro b lb hb hm
    rw [upd_ne _ (by have := hs.low; omega)] at hm
    exact hs.ro b lb hb hm
  · intro b kb lb hb ha hm
    rcases act_push hs.kids ha with ha | ⟨rfl, rfl⟩
    · have hb' := act_lt ha
      rw [upd_ne _ (by omega)] at hm
      obtain ⟨e1, e2, e3⟩ := hs.own b kb lb hb ha hm
      exact ⟨e1, by rw [hsz]; omega, room_of_heap (hold _ e2) e3⟩
    · rw [upd_same] at hm; cases hm
      refine ⟨hs.size, by rw [hsz]; simp, fun j hj => ?_, hnewfr⟩
      rw [hnewcell j _ (List.getElem?_eq_getElem hj)]
      rfl
  · intro b b' kb kb' lb lb' hb hb' ha ha' hm hm' he
    rcases act_push hs.kids ha with ha1 | ⟨e1, e2⟩ <;> rcases act_push hs.kids ha' with ha2 | ⟨e3, e4⟩
    · have h5 := act_lt ha1
      have h6 := act_lt ha2
      rw [upd_ne _ (by omega)] at hm hm'
      exact hs.inj b b' kb kb' lb lb' hb hb' ha1 ha2 hm hm' he
    · have h5 := act_lt ha1
      rw [upd_ne _ (by omega)] at hm
      rw [e3, upd_same] at hm'; cases hm'
      have := hlt b kb lb ha1 hm
      simp at he; omega
    · have h5 := act_lt ha2
      rw [upd_ne _ (by omega)] at hm'
      rw [e1, upd_same] at hm; cases hm
      have := hlt b' kb' lb' ha2 hm'
      simp at he; omega
    · left; rw [e1, e3]
  · rintro c hc ⟨b, kb, lb, hb, ha, hm, rfl⟩
    rcases act_push hs.kids ha with ha | ⟨rfl, rfl⟩
    · have h5 := act_lt ha
      rw [upd_ne _ (by omega)] at hm
      exact ⟨b, kb, lb, hb, ha, hm, rfl⟩
    · rw [upd_same] at hm; cases hm
      simp at hc

theorem setCells_size (b : Nat) : ∀ (vs : List Value) (o : Nat) (w : World), (w.setCells b o vs).heap.size = w.heap.size
  | [], _, _ => rfl
  | v :: r, o, w => by rw [World.setCells, setCells_size b r]; simp
theorem setCells_os (b : Nat) : ∀ (vs : List Value) (o : Nat) (w : World), (w.setCells b o vs).os = w.os ∧ (w.setCells b o vs).tape = w.tape ∧ (w.setCells b o vs).output = w.output
  | [], _, _ => ⟨rfl, rfl, rfl⟩
  | v :: r, o, w => by rw [World.setCells]; exact setCells_os b r (o + 1) _
theorem setCells_other (b : Nat) : ∀ (vs : List Value) (o : Nat) (w : World) (c : Nat), c ≠ b → (w.setCells b o vs).heap[c]? = w.heap[c]?
  | [], _, _, _, _ => rfl
  | v :: r, o, w, c, h => by
    rw [World.setCells, setCells_other b r _ _ c h]
    exact RowKit.Below.heap_setCell w ⟨b, o, none⟩ v c h

theorem cell_setCells {w : World} {b o : Nat} {vs : List Value} (hc : ∀ j, j < vs.length → (w.cell? ⟨b, o + j, none⟩).isSome = true) (x : Nat) :
    (w.setCells b o vs).cell? ⟨b, x, none⟩ = if o ≤ x ∧ x < o + vs.length then vs[x - o]? else w.cell? ⟨b, x, none⟩ := by
  split
  · rename_i h
    have := World.cell?_setCells_in b vs o w hc (x - o) (by omega)
    rw [show o + (x - o) = x by omega] at this
    rw [this, List.getElem?_eq_getElem]
  · rename_i h
    exact World.cell?_setCells_out b vs o w _ (fun _ _ => by simp; omega)

theorem splice_get {l cs : List AV} {off j : Nat} (h : off + cs.length ≤ l.length) :
    (splice l off cs)[j]? = if off ≤ j ∧ j < off + cs.length then cs[j - off]? else l[j]? := by
  unfold splice
  have h1 : (l.take off).length = off := by simp; omega
  split
  · rename_i hj
    rw [List.getElem?_append_left (by simp; omega), List.getElem?_append_right (by omega), h1]
  · rename_i hj
    by_cases h2 : j < off
    · rw [List.getElem?_append_left (by simp; omega), List.getElem?_append_left (by omega), List.getElem?_take_of_lt h2]
    · rw [List.getElem?_append_right (by simp; omega)]
      simp only [List.length_append, h1, List.getElem?_drop]
      congr 1
      omega

theorem splice_length {l cs : List AV} {off : Nat} (h : off + cs.length ≤ l.length) : (splice l off cs).length = l.length := by
  simp [splice]; omega

/-- Cells of a writable block are written. -/
theorem put_step {n0 base fl : Nat} {m : BMap} {H H' : Heap} {w : World} (hs : Sim n0 base m H w) (hfl : n0 ≤ fl) {b off : Nat} {xs : List AV} {vs : List Value} {l : Loc}
    (hp : rput fl H b off xs = some H') (hm : m b = some l) (hr : VRels m xs vs) :
    (∀ j, j < vs.length → (w.cell? ⟨l.cb, l.co + off + j, none⟩).isSome = true ∧ w.frozen? ⟨l.cb, l.co + off + j, none⟩ = false) ∧ (∀ v ∈ vs, v.oneCell' = true) ∧
    Step n0 base fl m H w m H' (w.setCells l.cb (l.co + off) vs) := by
  unfold rput at hp
  split at hp
  · rename_i k hk
    split at hp
    · rename_i hcond
      obtain ⟨hb, hlen, hsc⟩ := hcond
      cases hp
      obtain ⟨hact, hlive, hget⟩ := blk_act hk
      obtain ⟨e1, e2, e3⟩ := hs.cells b k l hact hm
      have hbn : n0 ≤ b := Nat.le_trans hfl hb
      obtain ⟨o1, o2, o3⟩ := hs.own b k l hbn hact hm
      have hlv := hr.length
      have hcells : ∀ j, j < vs.length → (w.cell? ⟨l.cb, l.co + off + j, none⟩).isSome = true ∧ w.frozen? ⟨l.cb, l.co + off + j, none⟩ = false := fun j hj => by
        have := o3.at (off + j) (by omega)
        rwa [← Nat.add_assoc] at this
      have hone := hr.oneCells hsc
      have hblen : b < H.length := act_lt hact
      have hless : ∀ k', H[b]? = some k' → (({ k with cells := splice k.cells off xs, clean := false } : Blk).live && ({ k with cells := splice k.cells off xs, clean := false } : Blk).clean) = true → (k'.live && k'.clean) = true := fun k' _ h => by simp at h
      have hact' : ∀ x kx, Heap.act (H.set b { k with cells := splice k.cells off xs, clean := false }) x = some kx → (x = b ∧ kx = { k with cells := splice k.cells off xs, clean := false }) ∨ (x ≠ b ∧ H.act x = some kx ∧ (kx.live = false → kx.kid ≠ some b)) := fun x kx h => by
        by_cases e : x = b
        · subst e
          have := act_get h
          rw [List.getElem?_set_self hblen] at this
          cases this
          exact .inl ⟨rfl, rfl⟩
        · refine .inr ⟨e, act_set hless h e, fun hd hkid => ?_⟩
          unfold Heap.act at h
          have hg := act_get (act_set hless h e)
          rw [List.getElem?_set_ne (by omega), hg] at h
          simp [hd, Heap.rev, hkid, List.getElem?_set_self hblen] at h
      have hother : ∀ x kx lx, x ≠ b → H.act x = some kx → m x = some lx → (kx.live = false → kx.kid ≠ some b) → lx.cb ≠ l.cb := fun x kx lx hx ha hmx hkid he => by
        by_cases hx0 : n0 ≤ x
        · rcases hs.inj x b kx k lx l hx0 hbn ha hact hmx hm he with h | ⟨h1, h2, _⟩ | ⟨h1, _, _⟩
          · exact hx h
          · exact hkid h1 h2
          · simp [hlive] at h1
        · have := hs.ro x lx (by omega) hmx
          omega
      obtain ⟨s1, s2, s3⟩ := setCells_os l.cb vs (l.co + off) w
      have ssz := setCells_size l.cb vs (l.co + off) w
      refine ⟨hcells, hone, ⟨Ext.refl m, fun x lx h1 h2 => by simp [h1] at h2, ⟨?_, ?_, ?_, ?_, ?_, ?_, ?_, ?_⟩, s1, s2, s3, by rw [ssz]; exact Nat.le_refl _, by simp, ?_, ?_⟩⟩
      · rw [ssz]; exact hs.size
      · simp; exact hs.low
      · intro x c kx hx hc
        by_cases e : x = b
        · subst e; rw [List.getElem?_set_self hblen] at hx; cases hx
          simp; exact hs.kids x c k hget hc
        · rw [List.getElem?_set_ne (by omega)] at hx
          simp; exact hs.kids x c kx hx hc
      · intro x kx lx hx hmx
        by_cases e : x = b
        · subst e; rw [List.getElem?_set_self hblen] at hx; cases hx
          exact hs.es x k lx hget hmx
        · rw [List.getElem?_set_ne (by omega)] at hx
          exact hs.es x kx lx hx hmx
      · intro x kx lx ha hmx
        rcases hact' x kx ha with ⟨rfl, rfl⟩ | ⟨hx, ha, hkid⟩
        · rw [hm] at hmx; cases hmx
          refine ⟨e1, by rw [splice_length hlen]; exact e2, fun j v hv => ?_⟩
          rw [splice_get hlen] at hv
          rw [cell_setCells (fun j hj => (hcells j hj).1)]
          split at hv
          · rename_i hj
            obtain ⟨cv, c1, c2⟩ := hr.get _ _ hv
            refine ⟨cv, ?_, c2⟩
            rw [if_pos (by omega), show l.co + j - (l.co + off) = j - off by omega]
            exact c1
          · rename_i hj
            rw [if_neg (by omega)]
            exact e3 j v hv
        · obtain ⟨f1, f2, f3⟩ := hs.cells x kx lx ha hmx
          exact ⟨f1, f2, cellsAt_mono f3 (Ext.refl m) fun j _ => cell_of_heap (setCells_other _ _ _ _ _ (hother x kx lx hx ha hmx hkid)) _⟩
      · exact hs.ro
      · intro x kx lx hx0 ha hmx
        rcases hact' x kx ha with ⟨rfl, rfl⟩ | ⟨hx, ha, hkid⟩
        · rw [hm] at hmx; cases hmx
          refine ⟨o1, by rw [ssz]; exact o2, fun j hj => ?_, fun j => by rw [World.frozen?_setCells]; exact o3.soft j⟩
          rw [cell_setCells (fun j hj => (hcells j hj).1)]
          split
          · rename_i h; rw [List.getElem?_eq_getElem (by omega)]; rfl
          · exact o3.cell j hj
        · obtain ⟨f1, f2, f3⟩ := hs.own x kx lx hx0 ha hmx
          exact ⟨f1, by rw [ssz]; exact f2, room_of_heap (setCells_other _ _ _ _ _ (hother x kx lx hx ha hmx hkid)) f3⟩
      · intro x x' kx kx' lx lx' hx hx' ha ha' hmx hmx' he
        rcases hact' x kx ha with ⟨e1, e2⟩ | ⟨hxb, ha1, hkid⟩ <;> rcases hact' x' kx' ha' with ⟨e3, e4⟩ | ⟨hxb', ha2, hkid'⟩
        · left; rw [e1, e3]
        · exfalso
          rw [e1, hm] at hmx; cases hmx
          exact hother x' kx' lx' hxb' ha2 hmx' hkid' he.symm
        · exfalso
          rw [e3, hm] at hmx'; cases hmx'
          exact hother x kx lx hxb ha1 hmx hkid he
        · exact hs.inj x x' kx kx' lx lx' hx hx' ha1 ha2 hmx hmx' he
      · intro c hc hh
        refine setCells_other _ _ _ _ _ fun e => hh ?_
        exact ⟨b, k, l, hb, hact, hm, e.symm⟩
      · rintro c hc ⟨x, kx, lx, hx, ha, hmx, rfl⟩
        rcases hact' x kx ha with ⟨rfl, rfl⟩ | ⟨hxb, ha, hkid⟩
        · exact ⟨x, k, lx, hx, hact, hmx, rfl⟩
        · exact ⟨x, kx, lx, hx, ha, hmx, rfl⟩
    · simp at hp
  · simp at hp

end Go.RM

/-
  An append that fills the known cells of a block: the block is given up; its replacement lies in the same row or in a new one.
-/
namespace Go.RM

/-- Cells behind the last known cell of a live block are written: nobody sees it. -/
theorem beyond_sim {n0 base : Nat} {m : BMap} {H : Heap} {w : World} (hs : Sim n0 base m H w) {b : Nat} {k : Blk} {l : Loc} (hb : n0 ≤ b)
    (hact : H.act b = some k) (hlive : k.live = true) (hm : m b = some l) {vs : List Value} {o : Nat} (ho : l.co + k.cells.length ≤ o) (hroom : o + vs.length ≤ l.co + l.room) :
    (∀ j, j < vs.length → (w.cell? ⟨l.cb, o + j, none⟩).isSome = true ∧ w.frozen? ⟨l.cb, o + j, none⟩ = false) ∧
    Sim n0 base m H (w.setCells l.cb o vs) := by
  obtain ⟨o1, o2, o3⟩ := hs.own b k l hb hact hm
  have hcells : ∀ j, j < vs.length → (w.cell? ⟨l.cb, o + j, none⟩).isSome = true ∧ w.frozen? ⟨l.cb, o + j, none⟩ = false := fun j hj => by
    have := o3.at (o + j - l.co) (by omega)
    rwa [show l.co + (o + j - l.co) = o + j by omega] at this
  have ssz := setCells_size l.cb vs o w
  have hin : ∀ x kx lx, H.act x = some kx → m x = some lx → lx.cb = l.cb → lx.co + kx.cells.length ≤ o := fun x kx lx ha hmx he => by
    by_cases hx0 : n0 ≤ x
    · rcases hs.inj x b kx k lx l hx0 hb ha hact hmx hm he with h | ⟨_, _, h⟩ | ⟨h, _, _⟩
      · subst h; rw [hact] at ha; cases ha; rw [hm] at hmx; cases hmx; exact ho
      · omega
      · simp [hlive] at h
    · have := hs.ro x lx (by omega) hmx; omega
  refine ⟨hcells, ⟨by rw [ssz]; exact hs.size, hs.low, hs.kids, hs.es, ?_, hs.ro, ?_, hs.inj⟩⟩
  · intro x kx lx ha hmx
    obtain ⟨f1, f2, f3⟩ := hs.cells x kx lx ha hmx
    refine ⟨f1, f2, cellsAt_mono f3 (Ext.refl m) fun j hj => ?_⟩
    by_cases he : lx.cb = l.cb
    · have := hin x kx lx ha hmx he
      rw [he, cell_setCells (fun j hj => (hcells j hj).1), if_neg (by omega)]
    · exact cell_of_heap (setCells_other _ _ _ _ _ he) _
  · intro x kx lx hx0 ha hmx
    obtain ⟨f1, f2, f3⟩ := hs.own x kx lx hx0 ha hmx
    refine ⟨f1, by rw [ssz]; exact f2, fun j hj => ?_, fun j => by rw [World.frozen?_setCells]; exact f3.soft j⟩
    by_cases he : lx.cb = l.cb
    · rw [he, cell_setCells (fun j hj => (hcells j hj).1)]
      split
      · rw [List.getElem?_eq_getElem (by omega)]; rfl
      · have := f3.cell j hj; rwa [he] at this
    · rw [cell_of_heap (setCells_other _ _ _ _ _ he)]; exact f3.cell j hj

theorem act_of {H : Heap} {x : Nat} {k : Blk} (hg : H[x]? = some k) (hl : k.live = true ∨ (H.rev k).isSome = true) : H.act x = some k := by
  unfold Heap.act
  rw [hg]
  simp only
  rcases hl with h | h <;> simp [h]

/-- The replacement is laid, the live block given up. -/
theorem replace_sim {n0 base : Nat} {m : BMap} {H : Heap} {w : World} (hs : Sim n0 base m H w) {b : Nat} {k k2 nk : Blk} {l l2 : Loc} (hb : n0 ≤ b)
    (hact : H.act b = some k) (hlive : k.live = true) (hm : m b = some l) (hn : m H.length = none)
    (hk2 : k2.live = false ∧ (k2.kid ≠ none → k2.cells = k.cells) ∧ k2.e = k.e ∧ (∀ c, k2.kid = some c → c = H.length)) (hnk : nk.live = true ∧ nk.kid = none)
    (he : l2.e = nk.e) (hlen : nk.cells.length ≤ l2.room) (hca : CellsAt m w l2 nk.cells) (hcb : base ≤ l2.cb ∧ l2.cb < w.heap.size) (hroom : Room w l2)
    (hwhere : (l2.cb = l.cb ∧ l.co + k.cells.length ≤ l2.co + nk.cells.length) ∨ (∀ x kx lx, H.act x = some kx → m x = some lx → lx.cb ≠ l2.cb)) :
    Sim n0 base (upd m H.length l2) (H.set b k2 ++ [nk]) w := by
  have hext := upd_ext l2 hn
  have hblen := act_lt hact
  obtain ⟨q1, q2, q3, q4⟩ := hk2
  have hne : ∀ x kx, Heap.act (H.set b k2 ++ [nk]) x = some kx → (x = H.length ∧ kx = nk) ∨ (x = b ∧ kx = k2 ∧ k2.kid = some H.length) ∨ (x ≠ b ∧ x < H.length ∧ H.act x = some kx ∧ (kx.live = false → kx.kid ≠ some b)) := fun x kx h => by
    have hl := act_lt h
    have hg := act_get h
    simp at hl
    by_cases e : x = H.length
    · subst e
      rw [List.getElem?_append_right (by simp)] at hg
      simp at hg
      exact .inl ⟨rfl, hg.symm⟩
    · have hx : x < H.length := by omega
      rw [List.getElem?_append_left (by simpa using hx)] at hg
      by_cases e2 : x = b
      · subst e2
        rw [List.getElem?_set_self hblen] at hg
        cases hg
        refine .inr (.inl ⟨rfl, rfl, ?_⟩)
        unfold Heap.act at h
        rw [List.getElem?_append_left (by simpa using hx), List.getElem?_set_self hblen] at h
        simp only [q1, Bool.false_or] at h
        split at h
        · rename_i hr
          unfold Heap.rev at hr
          simp only [q1] at hr
          cases hc : k2.kid with
          | none => simp [hc] at hr
          | some c => rw [q4 c hc]
        · simp at h
      · rw [List.getElem?_set_ne (by omega)] at hg
        refine .inr (.inr ⟨e2, hx, ?_⟩)
        unfold Heap.act at h
        rw [List.getElem?_append_left (by simpa using hx), List.getElem?_set_ne (by omega), hg] at h
        simp only at h
        by_cases hlv : kx.live = true
        · exact ⟨act_of hg (.inl hlv), fun h => by simp [hlv] at h⟩
        · simp only [hlv, Bool.false_or] at h
          split at h
          · rename_i hr
            unfold Heap.rev at hr
            simp only [hlv] at hr
            cases hc : kx.kid with
            | none => simp [hc] at hr
            | some c =>
              simp only [hc] at hr
              have hcl := hs.kids x c kx hg hc
              rw [List.getElem?_append_left (by simpa using hcl)] at hr
              by_cases ec : c = b
              · subst ec
                rw [List.getElem?_set_self hblen] at hr
                simp [q1] at hr
              · rw [List.getElem?_set_ne (by omega)] at hr
                refine ⟨act_of hg (.inr ?_), fun _ => by simpa using ec⟩
                unfold Heap.rev
                simp only [hlv, hc]
                exact hr
          · simp at h
  have hsame : ∀ x kx lx, n0 ≤ x → x ≠ b → H.act x = some kx → m x = some lx → (kx.live = false → kx.kid ≠ some b) → lx.cb ≠ l.cb := fun x kx lx hx0 hx ha hmx hkid e => by
    rcases hs.inj x b kx k lx l hx0 hb ha hact hmx hm e with h | ⟨h1, h2, _⟩ | ⟨h1, _, _⟩
    · exact hx h
    · exact hkid h1 h2
    · simp [hlive] at h1
  obtain ⟨c1, c2, c3⟩ := hs.cells b k l hact hm
  obtain ⟨o1, o2, o3⟩ := hs.own b k l hb hact hm
  have hnew : ∀ x kx lx, n0 ≤ x → x ≠ b → H.act x = some kx → m x = some lx → (kx.live = false → kx.kid ≠ some b) → lx.cb ≠ l2.cb := fun x kx lx hx0 hx ha hmx hkid e => by
    rcases hwhere with ⟨h1, _⟩ | h1
    · exact hsame x kx lx hx0 hx ha hmx hkid (e.trans h1)
    · exact h1 x kx lx ha hmx e
  refine ⟨hs.size, by simp; have := hs.low; omega, ?_, ?_, ?_, ?_, ?_, ?_⟩
  · intro x c kx hx hc
    by_cases e : x < H.length
    · rw [List.getElem?_append_left (by simpa using e)] at hx
      by_cases e2 : x = b
      · subst e2; rw [List.getElem?_set_self hblen] at hx; cases hx
        have := q4 c hc; simp; omega
      · rw [List.getElem?_set_ne (by omega)] at hx
        have := hs.kids x c kx hx hc; simp; omega
    · by_cases e2 : x = H.length
      · subst e2
        rw [List.getElem?_append_right (by simp)] at hx
        simp at hx; subst hx; simp [hnk.2] at hc
      · rw [List.getElem?_eq_none (by simp; omega)] at hx; simp at hx
  · intro x kx lx hx hmx
    by_cases e : x < H.length
    · rw [List.getElem?_append_left (by simpa using e)] at hx
      rw [upd_ne _ (by omega)] at hmx
      by_cases e2 : x = b
      · subst e2; rw [List.getElem?_set_self hblen] at hx; cases hx
        rw [q3]; exact hs.es x k lx (act_get hact) hmx
      · rw [List.getElem?_set_ne (by omega)] at hx
        exact hs.es x kx lx hx hmx
    · by_cases e2 : x = H.length
      · subst e2
        rw [List.getElem?_append_right (by simp)] at hx
        simp at hx; subst hx; rw [upd_same] at hmx; cases hmx; exact he
      · rw [List.getElem?_eq_none (by simp; omega)] at hx; simp at hx
  · intro x kx lx ha hmx
    rcases hne x kx ha with ⟨rfl, rfl⟩ | ⟨rfl, rfl, hkid⟩ | ⟨hx, hxl, ha, _⟩
    · rw [upd_same] at hmx; cases hmx
      exact ⟨he, hlen, cellsAt_mono hca hext fun _ _ => rfl⟩
    · rw [upd_ne _ (by omega), hm] at hmx; cases hmx
      have q2 := q2 (by rw [hkid]; simp)
      exact ⟨by rw [q3]; exact c1, by rw [q2]; exact c2, by rw [q2]; exact cellsAt_mono c3 hext fun _ _ => rfl⟩
    · rw [upd_ne _ (by omega)] at hmx
      obtain ⟨f1, f2, f3⟩ := hs.cells x kx lx ha hmx
      exact ⟨f1, f2, cellsAt_mono f3 hext fun _ _ => rfl⟩
  · intro x lx hx hmx
    rw [upd_ne _ (by have := hs.low; omega)] at hmx
    exact hs.ro x lx hx hmx
  · intro x kx lx hx0 ha hmx
    rcases hne x kx ha with ⟨rfl, rfl⟩ | ⟨rfl, rfl, _⟩ | ⟨hx, hxl, ha, _⟩
    · rw [upd_same] at hmx; cases hmx
      exact ⟨hcb.1, hcb.2, hroom⟩
    · rw [upd_ne _ (by omega), hm] at hmx; cases hmx
      exact ⟨o1, o2, o3⟩
    · rw [upd_ne _ (by omega)] at hmx
      exact hs.own x kx lx hx0 ha hmx
  · intro x x' kx kx' lx lx' hx0 hx0' ha ha' hmx hmx' heq
    rcases hne x kx ha with ⟨e1, e2⟩ | ⟨e1, e2, e3⟩ | ⟨hx, hxl, ha1, hkid⟩ <;> rcases hne x' kx' ha' with ⟨f1, f2⟩ | ⟨f1, f2, f3⟩ | ⟨hx', hxl', ha2, hkid'⟩
    · left; rw [e1, f1]
    · right; right
      rw [e1, upd_same] at hmx; cases hmx
      rw [f1, upd_ne _ (by omega), hm] at hmx'; cases hmx'
      subst f2; subst e2
      have q2 := q2 (by rw [f3]; simp)
      refine ⟨q1, by rw [f3, e1], ?_⟩
      rcases hwhere with ⟨_, h⟩ | h
      · rw [q2]; exact h
      · exact absurd heq.symm (h b k l hact hm)
    · exfalso
      rw [e1, upd_same] at hmx; cases hmx
      rw [upd_ne _ (by omega)] at hmx'
      exact hnew x' kx' lx' hx0' hx' ha2 hmx' hkid' heq.symm
    · right; left
      rw [f1, upd_same] at hmx'; cases hmx'
      rw [e1, upd_ne _ (by omega), hm] at hmx; cases hmx
      subst f2; subst e2
      have q2 := q2 (by rw [e3]; simp)
      refine ⟨q1, by rw [e3, f1], ?_⟩
      rcases hwhere with ⟨_, h⟩ | h
      · rw [q2]; exact h
      · exact absurd heq (h b k l hact hm)
    · left; rw [e1, f1]
    · exfalso
      rw [e1, upd_ne _ (by omega), hm] at hmx; cases hmx
      rw [upd_ne _ (by omega)] at hmx'
      exact hsame x' kx' lx' hx0' hx' ha2 hmx' hkid' heq.symm
    · exfalso
      rw [f1, upd_same] at hmx'; cases hmx'
      rw [upd_ne _ (by omega)] at hmx
      exact hnew x kx lx hx0 hx ha1 hmx hkid heq
    · exfalso
      rw [f1, upd_ne _ (by omega), hm] at hmx'; cases hmx'
      rw [upd_ne _ (by omega)] at hmx
      exact hsame x kx lx hx0 hx ha1 hmx hkid heq
    · rw [upd_ne _ (by omega)] at hmx hmx'
      exact hs.inj x x' kx kx' lx lx' hx0 hx0' ha1 ha2 hmx hmx' heq

end Go.RM

