/-
  The abstract machine: values, heap, operations, code, and its run. A run is a function: no tape, no capacities, no open orders.
-/
import GoSem.Core.Code
import GoSem.Core.Program
import GoSem.Op.String
namespace Go.RM

/-- Abstract values: a pointer is a block's number and a place in it; a slice bears 'lim': its capacity where that is known. -/
inductive AV where
  | int (k : IntKind) (n : Int)
  | bool (b : Bool)
  | str (s : ByteArray)
  | ptr (b off : Nat)
  | nilptr
  | slice (b off len : Nat) (lim : Option Nat)
  | empty
  | func (f : Nat) (caps : List AV)
  | nilfunc
  | agg (cs : List AV)
  | tuple (vs : List AV)
  deriving Inhabited

def AV.undef : AV := .tuple []
def AV.cells : AV → List AV
  | .agg cs => cs
  | v => [v]
def AV.scalar : AV → Bool
  | .agg _ => false
  | .tuple _ => false
  | _ => true

/-- A block. 'clean': nothing was stored into it since it was made; 'kid': the block that an append made out of it. -/
structure Blk where
  cells : List AV
  e : Nat
  live : Bool := true
  clean : Bool := true
  kid : Option Nat := none
  deriving Inhabited

abbrev Heap := List Blk

def Heap.blk (H : Heap) (b : Nat) : Option Blk :=
  match H[b]? with
  | some k => if k.live then some k else none
  | none => none

/-- A block that an append has replaced, and that the replacement has not spoilt: it may be appended to once more (the replacement dies then). -/
def Heap.rev (H : Heap) (k : Blk) : Option Nat :=
  if k.live then none else
  match k.kid with
  | some c =>
    match H[c]? with
    | some kc => if kc.live && kc.clean then some c else none
    | none => none
  | none => none

/-- Live, or to be revived. -/
def Heap.act (H : Heap) (b : Nat) : Option Blk :=
  match H[b]? with
  | some k => if k.live || (H.rev k).isSome then some k else none
  | none => none

/-- A block is given up for good. -/
def Heap.kill (H : Heap) (c : Nat) : Heap :=
  match H[c]? with
  | some k => H.set c { k with live := false, kid := none }
  | none => H

def splice (l : List AV) (off : Nat) (cs : List AV) : List AV := l.take off ++ cs ++ l.drop (off + cs.length)

def rload (H : Heap) (sz : Option Nat) (b off : Nat) : Option AV :=
  match H.act b with
  | some k =>
    match sz with
    | none => k.cells[off]?
    | some n => if off + n ≤ k.cells.length then some (.agg ((k.cells.drop off).take n)) else none
  | none => none

/-- A part of a struct's value. -/
def rpart (sz : Option Nat) (cs : List AV) (off : Nat) : Option AV :=
  match sz with
  | none => cs[off]?
  | some n => if off + n ≤ cs.length then some (.agg ((cs.drop off).take n)) else none

def rput (fl : Nat) (H : Heap) (b off : Nat) (cs : List AV) : Option Heap :=
  match H.blk b with
  | some k => if fl ≤ b ∧ off + cs.length ≤ k.cells.length ∧ cs.all AV.scalar = true then some (H.set b { k with cells := splice k.cells off cs, clean := false }) else none
  | none => none

inductive RX where
  | loc (i : Nat)
  | var (x : Nat)
  | k (v : AV)
  deriving Inhabited

inductive FK where
  | int | bool | str
  deriving Inhabited, DecidableEq

inductive EqCls where
  | no | bool
  | agg (ks : List FK)
  deriving Inhabited, DecidableEq

inductive ROp where
  | fail
  | move (x : RX)
  | pick (c a b : RX)
  | alloc (e : Nat) (zero : List AV)
  | box (e : Nat) (x : RX)
  | build (zero : List AV) (parts : List (Nat × Nat × RX))
  | buildSlice (e : Nat) (zero : List AV) (parts : List (Nat × Nat × RX)) (len : Nat)
  | load (sz : Option Nat) (x : RX)
  | store (n : Nat) (x v : RX) (apart : List RX)
  | nilCheck (x : RX)
  | bin (op : BinOp) (c : EqCls) (x y : RX)
  | un (op : UnOp) (x : RX)
  | convInt (k : IntKind) (x : RX)
  | makeFunc (f : Nat) (caps : List RX)
  | makeSlice (e bytes : Nat) (zero : List AV) (len cap : RX)
  | slice (e : Nat) (x : RX) (lo hi mx : Option RX)
  | sliceStr (x : RX) (lo hi : Option RX)
  | fieldAddr (off : Nat) (x : RX)
  | field (off : Nat) (sz : Option Nat) (x : RX)
  | indexAddr (e : Nat) (x i : RX)
  | indexArr (n e : Nat) (x i : RX)
  | indexStr (x i : RX)
  | extract (x : RX) (i : Nat)
  | call (f : RX) (args : List RX)
  | callS (f : Nat) (args : List RX)
  | len (x : RX)
  | lenStr (x : RX)
  | append (e bytes : Nat) (x y : RX)
  | copy (e : Nat) (x y : RX)
  | clear (e : Nat) (zero : List AV) (x : RX)
  | min (x : RX) (ys : List RX)
  | max (x : RX) (ys : List RX)
  /-- a variable that nobody points at: its value, and a dead block in its place -/
  | tomb (e : Nat) (x : RX)
  | upd (n off : Nat) (x v : RX)
  deriving Inhabited

structure ROper where
  op : ROp
  guard : Option (Nat × Bool)
  dst : Option Nat
  free : Bool
  deriving Inhabited

inductive RCode where
  | fail
  | skip
  | ops (l : List ROper)
  | seq (a b : RCode)
  | cond (x : RX) (a b : RCode)
  | block (id : Nat) (c : RCode)
  | loop (c : RCode)
  | exit (id : Nat)
  | ret
  deriving Inhabited

inductive RRes where
  | var (x : Nat)
  | cell (x : Nat) (sz : Option Nat)
  | part (x : Nat) (sz : Option Nat)
  deriving Inhabited

structure RFunc where
  nargs : Nat
  nvars : Nat
  res : List RRes
  body : RCode
  deriving Inhabited

inductive Out where
  | normal
  | exit (id : Nat)
  | ret
  deriving Inhabited, DecidableEq

/-! ### One operation -/

def binI (op : BinOp) (k : IntKind) (a b : Int) : Option AV :=
  match op with
  | .add => some (.int k (k.wrap (a + b)))
  | .sub => some (.int k (k.wrap (a - b)))
  | .mul => some (.int k (k.wrap (a * b)))
  | .quo => if b = 0 then none else some (.int k (k.wrap (a.tdiv b)))
  | .rem => if b = 0 then none else some (.int k (a.tmod b))
  | .and => some (.int k (k.wrap (BitVec.ofInt k.bits a &&& BitVec.ofInt k.bits b).toNat))
  | .or => some (.int k (k.wrap (BitVec.ofInt k.bits a ||| BitVec.ofInt k.bits b).toNat))
  | .xor => some (.int k (k.wrap (BitVec.ofInt k.bits a ^^^ BitVec.ofInt k.bits b).toNat))
  | .andNot => some (.int k (k.wrap (BitVec.ofInt k.bits a &&& ~~~BitVec.ofInt k.bits b).toNat))
  | .eql => some (.bool (a == b))
  | .neq => some (.bool (a != b))
  | .lss => some (.bool (a < b))
  | .leq => some (.bool (a ≤ b))
  | .gtr => some (.bool (a > b))
  | .geq => some (.bool (a ≥ b))
  | _ => none

def shiftI (op : BinOp) (k : IntKind) (a b : Int) : Option AV :=
  if b < 0 then none else
  match op with
  | .shl => some (.int k (k.wrap (a * 2 ^ (Min.min b.toNat k.bits))))
  | .shr => some (.int k (a.fdiv (2 ^ (Min.min b.toNat k.bits))))
  | _ => none

def binS (op : BinOp) (x y : ByteArray) : Option AV :=
  match op with
  | .add => if ((x.size + y.size : Nat) : Int) > IntKind.i64.max then none else some (.str (x ++ y))
  | .eql => some (.bool (x.toList == y.toList))
  | .neq => some (.bool !(x.toList == y.toList))
  | .lss => some (.bool (Op.bytesLess x.toList y.toList))
  | .leq => some (.bool (Op.bytesLess x.toList y.toList || x.toList == y.toList))
  | .gtr => some (.bool !(Op.bytesLess x.toList y.toList || x.toList == y.toList))
  | .geq => some (.bool !Op.bytesLess x.toList y.toList)
  | _ => none

def eqCells : List FK → List AV → List AV → Option Bool
  | [], [], [] => some true
  | .int :: ks, .int k a :: xs, .int k' b :: ys => if k = k' then (eqCells ks xs ys).map (a == b && ·) else none
  | .bool :: ks, .bool a :: xs, .bool b :: ys => (eqCells ks xs ys).map (a == b && ·)
  | .str :: ks, .str a :: xs, .str b :: ys => (eqCells ks xs ys).map (a.toList == b.toList && ·)
  | _, _, _ => none

def isShift : BinOp → Bool
  | .shl => true
  | .shr => true
  | _ => false

def binV (op : BinOp) (c : EqCls) : AV → AV → Option AV
  | .int k a, .int k' b => if isShift op then shiftI op k a b else if k = k' then binI op k a b else none
  | .str a, .str b => binS op a b
  | .bool a, .bool b =>
    if c = .bool then
      match op with
      | .eql => some (.bool (a == b))
      | .neq => some (.bool (!(a == b)))
      | _ => none
    else none
  | .agg xs, .agg ys =>
    match c with
    | .agg ks =>
      match op with
      | .eql => (eqCells ks xs ys).map .bool
      | .neq => (eqCells ks xs ys).map fun b => .bool (!b)
      | _ => none
    | _ => none
  | _, _ => none

def unV (op : UnOp) : AV → Option AV
  | .int k n =>
    match op with
    | .neg => some (.int k (k.wrap (0 - n)))
    | .xor => some (.int k (k.wrap (BitVec.ofInt k.bits (if k.signed then -1 else k.max) ^^^ BitVec.ofInt k.bits n).toNat))
    | _ => none
  | .bool b =>
    match op with
    | .not => some (.bool (!b))
    | _ => none
  | _ => none

def fillV (cells : List AV) : List (Nat × Nat × AV) → Option (List AV)
  | [] => some cells
  | (off, size, v) :: rest => if v.cells.length = size ∧ off + size ≤ cells.length then fillV (splice cells off v.cells) rest else none

def zeros (n : Nat) (zero : List AV) : List AV := (List.replicate n zero).flatten

/-- The cells that a slice (or nothing) brings to an append or a copy: its first n elements. -/
def sliceCells (H : Heap) (e n : Nat) : AV → Option (List AV)
  | .empty => if n = 0 then some [] else none
  | .slice b off len _ =>
    if n = 0 then some [] else
    if len < n then none else
    match H.act b with
    | some k => if off + n * e ≤ k.cells.length then some ((k.cells.drop off).take (n * e)) else none
    | none => none
  | _ => none

def sliceLen : AV → Option Nat
  | .empty => some 0
  | .slice _ _ n _ => some n
  | _ => none

/-- The slice's block is full (as far as is known): the append may lay a new row, or may write behind the last cell. Either way the old block is given up (by an append that is ordered against all else it may be revived). -/
def rappendTop (fl : Nat) (free : Bool) (e : Nat) (H : Heap) (b off n k : Nat) (blk : Blk) (xs : List AV) : Option (AV × Heap) :=
  if fl ≤ b ∧ xs.all AV.scalar = true then
    some (.slice H.length 0 (n + k) none,
      H.set b { blk with live := false, kid := if free then some H.length else none } ++ [{ cells := blk.cells.drop off ++ xs, e }])
  else none

def rappend (fl : Nat) (free : Bool) (e bytes : Nat) (H : Heap) (s : AV) (k : Nat) (xs : List AV) : Option (AV × Heap) :=
  if k = 0 then (match s with | .empty => some (s, H) | .slice .. => some (s, H) | _ => none) else
  match s with
  | .empty => if k * bytes ≤ 2 ^ 48 ∧ k < 2 ^ 62 then some (.slice H.length 0 k none, H ++ [{ cells := xs, e }]) else none
  | .slice b off n lim =>
    match H.act b with
    | none => none
    | some blk =>
      if blk.e = e ∧ off + n * e ≤ blk.cells.length ∧ (n + k + (n + k) / 4 + 192) * bytes ≤ 2 ^ 48 ∧ n + k < 2 ^ 62 then
        if blk.live then
          match lim with
          | some c =>
            if n + k ≤ c then (if free then (rput fl H b (off + n * e) xs).map fun H' => (.slice b off (n + k) lim, H') else none)
            else some (.slice H.length 0 (n + k) none, H ++ [{ cells := (blk.cells.drop off).take (n * e) ++ xs, e }])
          | none =>
            if off + n * e = blk.cells.length then rappendTop fl free e H b off n k blk xs
            else if free then (rput fl H b (off + n * e) xs).map fun H' => (.slice b off (n + k) lim, H') else none
        else
          match lim, H.rev blk with
          | none, some c => if free ∧ off + n * e = blk.cells.length ∧ fl ≤ c then rappendTop fl free e (H.kill c) b off n k blk xs else none
          | _, _ => none
      else none
  | _ => none

def boundOf (x : Option AV) (d : Nat) : Option Nat :=
  match x with
  | none => some d
  | some (.int _ i) => if 0 ≤ i then some i.toNat else none
  | some _ => none

def rslice (H : Heap) (e : Nat) (x : AV) (lo hi mx : Option AV) : Option AV :=
  match x with
  | .empty =>
    match boundOf lo 0, boundOf hi 0, boundOf mx 0 with
    | some 0, some 0, some 0 => some .empty
    | _, _, _ => none
  | .slice b off n lim =>
    match boundOf lo 0, boundOf hi n, boundOf mx (lim.getD n) with
    | some l, some h, some m =>
      if l ≤ h ∧ h ≤ m ∧ m ≤ lim.getD n ∧ (l = 0 ∨ (H[b]?).map (·.e) = some e) then some (.slice b (off + l * e) (h - l) (if mx.isSome || lim.isSome then some (m - l) else none)) else none
    | _, _, _ => none
  | _ => none

def minI (k : IntKind) : Int → List AV → Option AV
  | a, [] => some (.int k a)
  | a, .int k' b :: r => if k' = k then minI k (if b < a then b else a) r else none
  | _, _ => none
def maxI (k : IntKind) : Int → List AV → Option AV
  | a, [] => some (.int k a)
  | a, .int k' b :: r => if k' = k then maxI k (if b > a then b else a) r else none
  | _, _ => none

def RX.ev (L E : List AV) : RX → AV
  | .loc i => L.getD i .undef
  | .var x => E.getD x .undef
  | .k v => v

/-- Block b is not what an append has made out of block b'. -/
def notKid (H : Heap) (b' b : Nat) : Bool :=
  match H.act b' with
  | some k => k.kid != some b
  | none => false

/-- The block that an address names is none of those that the loads beside it name, and was not made out of one of them. -/
def apartB (H : Heap) (b : Nat) : List AV → Bool
  | [] => true
  | .ptr b' _ :: l => b' != b && notKid H b' b && apartB H b l
  | _ => false

/-- The one or the other; of two truth values a truth value, whatever t is. -/
def pickV (t : Bool) (x y : AV) : AV :=
  match x, y with
  | .bool p, .bool q => .bool (bif t then p else q)
  | x, y => bif t then x else y

theorem pickV_true (x y : AV) : pickV true x y = x := by
  unfold pickV; split <;> rfl
theorem pickV_false (x y : AV) : pickV false x y = y := by
  unfold pickV; split <;> rfl

def rop (call : Nat → Nat → List AV → Heap → Option (AV × Heap)) (fl : Nat) (free : Bool) (X : RX → AV) (H : Heap) : ROp → Option (AV × Heap)
  | .fail => none
  | .move x => some (X x, H)
  | .pick c a b =>
    match X c with
    | .bool t => some (pickV t (X a) (X b), H)
    | _ => none
  | .alloc e zero => some (.ptr H.length 0, H ++ [{ cells := zero, e }])
  | .box e x => some (.ptr H.length 0, H ++ [{ cells := (X x).cells, e }])
  | .build zero parts => (fillV zero (parts.map fun p => (p.1, p.2.1, X p.2.2))).map fun cs => (.agg cs, H)
  | .buildSlice e zero parts len =>
    (fillV (zeros len zero) (parts.map fun p => (p.1, p.2.1, X p.2.2))).map fun cs => (.slice H.length 0 len (some len), H ++ [{ cells := cs, e }])
  | .load sz x =>
    match X x with
    | .ptr b off => (rload H sz b off).map fun v => (v, H)
    | _ => none
  | .store n x v ap =>
    match X x with
    | .ptr b off => if (X v).cells.length = n ∧ apartB H b (ap.map X) = true then (rput fl H b off (X v).cells).map fun H' => (.undef, H') else none
    | _ => none
  | .nilCheck x =>
    match X x with
    | .ptr b off => some (.ptr b off, H)
    | .func f caps => some (.func f caps, H)
    | _ => none
  | .bin op c x y => (binV op c (X x) (X y)).map fun v => (v, H)
  | .un op x => (unV op (X x)).map fun v => (v, H)
  | .convInt k x =>
    match X x with
    | .int _ n => some (.int k (k.wrap n), H)
    | _ => none
  | .makeFunc f caps => some (.func f (caps.map X), H)
  | .makeSlice e bytes zero len cap =>
    match X len, X cap with
    | .int .i64 l, .int .i64 c =>
      if 0 ≤ l ∧ l ≤ c ∧ bytes * c ≤ 2 ^ 47 ∧ c < 2 ^ 62 then some (.slice H.length 0 l.toNat (some c.toNat), H ++ [{ cells := zeros c.toNat zero, e }]) else none
    | _, _ => none
  | .slice e x lo hi mx => (rslice H e (X x) (lo.map X) (hi.map X) (mx.map X)).map fun v => (v, H)
  | .sliceStr x lo hi =>
    match X x with
    | .str s =>
      match boundOf (lo.map X) 0, boundOf (hi.map X) s.size with
      | some l, some h => if l ≤ h ∧ h ≤ s.size then some (.str (s.extract l h), H) else none
      | _, _ => none
    | _ => none
  | .fieldAddr off x =>
    match X x with
    | .ptr b o => some (.ptr b (o + off), H)
    | _ => none
  | .field off sz x =>
    match X x with
    | .agg cs => (rpart sz cs off).map fun v => (v, H)
    | _ => none
  | .indexAddr e x i =>
    match X x, X i with
    | .slice b off n _, .int _ j => if 0 ≤ j ∧ j < n then some (.ptr b (off + j.toNat * e), H) else none
    | _, _ => none
  | .indexArr n e x i =>
    match X x, X i with
    | .ptr b off, .int _ j => if 0 ≤ j ∧ j < n then some (.ptr b (off + j.toNat * e), H) else none
    | _, _ => none
  | .indexStr x i =>
    match X x, X i with
    | .str s, .int _ j =>
      match (if 0 ≤ j then s[j.toNat]? else none) with
      | some c => some (.int .u8 c.toNat, H)
      | none => none
    | _, _ => none
  | .extract x i =>
    match X x with
    | .tuple vs => (vs[i]?).map fun v => (v, H)
    | _ => none
  | .call f args =>
    match X f with
    | .func g caps => call (if free then fl else H.length) g (args.map X ++ caps) H
    | _ => none
  | .callS g args => call (if free then fl else H.length) g (args.map X) H
  | .lenStr x =>
    match X x with
    | .str s => some (.int .i64 s.size, H)
    | _ => none
  | .len x =>
    match X x with
    | .slice _ _ n _ => some (.int .i64 n, H)
    | .empty => some (.int .i64 0, H)
    | _ => none
  | .append e bytes x y =>
    match sliceLen (X y) with
    | some k => (sliceCells H e k (X y)).bind fun xs => rappend fl free e bytes H (X x) k xs
    | none => none
  | .copy e x y =>
    match sliceLen (X x), sliceLen (X y) with
    | some n, some k =>
      let q := Min.min k n
      if q = 0 then some (.int .i64 0, H) else
      match X x with
      | .slice b off _ _ => (sliceCells H e q (X y)).bind fun xs => (rput fl H b off xs).map fun H' => (.int .i64 q, H')
      | _ => none
    | _, _ => none
  | .clear _ zero x =>
    match X x with
    | .empty => some (.undef, H)
    | .slice b off n _ => if n = 0 then some (.undef, H) else (rput fl H b off (zeros n zero)).map fun H' => (.undef, H')
    | _ => none
  | .min x ys =>
    match X x with
    | .int k a => (minI k a (ys.map X)).map fun v => (v, H)
    | _ => none
  | .max x ys =>
    match X x with
    | .int k a => (maxI k a (ys.map X)).map fun v => (v, H)
    | _ => none
  | .tomb e x => some (.agg (X x).cells, H ++ [{ cells := [], e, live := false, clean := false }])
  | .upd n off x v =>
    match X x with
    | .agg cs => if (X v).cells.length = n ∧ off + (X v).cells.length ≤ cs.length ∧ (X v).cells.all AV.scalar = true then some (.agg (splice cs off (X v).cells), H) else none
    | _ => none

/-! ### Regions, code, calls -/

def wantedB (g : Option (Nat × Bool)) (L : List AV) : Bool :=
  match g with
  | none => true
  | some (j, want) =>
    match L[j]? with
    | some (.bool b) => b == want
    | _ => false

def rops (call : Nat → Nat → List AV → Heap → Option (AV × Heap)) (fl : Nat) (E : List AV) : List ROper → List AV → Heap → Option (List AV × Heap)
  | [], L, H => some (L, H)
  | o :: l, L, H =>
    if wantedB o.guard L then
      match rop call fl o.free (RX.ev L E) H o.op with
      | some (v, H') => rops call fl E l (L ++ [v]) H'
      | none => none
    else rops call fl E l (L ++ [.undef]) H

def putDst (d : Option Nat) (v : AV) (E : List AV) : List AV :=
  match d with
  | some x => E.set x v
  | none => E

def putAll : List ROper → List AV → List AV → List AV
  | o :: l, v :: L, E => putAll l L (putDst o.dst v E)
  | _, _, E => E

def resOf (E : List AV) (H : Heap) : RRes → Option AV
  | .var x => some (E.getD x .undef)
  | .cell x sz =>
    match E.getD x .undef with
    | .ptr b off => rload H sz b off
    | _ => none
  | .part x sz =>
    match E.getD x .undef with
    | .agg cs => rpart sz cs 0
    | _ => none

def resAll (E : List AV) (H : Heap) : List RRes → Option (List AV)
  | [] => some []
  | r :: l =>
    match resOf E H r with
    | some v => (resAll E H l).map (v :: ·)
    | none => none

def resVal : List AV → AV
  | [v] => v
  | vs => .tuple vs

mutual
def rexec (F : Nat → Option RFunc) : Nat → Nat → RCode → List AV → Heap → Option (Out × List AV × Heap)
  | 0, _, _, _, _ => none
  | n + 1, fl, c, E, H =>
    match c with
    | .fail => none
    | .skip => some (.normal, E, H)
    | .ops l => (rops (rcall F n) fl E l [] H).map fun x => (.normal, putAll l x.1 E, x.2)
    | .seq a b =>
      match rexec F n fl a E H with
      | some (.normal, E', H') => rexec F n fl b E' H'
      | r => r
    | .cond x a b =>
      match x.ev [] E with
      | .bool true => rexec F n fl a E H
      | .bool false => rexec F n fl b E H
      | _ => none
    | .block id c =>
      match rexec F n fl c E H with
      | some (.exit id', E', H') => if id' = id then some (.normal, E', H') else some (.exit id', E', H')
      | r => r
    | .loop c =>
      match rexec F n fl c E H with
      | some (.normal, E', H') => rexec F n fl (.loop c) E' H'
      | r => r
    | .exit id => some (.exit id, E, H)
    | .ret => some (.ret, E, H)
def rcall (F : Nat → Option RFunc) : Nat → Nat → Nat → List AV → Heap → Option (AV × Heap)
  | 0, _, _, _, _ => none
  | n + 1, fl, f, args, H =>
    match F f with
    | none => none
    | some rf =>
      if args.length = rf.nargs then
        match rexec F n fl rf.body (args ++ List.replicate (rf.nvars - rf.nargs) .undef) H with
        | some (.normal, E, H') => (resAll E H' rf.res).map fun vs => (resVal vs, H')
        | some (.ret, E, H') => (resAll E H' rf.res).map fun vs => (resVal vs, H')
        | _ => none
      else none
end

end Go.RM
