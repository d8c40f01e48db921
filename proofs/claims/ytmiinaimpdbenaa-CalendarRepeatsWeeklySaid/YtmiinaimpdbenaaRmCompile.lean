/-
  From the model's code to the abstract machine's: types are looked up, temporaries of one region become its locals, and a region whose order is open is let through only where no order matters.
-/
import Derived.Test.YtmiinaimpdbenaaRmDefs
import GoSem.Dispatch
namespace Go.RM

mutual
def ofConst : Value → Option AV
  | .int k n => some (.int k n)
  | .bool b => some (.bool b)
  | .string s => some (.str s)
  | .pointer none => some .nilptr
  | .slice none 0 0 => some .empty
  | .nilFunc => some .nilfunc
  | .func (.func f) first cap => if first.size = 0 ∧ cap.size = 0 then some (.func f []) else none
  | .agg ⟨cs⟩ => (ofConsts cs).map .agg
  | .tuple ⟨cs⟩ => (ofConsts cs).map .tuple
  | _ => none
def ofConsts : List Value → Option (List AV)
  | [] => some []
  | v :: vs =>
    match ofConst v, ofConsts vs with
    | some a, some l => some (a :: l)
    | _, _ => none
end

def memN (n : Nat) : List Nat → Bool
  | [] => false
  | m :: l => n == m || memN n l
def dedup : List Nat → List Nat → List Nat
  | acc, [] => acc.reverse
  | acc, n :: l => if memN n acc then dedup acc l else dedup (n :: acc) l
def idx (n : Nat) : List Nat → Option Nat
  | [] => none
  | m :: l => if n = m then some 0 else (idx n l).map (· + 1)

/-- The place, in a list of operations from place k on, of one that writes t. -/
def writer (t : Nat) : List Oper → Nat → Option Nat
  | [], _ => none
  | o :: l, k => if o.dst = some t then some k else writer t l (k + 1)

def zeroOf (P : Program) (t : TypeId) : Option (List AV) :=
  match P.info? t with
  | some i => match i.zero with
    | some v => ofConsts v.cells.toList
    | none => none
  | none => none

/-- some (some n): a struct or an array of n cells; some none: one cell. -/
def aggSz (P : Program) (t : TypeId) : Option (Option Nat) :=
  match P.underlying t with
  | some (.struct _) => (P.info? t).map fun i => some i.size
  | some (.array _ _) => (P.info? t).map fun i => some i.size
  | some _ => some none
  | none => none

def szOf (P : Program) (t : TypeId) : Option Nat := (P.info? t).map (·.size)
def bytesOf? (P : Program) (t : TypeId) : Option Nat := (P.info? t).map (·.bytes)

def flatFields (P : Program) : List Field → Nat → Option (List FK)
  | [], _ => some []
  | f :: l, i =>
    if f.offset = i ∧ f.name ≠ "_" then
      match P.underlying f.type, flatFields P l (i + 1) with
      | some (.int _), some r => some (.int :: r)
      | some .bool, some r => some (.bool :: r)
      | some .string, some r => some (.str :: r)
      | _, _ => none
    else none

def flatOk (P : Program) (t : TypeId) : EqCls :=
  match P.underlying t with
  | some (.struct fs) =>
    if P.stoodInHeld t = false ∧ P.eqGuardType P.depth t = false then
      match flatFields P fs.toList 0 with
      | some ks => .agg ks
      | none => .no
    else .no
  | some .bool => .bool
  | _ => .no

def eqClsOf (P : Program) (op : BinOp) (t : TypeId) : EqCls :=
  match op with
  | .eql => flatOk P t
  | .neq => flatOk P t
  | _ => .no

section
variable (P : Program) (res : Operand → Option RX)

def resL : List Operand → Option (List RX)
  | [] => some []
  | x :: l =>
    match res x, resL l with
    | some a, some r => some (a :: r)
    | _, _ => none

def partsStruct (fs : Array Field) : List (Nat × Operand) → Option (List (Nat × Nat × RX))
  | [] => some []
  | (i, x) :: l =>
    match fs[i]? with
    | none => none
    | some f =>
      match szOf P f.type, res x, partsStruct fs l with
      | some n, some a, some r => some ((f.offset, n, a) :: r)
      | _, _, _ => none

def partsRow (size : Nat) : List (Nat × Operand) → Option (List (Nat × Nat × RX))
  | [] => some []
  | (i, x) :: l =>
    match res x, partsRow size l with
    | some a, some r => some ((i * size, size, a) :: r)
    | _, _ => none

def optX : Option Operand → Option (Option RX)
  | none => some none
  | some x => (res x).map some

/-- Every field's type is known (the model looks each up). -/
def fieldsKnown (fs : Array Field) : Bool := fs.toList.all fun f => (P.info? f.type).isSome

def eOf (t : TypeId) : Nat :=
  match P.underlying t with
  | some (.array _ e) => P.cellsOf e
  | _ => 1

def compileBuiltin (b : Builtin) (argTypes : Array TypeId) (args : List Operand) : Option ROp :=
  match b, args with
  | .len, [x] =>
    match argTypes[0]? with
    | some t =>
      match P.underlying t with
      | some .string => (res x).map .lenStr
      | some (.slice _) => (res x).map .len
      | some (.array n _) => some (.move (.k (.int .i64 n)))
      | _ => none
    | none => none
  | .append, [x, y] =>
    match argTypes[0]?, argTypes[1]? with
    | some t, some u =>
      match P.underlying t, P.underlying u with
      | some (.slice e), some (.slice _) =>
        match szOf P e, bytesOf? P e, zeroOf P e, res x, res y with
        | some n, some b, some z, some a, some c => if 0 < n ∧ 0 < b ∧ z.length = n then some (.append n b a c) else none
        | _, _, _, _, _ => none
      | _, _ => none
    | _, _ => none
  | .copy, [x, y] =>
    match argTypes[0]? with
    | some t =>
      match P.underlying t with
      | some (.slice e) =>
        match szOf P e, res x, res y with
        | some n, some a, some c => if 0 < n then some (.copy n a c) else none
        | _, _, _ => none
      | _ => none
    | none => none
  | .clear, [x] =>
    match argTypes[0]? with
    | some t =>
      match P.underlying t with
      | some (.slice e) =>
        match szOf P e, zeroOf P e, res x with
        | some n, some z, some a => if 0 < n ∧ z.length = n then some (.clear n z a) else none
        | _, _, _ => none
      | _ => none
    | none => none
  | .min, x :: ys =>
    match res x, resL res ys with
    | some a, some l => some (.min a l)
    | _, _ => none
  | .max, x :: ys =>
    match res x, resL res ys with
    | some a, some l => some (.max a l)
    | _, _ => none
  | _, _ => none

def compileOp (ap : List RX) (op : Op) : Option ROp :=
  match op with
  | .move x => (res x).map .move
  | .assign x => (res x).map .move
  | .pick c a b =>
    match res c, res a, res b with
    | some c, some a, some b => some (.pick c a b)
    | _, _, _ => none
  | .alloc t => (zeroOf P t).map fun z => .alloc (eOf P t) z
  | .box t x => (res x).map fun a => .box (eOf P t) a
  | .build t parts =>
    match P.underlying t with
    | some (.struct fs) =>
      if fieldsKnown P fs then
        match zeroOf P t, partsStruct P res fs parts.toList with
        | some z, some ps => some (.build z ps)
        | _, _ => none
      else none
    | some (.array _ e) =>
      match szOf P e, zeroOf P t with
      | some n, some z => (partsRow res n parts.toList).map fun ps => .build z ps
      | _, _ => none
    | _ => none
  | .buildSlice t len parts =>
    match P.underlying t with
    | some (.slice e) =>
      match szOf P e, zeroOf P e, partsRow res (P.cellsOf e) parts.toList with
      | some n, some z, some ps => if 0 < n ∧ z.length = n ∧ len * n ≤ 2 ^ 24 then some (.buildSlice n z ps len) else none
      | _, _, _ => none
    | _ => none
  | .load t x =>
    match aggSz P t, res x with
    | some sz, some a => some (.load sz a)
    | _, _ => none
  | .store t x v =>
    match szOf P t, res x, res v with
    | some n, some a, some b => some (.store n a b ap)
    | _, _, _ => none
  | .nilCheck x => (res x).map .nilCheck
  | .binOp op t x y _ =>
    match res x, res y with
    | some a, some b => some (.bin op (eqClsOf P op t) a b)
    | _, _ => none
  | .unOp op _ x => (res x).map fun a => .un op a
  | .convert src dst x =>
    match P.underlying src, P.underlying dst, res x with
    | some (.int _), some (.int k), some a => some (.convInt k a)
    | _, _, _ => none
  | .makeFunc (.func f) first captured => if first.size = 0 then (resL res captured.toList).map fun l => .makeFunc f l else none
  | .makeSlice t l c =>
    match P.underlying t with
    | some (.slice e) =>
      match szOf P e, bytesOf? P e, zeroOf P e, res l, res c with
      | some n, some b, some z, some x, some y => if 0 < n ∧ z.length = n then some (.makeSlice n b z x y) else none
      | _, _, _, _, _ => none
    | _ => none
  | .slice t x lo hi mx =>
    match P.underlying t, res x, optX res lo, optX res hi, optX res mx with
    | some (.slice e), some a, some l, some h, some m => if m.isSome && h.isNone then none else (szOf P e).map fun n => .slice n a l h m
    | some .string, some a, some l, some h, some none => some (.sliceStr a l h)
    | _, _, _, _, _ => none
  | .fieldAddr s x f =>
    match P.underlying s with
    | some (.struct fs) =>
      match fs[f]? with
      | some fd =>
        match szOf P fd.type, res x with
        | some n, some a => if 0 < n then some (.fieldAddr fd.offset a) else none
        | _, _ => none
      | none => none
    | _ => none
  | .field t x f =>
    match P.underlying t with
    | some (.struct fs) =>
      match fs[f]? with
      | some fd =>
        match aggSz P fd.type, res x with
        | some sz, some a => some (.field fd.offset sz a)
        | _, _ => none
      | none => none
    | _ => none
  | .indexAddr t x i =>
    match P.underlying t with
    | some (.slice e) =>
      match szOf P e, res x, res i with
      | some n, some a, some j => some (.indexAddr n a j)
      | _, _, _ => none
    | some (.array len e) =>
      match szOf P e, res x, res i with
      | some n, some a, some j => some (.indexArr len n a j)
      | _, _, _ => none
    | _ => none
  | .index t x i =>
    match P.underlying t with
    | some .string =>
      match res x, res i with
      | some a, some j => some (.indexStr a j)
      | _, _ => none
    | _ => none
  | .extract x i => (res x).map fun a => .extract a i
  | .call c =>
    match c.callee with
    | .value (.func f) => (resL res c.args.toList).map fun l => .callS f l
    | .value x =>
      match res x, resL res c.args.toList with
      | some a, some l => some (.call a l)
      | _, _ => none
    | .builtin b => compileBuiltin P res b c.argTypes c.args.toList
    | .invoke _ _ => none
  | _ => none

end

/-- Touches the heap (reads, makes or writes it). -/
def touches : Op → Bool
  | .alloc _ | .box .. | .buildSlice .. | .load .. | .store .. | .makeSlice .. => true
  | .call { callee := .builtin b, .. } => (match b with | .len => false | .min => false | .max => false | _ => true)
  | .call _ => true
  | _ => false

def isLoad : Op → Bool
  | .load .. => true
  | _ => false
def isStore : Op → Bool
  | .store .. => true
  | _ => false

/-- Writes it whatever it is handed (a store apart). -/
def mustWrite : Op → Bool
  | .call { callee := .builtin b, .. } => (match b with | .copy => true | .clear => true | _ => false)
  | _ => false

/-- Which operations come before each, as bits: the edges that always bind, closed. -/
def ancs (acc : List Nat) : List Oper → List Nat
  | [] => acc
  | o :: l => ancs (acc ++ [o.after.toList.foldl (fun s e => if Region.binds .any e then s ||| 2 ^ e.on ||| acc.getD e.on 0 else s) 0]) l

def preB (draw : Bool) (A : List Nat) (j i : Nat) : Bool := if draw then (A.getD i 0).testBit j else decide (j < i)

/-- Are two operations ordered by what must come before? -/
def ordB (draw : Bool) (A : List Nat) (i j : Nat) : Bool := if j < i then preB draw A j i else preB draw A i j

/-- Is operation i ordered against all others that touch the heap? -/
def freeAt (draw : Bool) (A : List Nat) (all : List Oper) (i : Nat) : Bool :=
  all.zipIdx.all fun (o, j) => j == i || !touches o.op || ordB draw A i j

/-- An operand: a local where an operation that must come before writes it; a variable where nothing in the region does, or only what must come behind. -/
def resAt (vars : List Nat) (draw : Bool) (A : List Nat) (all : List Oper) (i : Nat) : Operand → Option RX
  | .tmp t =>
    match writer t all 0 with
    | some j =>
      if j < i then (if preB draw A j i then some (.loc j) else none)
      else if j = i ∨ preB draw A i j = true then (idx t vars).map .var else none
    | none => (idx t vars).map .var
  | .const v => (ofConst v).map .k
  | .func f => some (.k (.func f []))
  | .global _ => none

/-- The places that loads read which a store is not ordered against: each must be a variable's; none: the store cannot be let through. -/
def apartOf (vars : List Nat) (draw : Bool) (A : List Nat) (all : List Oper) (i : Nat) : List Oper → Nat → Option (List RX)
  | [], _ => some []
  | o :: l, j =>
    match apartOf vars draw A all i l (j + 1) with
    | none => none
    | some r =>
      if j == i || !touches o.op || ordB draw A i j then some r
      else match o.op with
        | .load _ x => (match resAt vars draw A all j x with | some (.var y) => some (.var y :: r) | _ => none)
        | _ => none

def lsOnly (all : List Oper) : Bool := all.all fun o => !touches o.op || isLoad o.op || isStore o.op

def tmpsOf (op : Op) : List Nat := op.operands.toList.filterMap fun | .tmp t => some t | _ => none

def compileOper (P : Program) (vars : List Nat) (nt : Nat) (draw : Bool) (A : List Nat) (all : List Oper) (i : Nat) (o : Oper) : Option ROper :=
  match (if isStore o.op then apartOf vars draw A all i all 0 else some []) with
  | none => none
  | some ap =>
  match compileOp P (resAt vars draw A all i) ap o.op with
  | none => some { op := .fail, guard := none, dst := none, free := false }
  | some r =>
    if (match o.dst with | some d => decide (d < nt) && (writer d all 0 == some i) | none => true) &&
      (match o.guard with | some (g, _) => decide (g < i) && preB draw A g i && ((all[g]?).bind (·.dst)).isSome | none => true) &&
      (!mustWrite o.op || freeAt draw A all i) && (ap.isEmpty || lsOnly all)
    then some { op := r, guard := o.guard, dst := o.dst.bind (idx · vars), free := freeAt draw A all i }
    else none

def compileOpers (P : Program) (vars : List Nat) (nt : Nat) (draw : Bool) (A : List Nat) (all : List Oper) : List Oper → Nat → Option (List ROper)
  | [], _ => some []
  | o :: l, i =>
    match compileOper P vars nt draw A all i o, compileOpers P vars nt draw A all l (i + 1) with
    | some r, some rs => some (r :: rs)
    | _, _ => none

/-- Edges that bind point back. -/
def edgesB : List Oper → Nat → Bool
  | [], _ => true
  | o :: l, i => (o.after.toList.all fun e => !Region.binds .any e || decide (e.on < i)) && edgesB l (i + 1)

def compileRegion (P : Program) (vars : List Nat) (nt : Nat) (draw : Bool) (ops : List Oper) : RCode :=
  match compileOpers P vars nt draw (ancs [] ops) ops ops 0 with
  | some l => if !draw || edgesB ops 0 then .ops l else .fail
  | none => .fail

def compileCode (P : Program) (vars : List Nat) (nt : Nat) : Code → RCode
  | .skip => .skip
  | .region _ ops draw => compileRegion P vars nt draw ops.toList
  | .seq a b => .seq (compileCode P vars nt a) (compileCode P vars nt b)
  | .cond c a b =>
    match resAt vars false [] [] 0 c with
    | some x => .cond x (compileCode P vars nt a) (compileCode P vars nt b)
    | none => .fail
  | .block id c => .block id (compileCode P vars nt c)
  | .loop c => .loop (compileCode P vars nt c)
  | .exit id => .exit id
  | .ret => .ret
  | _ => .fail

def freeReads : List Oper → List Nat → List Nat
  | [], _ => []
  | o :: l, defd => (tmpsOf o.op).filter (fun t => !memN t defd) ++ freeReads l (match o.dst with | some d => d :: defd | none => defd)

def persist : Code → List Nat
  | .region _ ops _ => freeReads ops.toList []
  | .seq a b => persist a ++ persist b
  | .cond c a b => (match c with | .tmp t => [t] | _ => []) ++ persist a ++ persist b
  | .block _ c => persist c
  | .loop c => persist c
  | _ => []

def resTmp : ResultVar → Nat
  | .tmp t => t
  | .cell t _ => t

def compileRes (P : Program) (vars : List Nat) : ResultVar → Option RRes
  | .tmp t => (idx t vars).map .var
  | .cell t ty =>
    match idx t vars, aggSz P ty with
    | some x, some sz => some (.cell x sz)
    | _, _ => none

def compileResL (P : Program) (vars : List Nat) : List ResultVar → Option (List RRes)
  | [] => some []
  | r :: l =>
    match compileRes P vars r, compileResL P vars l with
    | some a, some b => some (a :: b)
    | _, _ => none

def nodupB : List Nat → Bool
  | [] => true
  | n :: l => !memN n l && nodupB l

def varsOf (fn : Func) (c : Code) : List Nat :=
  dedup [] (List.range (fn.params.size + fn.nfree) ++ fn.results.toList.map resTmp ++ persist c)

def compileFunc (P : Program) (fn : Func) : Option RFunc :=
  match fn.body with
  | none => none
  | some c =>
    let vars := varsOf fn c
    let na := fn.params.size + fn.nfree
    match compileResL P vars fn.results.toList with
    | some res =>
      if fn.name != "runtime.NumGoroutine" && nodupB vars && vars.all (· < fn.ntmps) && decide (vars.take na = List.range na) then
        some { nargs := na, nvars := vars.length, res, body := compileCode P vars fn.ntmps c }
      else none
    | none => none

def table (P : Program) (f : Nat) : Option RFunc := (P.funcs[f]?).bind (compileFunc P)

end Go.RM
