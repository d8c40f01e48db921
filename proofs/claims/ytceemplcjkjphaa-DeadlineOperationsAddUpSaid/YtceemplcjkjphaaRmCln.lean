import Derived.Test.YtceemplcjkjphaaRmRegion7
/-
  slices.Clone, of elements of any number of cells: its run in the model, and what the abstract machine says of it.
-/
namespace Go.RM
open Go.Proofs Go.Shelf Go.RowKit Go.Lib
set_option linter.unusedVariables false
set_option linter.unusedSimpArgs false

/-- The function's text, whatever its name, and what it asks of the types. -/
structure ClnLaid (P : Program) (g : Nat) (ρ : Ren) (nm : String) (e bytes : Nat) : Prop where
  mixed : P.follows .mixedOrders = true
  fn : P.funcs[g]? = some { Body2.n16 ρ with name := nm }
  nm : nm ≠ "runtime.NumGoroutine"
  t4 : P.underlying (ρ.t 4) = some (TypeDesc.bool)
  a4 : ∀ w, (isAgg (ρ.t 4)).run P w = .ok false w
  z4 : ∀ w, (Go.sizeOf (ρ.t 4)).run P w = .ok 1 w
  v4 : ∀ w, (zeroValue (ρ.t 4)).run P w = .ok (Value.bool false) w
  t24 : P.underlying (ρ.t 24) = some (TypeDesc.slice (ρ.t 9))
  a24 : ∀ w, (isAgg (ρ.t 24)).run P w = .ok false w
  z24 : ∀ w, (Go.sizeOf (ρ.t 24)).run P w = .ok 1 w
  v24 : ∀ w, (zeroValue (ρ.t 24)).run P w = .ok (Value.slice none 0 0) w
  z9 : ∀ w, (Go.sizeOf (ρ.t 9)).run P w = .ok e w
  i9 : ∃ i z, P.info? (ρ.t 9) = some i ∧ i.size = e ∧ i.bytes = bytes ∧ i.zero = some z ∧ z.cells.toList.length = e
  epos : 0 < e
  bpos : 0 < bytes

variable {P : Program} {g : Nat} {ρ : Ren} {nm : String} {e bytes : Nat}

set_option maxHeartbeats 4000000 in
set_option maxRecDepth 100000 in
theorem cln_nil (L : ClnLaid P g ρ nm e bytes) {w : World} : Calls P g #[.slice none 0 0] w fun x W => x = .returned (.slice none 0 0) ∧ W = w := by
  have t4 := L.t4; have a4 := L.a4; have z4 := L.z4; have v4 := L.v4; have z9 := L.z9; have t24 := L.t24; have a24 := L.a24; have z24 := L.z24; have v24 := L.v24
  have u4 := run_underlying L.t4; have u24 := run_underlying L.t24
  have mixed := L.mixed
  have qT : ∀ (w : World) (a : Option Addr) n c, (binOp .eql (ρ.t 24) (.slice a n c) (.slice none 0 0)).run P w = .ok (.bool a.isNone) w := fun w a n c => Lib.run_eql_slice_nil w _ _ _ _ _ _ _ L.t24
  go_enter L.fn, Body2.n16_ntmps ρ
  go_wp2
  all_goals (go_ret; exact ⟨rfl, rfl⟩)

set_option maxHeartbeats 4000000 in
set_option maxRecDepth 100000 in
theorem cln_some (L : ClnLaid P g ρ nm e bytes) {ad : Addr} {n c : Nat} {w w' : World} {r : Value}
    (hr : ∀ ty, (Builtin.append_ #[ρ.t 24, ρ.t 24] ty #[.slice (some ⟨w.heap.size, 0, none⟩) 0 0, .slice (some ad) n c]).run P (w.alloc (.cells #[] (ρ.t 9))) = .ok r w') :
    Calls P g #[.slice (some ad) n c] w fun x W => x = .returned r ∧ W = w' := by
  have t4 := L.t4; have a4 := L.a4; have z4 := L.z4; have v4 := L.v4; have z9 := L.z9; have t24 := L.t24; have a24 := L.a24; have z24 := L.z24; have v24 := L.v24
  have u4 := run_underlying L.t4; have u24 := run_underlying L.t24
  have mixed := L.mixed
  have qT : ∀ (w : World) (a : Option Addr) n c, (binOp .eql (ρ.t 24) (.slice a n c) (.slice none 0 0)).run P w = .ok (.bool a.isNone) w := fun w a n c => Lib.run_eql_slice_nil w _ _ _ _ _ _ _ L.t24
  go_enter L.fn, Body2.n16_ntmps ρ
  go_wp2_with (at_builtin; refine Lib.wpList_append_run _ rfl _ _ _ _ rfl _ _ rfl rfl _ _ (hr _) ?_)
  all_goals (go_ret; exact ⟨rfl, rfl⟩)


/-- WHAT THE ABSTRACT MACHINE SAYS OF slices.Clone, THE MODEL DOES. -/
theorem prim_clone (L : ClnLaid P g ρ nm e bytes) : PrimOk P g (.clone e bytes) := by
  intro flx args H v H' h
  have hfn : ∃ fn, P.funcs[g]? = some fn ∧ fn.body.isSome = true ∧ fn.name ≠ "runtime.NumGoroutine" := ⟨_, L.fn, rfl, L.nm⟩
  refine ⟨hfn, ?_⟩
  unfold rprim at h
  split at h
  case h_1 => rename_i hpe; cases hpe
  case h_3 => cases h
  rename_i e' bytes' s hpe
  cases hpe
  intro n0 base m w cargs hfl hs hargs hfresh
  rcases cargs with _ | ⟨cs, _ | ⟨_, _⟩⟩
  · exact hargs.elim
  case cons.cons => exact hargs.2.elim
  obtain ⟨hcs, _⟩ := hargs
  unfold rclone at h
  split at h
  · cases h
  rename_i n hn
  obtain ⟨hlen, a, c, rfl⟩ := lenOf_rel (P := P) hcs hn w
  -- a row of no elements is laid ahead
  have hsz1 : (w.alloc (.cells #[] (ρ.t 9))).heap.size = w.heap.size + 1 := by simp
  have hold1 : ∀ c, c < w.heap.size → (w.alloc (.cells #[] (ρ.t 9))).heap[c]? = w.heap[c]? := fun c hc => by
    simp only [World.alloc]
    rw [Array.getElem?_push, if_neg (by omega)]
  have hs1 : Sim n0 base m H (w.alloc (.cells #[] (ρ.t 9))) := sim_world hs (by omega) hold1
  have st1 : Step n0 base flx m H w m H (w.alloc (.cells #[] (ρ.t 9))) := ⟨Ext.refl m, fun b l h1 h2 => by simp [h1] at h2, hs1, rfl, rfl, rfl, by omega, Nat.le_refl _, fun c hc _ => hold1 c hc, fun _ _ h => h⟩
  split at h
  · -- nothing
    rename_i h0
    subst h0
    simp only [Option.some.injEq, Prod.mk.injEq] at h
    obtain ⟨rfl, rfl⟩ := h
    cases a with
    | none =>
      have hc0 : c = 0 := by
        cases s with
        | slice b off k lim =>
          simp only [sliceLen, Option.some.injEq] at hn; subst hn
          obtain ⟨a', cap, hv, hle, l, hm, hcap, ha⟩ := hcs
          cases hv
          rcases ha with ha | ha
          · cases ha
          · exact ha
        | empty => obtain ⟨a', hv⟩ := hcs; cases hv; rfl
        | _ => simp [sliceLen] at hn
      subst hc0
      exact Calls.mono (cln_nil L) fun x W ⟨h1, h2⟩ => by subst h2; exact ⟨_, m, h1, ⟨none, rfl⟩, Step.refl hs⟩
    | some ad =>
      have hr : ∀ ty, (Builtin.append_ #[ρ.t 24, ρ.t 24] ty #[.slice (some ⟨w.heap.size, 0, none⟩) 0 0, .slice (some ad) 0 c]).run P (w.alloc (.cells #[] (ρ.t 9))) = .ok (.slice (some ⟨w.heap.size, 0, none⟩) 0 0) (w.alloc (.cells #[] (ρ.t 9))) := fun ty =>
        (run_app L.t24 L.i9 L.epos L.bpos ty (a := some ⟨w.heap.size, 0, none⟩) (n := 0) (c := 0) (m := 0) (v := .slice (some ad) 0 c) (vs := []) rfl (fun w' _ => by
          simp only [Builtin.firstCells, Nat.zero_mul]; exact loadCells_zero ad w')).1 (Nat.le_refl _) _ (fun ad had => rfl) (fun h => by cases h)
      exact Calls.mono (cln_some L hr) fun x W ⟨h1, h2⟩ => by subst h2; exact ⟨_, m, h1, ⟨_, rfl⟩, st1⟩
  · rename_i h0
    rw [Option.ite_none_right_eq_some] at h
    obtain ⟨⟨hep, hbb, h40⟩, h⟩ := h
    simp only [Option.map_eq_some_iff, Prod.mk.injEq] at h
    obtain ⟨xs, hxs, rfl, rfl⟩ := h
    obtain ⟨ys, y1, y2, y3⟩ := firstCells_rel (P := P) hs1 hcs hxs
    have hyl : ys.length = n * e := by rw [← y1.length]; exact y2
    cases a with
    | none =>
      exfalso
      cases s with
      | slice b off k lim =>
        simp only [sliceLen, Option.some.injEq] at hn; subst hn
        obtain ⟨a', cap, hv, hle, l, hm, hcap, ha⟩ := hcs
        cases hv
        rcases ha with ha | ha
        · cases ha
        · omega
      | empty => simp only [sliceLen, Option.some.injEq] at hn; omega
      | _ => simp [sliceLen] at hn
    | some ad =>
      obtain ⟨G, rest, g1, g2, g3⟩ := (run_app L.t24 L.i9 L.epos L.bpos (ρ.t 24) (a := some ⟨w.heap.size, 0, none⟩) (n := 0) (c := 0) (m := n) (v := .slice (some ad) n c) (w := w.alloc (.cells #[] (ρ.t 9))) (vs := ys) rfl y3).2 (by omega) (by rw [Nat.zero_add, nextslicecap_zero (by omega)]; omega) [] (fun w' _ => by
        simp only [Builtin.firstCells, Nat.zero_mul]; exact loadCells_zero _ w')
      have hr : ∀ ty, (Builtin.append_ #[ρ.t 24, ρ.t 24] ty #[.slice (some ⟨w.heap.size, 0, none⟩) 0 0, .slice (some ad) n c]).run P (w.alloc (.cells #[] (ρ.t 9))) = .ok (.slice (some ⟨(w.alloc (.cells #[] (ρ.t 9))).heap.size, 0, none⟩) (0 + n) G) ((w.alloc (.cells #[] (ρ.t 9))).drew.alloc (.cells (ys ++ rest).toArray (ρ.t 9))) := fun ty => by
        have := g3
        rwa [List.nil_append] at this
      refine Calls.mono (cln_some L hr) fun x W ⟨h1, h2⟩ => ?_
      subst h2
      rw [Nat.zero_add] at h1
      have hres : AppRes flx true m H (w.alloc (.cells #[] (ρ.t 9))) (.slice H.length 0 n none) (H ++ [{ cells := xs, e := e }]) (.slice (some ⟨(w.alloc (.cells #[] (ρ.t 9))).heap.size, 0, none⟩) n G) ((w.alloc (.cells #[] (ρ.t 9))).drew.alloc (.cells (ys ++ rest).toArray (ρ.t 9))) :=
        .push (nk := { cells := xs, e := e }) ⟨rfl, rfl⟩ y1 (by omega) (by
          show (ys ++ rest).length = G * e
          rw [List.length_append, hyl, g2, ← Nat.add_mul]; congr 1; omega)
      obtain ⟨m', a1, a2⟩ := app_step hres hs1 hfl (fun hl => hfresh _ (Nat.le_refl _) hl)
      exact ⟨_, m', h1, a1, st1.trans a2⟩


/-! ### A seat's facts -/

theorem size_of {P : Program} {t : TypeId} {n : Nat} {z : Value} (h : (P.info? t).map (fun i => (i.size, i.zero)) = some (n, some z)) : (∀ w, (Go.sizeOf t).run P w = .ok n w) ∧ ∀ w, (zeroValue t).run P w = .ok z w := by
  cases hi : P.info? t with
  | none => rw [hi] at h; simp at h
  | some i =>
    rw [hi] at h
    simp only [Option.map_some, Option.some.injEq, Prod.mk.injEq] at h
    obtain ⟨rfl, h2⟩ := h
    exact ⟨fun w => run_size hi w, fun w => run_zero hi h2 w⟩
theorem elem_of {P : Program} {t : TypeId} {e bytes : Nat} (h : (P.info? t).map (fun i => (i.size, i.bytes, i.zero.map fun z => z.cells.toList.length)) = some (e, bytes, some e)) :
    (∀ w, (Go.sizeOf t).run P w = .ok e w) ∧ ∃ i z, P.info? t = some i ∧ i.size = e ∧ i.bytes = bytes ∧ i.zero = some z ∧ z.cells.toList.length = e := by
  cases hi : P.info? t with
  | none => rw [hi] at h; simp at h
  | some i =>
    rw [hi] at h
    simp only [Option.map_some, Option.some.injEq, Prod.mk.injEq, Option.map_eq_some_iff] at h
    obtain ⟨rfl, h2, z, h3, h4⟩ := h
    exact ⟨fun w => run_size hi w, i, z, rfl, rfl, h2, h3, h4⟩

theorem InsLaid.of {P : Program} {g : Nat} {ρ : Ren} {nm : String} {e bytes : Nat} {fo : Func} (mixed : P.follows .mixedOrders = true) (fn : P.funcs[g]? = some { Body2.n22 ρ with name := nm }) (hnm : nm ≠ "runtime.NumGoroutine")
    (o1 : P.funcs[ρ.f 29]? = some fo) (o2 : (fo.name == "runtime.NumGoroutine") = false) (o3 : fo.body.isNone = true) (o4 : Extern.findNext fo = none) (o5 : Extern.find fo = some (Extern.SlicesOverlaps.overlaps #[(ρ.t 24), (ρ.t 24)] #[(ρ.t 4)]))
    (t3 : P.underlying (ρ.t 3) = some (TypeDesc.int IntKind.i64)) (t4 : P.underlying (ρ.t 4) = some (TypeDesc.bool)) (t24 : P.underlying (ρ.t 24) = some (TypeDesc.slice (ρ.t 9)))
    (i3 : (P.info? (ρ.t 3)).map (fun i => (i.size, i.zero)) = some (1, some (Value.int IntKind.i64 0))) (i4 : (P.info? (ρ.t 4)).map (fun i => (i.size, i.zero)) = some (1, some (Value.bool false))) (i24 : (P.info? (ρ.t 24)).map (fun i => (i.size, i.zero)) = some (1, some (Value.slice none 0 0)))
    (i9 : (P.info? (ρ.t 9)).map (fun i => (i.size, i.bytes, i.zero.map fun z => z.cells.toList.length)) = some (e, bytes, some e)) (epos : 0 < e) (bpos : 0 < bytes) : InsLaid P g ρ nm e bytes where
  mixed := mixed
  fn := fn
  nm := hnm
  ov := ⟨fo, o1, o2, o3, o4, o5⟩
  t3 := t3
  a3 := isAgg_plain t3 rfl
  z3 := (size_of i3).1
  v3 := (size_of i3).2
  t4 := t4
  a4 := isAgg_plain t4 rfl
  z4 := (size_of i4).1
  v4 := (size_of i4).2
  t24 := t24
  a24 := isAgg_plain t24 rfl
  z24 := (size_of i24).1
  v24 := (size_of i24).2
  z9 := (elem_of i9).1
  i9 := (elem_of i9).2
  epos := epos
  bpos := bpos

theorem ClnLaid.of {P : Program} {g : Nat} {ρ : Ren} {nm : String} {e bytes : Nat} (mixed : P.follows .mixedOrders = true) (fn : P.funcs[g]? = some { Body2.n16 ρ with name := nm }) (hnm : nm ≠ "runtime.NumGoroutine")
    (t4 : P.underlying (ρ.t 4) = some (TypeDesc.bool)) (t24 : P.underlying (ρ.t 24) = some (TypeDesc.slice (ρ.t 9)))
    (i4 : (P.info? (ρ.t 4)).map (fun i => (i.size, i.zero)) = some (1, some (Value.bool false))) (i24 : (P.info? (ρ.t 24)).map (fun i => (i.size, i.zero)) = some (1, some (Value.slice none 0 0)))
    (i9 : (P.info? (ρ.t 9)).map (fun i => (i.size, i.bytes, i.zero.map fun z => z.cells.toList.length)) = some (e, bytes, some e)) (epos : 0 < e) (bpos : 0 < bytes) : ClnLaid P g ρ nm e bytes where
  mixed := mixed
  fn := fn
  nm := hnm
  t4 := t4
  a4 := isAgg_plain t4 rfl
  z4 := (size_of i4).1
  v4 := (size_of i4).2
  t24 := t24
  a24 := isAgg_plain t24 rfl
  z24 := (size_of i24).1
  v24 := (size_of i24).2
  z9 := (elem_of i9).1
  i9 := (elem_of i9).2
  epos := epos
  bpos := bpos

end Go.RM

/-
  Variables that nobody points at are taken out of the heap: a pass over the abstract machine's code, and that it keeps what the code computes.
-/
namespace Go.RM
set_option linter.unusedSimpArgs false
set_option linter.unusedVariables false

inductive LK where
  | plain
  | no
  | addr (x off : Nat) (g : Option (Nat × Bool))
  deriving Inhabited

/-- Where a variable's value stands now; true: the variable was made anew in this list. -/
abbrev Curs := List (Nat × RX × Bool)

def Curs.get (c : Curs) (x : Nat) : RX :=
  match c with
  | [] => .var x
  | (y, r, _) :: l => if y = x then r else Curs.get l x
def Curs.fresh (c : Curs) (x : Nat) : Bool :=
  match c with
  | [] => false
  | (y, _, f) :: l => (if y = x then f else false) || Curs.fresh l x
def Curs.has (c : Curs) (x : Nat) : Bool := c.any fun p => p.1 == x

def plainRX (bv : List Nat) (ks : List LK) : RX → Bool
  | .var y => !memN y bv
  | .loc j => (match ks[j]? with | some .plain => true | _ => false)
  | .k _ => true

def ROp.rxs : ROp → List RX
  | .fail => []
  | .move x => [x]
  | .pick c a b => [c, a, b]
  | .alloc _ _ => []
  | .box _ x => [x]
  | .build _ ps => ps.map (·.2.2)
  | .buildSlice _ _ ps _ => ps.map (·.2.2)
  | .load _ x => [x]
  | .store _ x v ap => x :: v :: ap
  | .nilCheck x => [x]
  | .bin _ _ x y => [x, y]
  | .un _ x => [x]
  | .convInt _ x => [x]
  | .makeFunc _ l => l
  | .makeSlice _ _ _ a b => [a, b]
  | .slice _ x a b c => x :: (a.toList ++ b.toList ++ c.toList)
  | .sliceStr x a b => x :: (a.toList ++ b.toList)
  | .fieldAddr _ x => [x]
  | .field _ _ x => [x]
  | .indexAddr _ x i => [x, i]
  | .indexArr _ _ x i => [x, i]
  | .indexStr x i => [x, i]
  | .indexAgg _ _ _ x i => [x, i]
  | .extract x _ => [x]
  | .call f l => f :: l
  | .callS _ l => l
  | .len x => [x]
  | .lenStr x => [x]
  | .append _ _ x y => [x, y]
  | .copy _ x y => [x, y]
  | .clear _ _ x => [x]
  | .min x l => x :: l
  | .max x l => x :: l
  | .tomb _ x => [x]
  | .upd _ _ x v => [x, v]

def dstPlain (bv : List Nat) (d : Option Nat) : Bool := match d with | some y => !memN y bv | none => true

def guardPlain (ks : List LK) (g : Option (Nat × Bool)) : Bool :=
  match g with
  | none => true
  | some (j, _) => (match ks[j]? with | some .plain => true | _ => false)

/-- An operand as the address of a taken variable. -/
def asBox (bv : List Nat) (ks : List LK) (c : Curs) : RX → Option (Nat × Nat × Option (Nat × Bool))
  | .var x => if memN x bv && !c.fresh x then some (x, 0, none) else none
  | .loc j => (match ks[j]? with | some (.addr x off g) => some (x, off, g) | _ => none)
  | .k _ => none

def LK.names (x : Nat) : LK → Bool
  | .addr y _ _ => y == x
  | _ => false

def optPlain (bv : List Nat) (ks : List LK) (c : Curs) (o : ROper) : Option (ROper × LK × Curs) :=
  if o.op.rxs.all (plainRX bv ks) && dstPlain bv o.dst && guardPlain ks o.guard then some (o, .plain, c) else none

def optMake (bv : List Nat) (ks : List LK) (c : Curs) (i : Nat) (o : ROper) (e : Nat) (v : RX) : Option (ROper × LK × Curs) :=
  match o.dst with
  | some x =>
    if memN x bv then
      if o.guard.isNone && plainRX bv ks v && !c.has x && !(ks.any (LK.names x)) then some ({ op := .tomb e v, guard := none, dst := some x, free := o.free }, .addr x 0 none, (x, .loc i, true) :: c) else none
    else optPlain bv ks c o
  | none => optPlain bv ks c o

def sameGuard (g h : Option (Nat × Bool)) : Bool :=
  match g, h with
  | none, _ => true
  | some (i, b), some (j, b') => i == j && b == b'
  | _, _ => false

/-- Where a load beside a store reads: a taken variable's place is no other's. -/
def apRX (bv : List Nat) (c : Curs) : RX → RX
  | .var x => if memN x bv && !c.fresh x then c.get x else .var x
  | r => r

def apOk (bv : List Nat) (ks : List LK) (c : Curs) : RX → Bool
  | .var x => !memN x bv || !c.fresh x
  | r => plainRX bv ks r

def optOper (bv : List Nat) (ks : List LK) (c : Curs) (i : Nat) (o : ROper) : Option (ROper × LK × Curs) :=
  match o.op with
  | .alloc e z => optMake bv ks c i o e (.k (.agg z))
  | .box e v => optMake bv ks c i o e v
  | .load sz p =>
    match asBox bv ks c p with
    | some (x, off, g) => if sameGuard g o.guard && dstPlain bv o.dst && guardPlain ks o.guard then some ({ o with op := .field off sz (c.get x) }, .plain, c) else none
    | none => optPlain bv ks c o
  | .fieldAddr off p =>
    match asBox bv ks c p with
    | some (x, off', g) => if sameGuard g o.guard && o.dst.isNone && guardPlain ks o.guard then some ({ o with op := .field 0 none (c.get x) }, .addr x (off' + off) o.guard, c) else none
    | none => optPlain bv ks c o
  | .store n p v ap =>
    match asBox bv ks c p with
    | some (x, off, g) => if g.isNone && o.guard.isNone && o.dst.isNone && ap.isEmpty && plainRX bv ks v then some ({ op := .upd n off (c.get x) v, guard := none, dst := some x, free := o.free }, .no, (x, .loc i, c.fresh x) :: c) else none
    | none =>
      if plainRX bv ks p && plainRX bv ks v && dstPlain bv o.dst && guardPlain ks o.guard && ap.all (apOk bv ks c) then some ({ o with op := .store n p v (ap.map (apRX bv c)) }, .plain, c) else none
  | _ => optPlain bv ks c o

def optOps (bv : List Nat) : List ROper → List LK → Curs → Option (List ROper)
  | [], _, _ => some []
  | o :: l, ks, c =>
    match optOper bv ks c ks.length o with
    | some (o', k, c') => (optOps bv l (ks ++ [k]) c').map (o' :: ·)
    | none => none

def optCode (bv : List Nat) : RCode → Option RCode
  | .ops l => (optOps bv l [] []).map .ops
  | .seq a b =>
    match optCode bv a, optCode bv b with
    | some a, some b => some (.seq a b)
    | _, _ => none
  | .cond x a b =>
    if plainRX bv [] x then
      match optCode bv a, optCode bv b with
      | some a, some b => some (.cond x a b)
      | _, _ => none
    else none
  | .block id c => (optCode bv c).map (.block id)
  | .loop c => (optCode bv c).map .loop
  | c => some c

def optRes (bv : List Nat) : RRes → Option RRes
  | .var x => if memN x bv then none else some (.var x)
  | .cell x sz => if memN x bv then some (.part x sz) else some (.cell x sz)
  | .part x sz => if memN x bv then none else some (.part x sz)

def optResL (bv : List Nat) : List RRes → Option (List RRes)
  | [] => some []
  | r :: l =>
    match optRes bv r, optResL bv l with
    | some a, some b => some (a :: b)
    | _, _ => none

def optFuncW (bv : List Nat) (f : RFunc) : Option RFunc :=
  if bv.all (fun x => decide (f.nargs ≤ x) && decide (x < f.nvars)) && decide (f.nargs ≤ f.nvars) then
    match optResL bv f.res, optCode bv f.body with
    | some r, some c => some { f with res := r, body := c }
    | _, _ => none
  else none

def RCode.made : RCode → List Nat
  | .ops l => l.filterMap fun o => match o.op with | .alloc .. => o.dst | .box .. => o.dst | _ => none
  | .seq a b => a.made ++ b.made
  | .cond _ a b => a.made ++ b.made
  | .block _ c => c.made
  | .loop c => c.made
  | _ => []

def optFunc (f : RFunc) : Option RFunc :=
  let bv := (dedup [] f.body.made).filter fun x => (optFuncW [x] f).isSome
  match optFuncW bv f with
  | some g => some g
  | none => optFuncW [] f

/-- The table of the functions, with such variables taken out. -/
def tableO (P : Program) (pr : Nat → Option Prim) (f : Nat) : Option RFunc := (table P pr f).bind optFunc

/-! ### The heaps -/

def Tomb (H : Heap) (b : Nat) : Prop := ∃ k, H[b]? = some k ∧ k.live = false ∧ k.kid = none

structure Le (HB HA : Heap) : Prop where
  len : HB.length = HA.length
  get : ∀ b : Nat, HB[b]? = HA[b]? ∨ (Tomb HB b ∧ ∃ k k', HB[b]? = some k ∧ HA[b]? = some k' ∧ k.e = k'.e)

theorem Le.refl (H : Heap) : Le H H := ⟨rfl, fun _ => .inl rfl⟩

theorem Tomb.not_live {H : Heap} {b : Nat} {k : Blk} (h : Tomb H b) (hg : H[b]? = some k) : k.live = false ∧ k.kid = none := by
  obtain ⟨k', h1, h2⟩ := h; rw [hg] at h1; cases h1; exact h2

theorem Tomb.act {H : Heap} {b : Nat} (h : Tomb H b) : H.act b = none := by
  obtain ⟨k, h1, h2, h3⟩ := h
  unfold Heap.act; rw [h1]; simp [h2, Heap.rev, h3]

theorem Le.live {HB HA : Heap} (h : Le HB HA) {b : Nat} {k : Blk} (hg : HB[b]? = some k) (hn : k.live = true ∨ k.kid ≠ none) : HA[b]? = some k := by
  rcases h.get b with e | ⟨t, _⟩
  · rw [← e]; exact hg
  · have := t.not_live hg
    rcases hn with hn | hn
    · rw [this.1] at hn; simp at hn
    · exact absurd this.2 hn

theorem Le.blk {HB HA : Heap} (h : Le HB HA) {b : Nat} {k : Blk} (hb : HB.blk b = some k) : HA.blk b = some k := by
  obtain ⟨_, hl, hg⟩ := blk_act hb
  have := h.live hg (.inl hl)
  unfold Heap.blk; rw [this]; simp [hl]

theorem Le.rev {HB HA : Heap} (h : Le HB HA) {k : Blk} {c : Nat} (hr : HB.rev k = some c) : HA.rev k = some c := by
  obtain ⟨hd, hk⟩ := rev_kid hr
  unfold Heap.rev at hr ⊢
  simp only [hd, hk] at hr ⊢
  cases hc : HB[c]? with
  | none => simp [hc] at hr
  | some kc =>
    simp only [hc] at hr
    have hl : kc.live = true := by
      by_cases h1 : (kc.live && kc.clean) = true
      · simp only [Bool.and_eq_true] at h1; exact h1.1
      · simp [h1] at hr
    rw [h.live hc (.inl hl)]; exact hr

theorem Le.act {HB HA : Heap} (h : Le HB HA) {b : Nat} {k : Blk} (ha : HB.act b = some k) : HA.act b = some k := by
  have hg := act_get ha
  have hcase : k.live = true ∨ ∃ c, HB.rev k = some c := by
    unfold Heap.act at ha
    rw [hg] at ha
    by_cases hl : k.live = true
    · exact .inl hl
    · simp only [hl, Bool.false_or] at ha
      split at ha
      · rename_i hr; exact .inr (Option.isSome_iff_exists.1 hr)
      · simp at ha
  rcases hcase with hl | ⟨c, hr⟩
  · exact act_of (h.live hg (.inl hl)) (.inl hl)
  · exact act_of (h.live hg (.inr (by rw [(rev_kid hr).2]; simp))) (.inr (by rw [h.rev hr]; rfl))

/-- The two runs' heaps stay alike, and what only the one has is left alone. -/
structure Mono (HB HA HB' HA' : Heap) : Prop where
  le : Le HB' HA'
  len : HB.length ≤ HB'.length
  fr : ∀ b, Tomb HB b → HA'[b]? = HA[b]? ∧ Tomb HB' b

theorem Mono.refl {HB HA : Heap} (h : Le HB HA) : Mono HB HA HB HA := ⟨h, Nat.le_refl _, fun b t => ⟨rfl, t⟩⟩

theorem Mono.trans {HB HA HB1 HA1 HB2 HA2 : Heap} (a : Mono HB HA HB1 HA1) (b : Mono HB1 HA1 HB2 HA2) : Mono HB HA HB2 HA2 :=
  ⟨b.le, Nat.le_trans a.len b.len, fun x t => ⟨(b.fr x (a.fr x t).2).1.trans (a.fr x t).1, (b.fr x (a.fr x t).2).2⟩⟩

theorem Tomb.lt {H : Heap} {b : Nat} (h : Tomb H b) : b < H.length := by obtain ⟨k, h1, _⟩ := h; exact get_lt h1

theorem Mono.set {HB HA : Heap} (h : Le HB HA) {b : Nat} {k : Blk} (hn : ¬ Tomb HB b) : Mono HB HA (HB.set b k) (HA.set b k) := by
  have hg : ∀ x, x ≠ b → (HB.set b k)[x]? = HB[x]? ∧ (HA.set b k)[x]? = HA[x]? := fun x hx => ⟨List.getElem?_set_ne (by omega), List.getElem?_set_ne (by omega)⟩
  refine ⟨⟨by simp [h.len], fun x => ?_⟩, by simp, fun x t => ?_⟩
  · by_cases e : x = b
    · subst e
      left
      by_cases hl : x < HB.length
      · rw [List.getElem?_set_self hl, List.getElem?_set_self (by rw [← h.len]; exact hl)]
      · rw [List.getElem?_eq_none (by simp; omega), List.getElem?_eq_none (by simp; have := h.len; omega)]
    · rw [(hg x e).1, (hg x e).2]
      rcases h.get x with e1 | ⟨⟨k0, t1, t2⟩, e2⟩
      · exact .inl e1
      · exact .inr ⟨⟨k0, by rw [(hg x e).1]; exact t1, t2⟩, e2⟩
  · have e : x ≠ b := fun e => hn (e ▸ t)
    obtain ⟨k0, t1, t2⟩ := t
    exact ⟨(hg x e).2, k0, by rw [(hg x e).1]; exact t1, t2⟩

theorem Mono.push {HB HA : Heap} (h : Le HB HA) (k : Blk) : Mono HB HA (HB ++ [k]) (HA ++ [k]) := by
  refine ⟨⟨by simp [h.len], fun x => ?_⟩, by simp, fun x t => ?_⟩
  · by_cases hl : x < HB.length
    · rw [List.getElem?_append_left hl, List.getElem?_append_left (by rw [← h.len]; exact hl)]
      rcases h.get x with e1 | ⟨⟨k0, t1, t2⟩, e2⟩
      · exact .inl e1
      · exact .inr ⟨⟨k0, by rw [List.getElem?_append_left hl]; exact t1, t2⟩, e2⟩
    · left
      rw [List.getElem?_append_right (by omega), List.getElem?_append_right (by have := h.len; omega), h.len]
  · have hl := t.lt
    obtain ⟨k0, t1, t2⟩ := t
    exact ⟨by rw [List.getElem?_append_left (by rw [← h.len]; exact hl)], k0, by rw [List.getElem?_append_left hl]; exact t1, t2⟩

theorem not_tomb_act {H : Heap} {b : Nat} {k : Blk} (h : H.act b = some k) : ¬ Tomb H b := fun t => by rw [t.act] at h; simp at h

theorem Mono.kill {HB HA : Heap} (h : Le HB HA) {c : Nat} (hn : ∃ kc, HB[c]? = some kc ∧ kc.live = true) : Mono HB HA (HB.kill c) (HA.kill c) := by
  obtain ⟨kc, h1, h2⟩ := hn
  unfold Heap.kill
  rw [h1, h.live h1 (.inl h2)]
  exact Mono.set h fun t => by have := (t.not_live h1).1; rw [h2] at this; simp at this

theorem rput_mono {HB HA : Heap} (h : Le HB HA) {fl b off : Nat} {cs : List AV} {H' : Heap} (hp : rput fl HB b off cs = some H') : ∃ HA', rput fl HA b off cs = some HA' ∧ Mono HB HA H' HA' := by
  unfold rput at hp ⊢
  split at hp
  · rename_i k hk
    rw [h.blk hk]
    simp only
    split at hp
    · rename_i hc
      rw [if_pos hc]
      simp only [Option.some.injEq] at hp
      subst hp
      exact ⟨_, rfl, Mono.set h (not_tomb_act (blk_act hk).1)⟩
    · simp at hp
  · simp at hp

theorem apartB_mono {HB HA : Heap} (h : Le HB HA) {b : Nat} : ∀ {l : List AV}, apartB HB b l = true → apartB HA b l = true
  | [], _ => rfl
  | .ptr b' o' :: l, hl => by
    simp only [apartB, Bool.and_eq_true] at hl ⊢
    refine ⟨⟨hl.1.1, ?_⟩, apartB_mono h hl.2⟩
    have h2 := hl.1.2
    unfold notKid at h2 ⊢
    split at h2
    · rename_i k hk; rw [h.act hk]; exact h2
    · cases h2
  | .int .. :: _, h => by simp [apartB] at h
  | .bool _ :: _, h => by simp [apartB] at h
  | .str _ :: _, h => by simp [apartB] at h
  | .nilptr :: _, h => by simp [apartB] at h
  | .slice .. :: _, h => by simp [apartB] at h
  | .empty :: _, h => by simp [apartB] at h
  | .func .. :: _, h => by simp [apartB] at h
  | .nilfunc :: _, h => by simp [apartB] at h
  | .agg _ :: l, hl => by simp only [apartB] at hl ⊢; exact apartB_mono h hl
  | .tuple _ :: _, h => by simp [apartB] at h

theorem sliceCells_mono {HB HA : Heap} (h : Le HB HA) {e n : Nat} {v : AV} {xs : List AV} (hs : sliceCells HB e n v = some xs) : sliceCells HA e n v = some xs := by
  unfold sliceCells at hs ⊢
  split at hs
  · exact hs
  · split at hs
    · rename_i h0; rw [if_pos h0]; exact hs
    · rename_i h0
      rw [if_neg h0]
      split at hs
      · simp at hs
      · rename_i h1
        rw [if_neg h1]
        split at hs
        · rename_i k hk; rw [h.act hk]; exact hs
        · simp at hs
  · simp at hs

theorem rslice_mono {HB HA : Heap} (h : Le HB HA) {e : Nat} {x : AV} {lo hi mx : Option AV} {v : AV} (hs : rslice HB e x lo hi mx = some v) : rslice HA e x lo hi mx = some v := by
  have he : ∀ b : Nat, (HA[b]?).map (·.e) = (HB[b]?).map (·.e) := fun b => by
    rcases h.get b with e | ⟨_, k, k', h1, h2, h3⟩
    · rw [e]
    · rw [h1, h2]; simp [h3]
  have hup : ∀ (b off h' : Nat) (lim : Option Nat), upB HB e b off h' lo hi mx lim = true → upB HA e b off h' lo hi mx lim = true := fun b off h' lim hu => by
    unfold upB at hu ⊢
    simp only [Bool.and_eq_true] at hu ⊢
    refine ⟨hu.1, ?_⟩
    have hu2 := hu.2
    split at hu2
    · rename_i k hk; rw [h.act hk]; exact hu2
    · simp at hu2
  unfold rslice at hs ⊢
  simp only [he]
  split at hs
  · exact hs
  · split at hs
    · rename_i l h' m g1 g2 g3
      split at hs
      · rename_i hc
        rw [if_pos ⟨hc.1, hc.2.1.imp id (hup _ _ _ _), hc.2.2⟩]; exact hs
      · simp at hs
    · simp at hs
  · simp at hs

theorem rappendTop_mono {HB HA : Heap} (h : Le HB HA) {fl : Nat} {free : Bool} {e b off n k : Nat} {blk : Blk} {xs : List AV} {v : AV} {H' : Heap} (hn : ¬ Tomb HB b) (ha : rappendTop fl free e HB b off n k blk xs = some (v, H')) :
    ∃ HA', rappendTop fl free e HA b off n k blk xs = some (v, HA') ∧ Mono HB HA H' HA' := by
  unfold rappendTop at ha ⊢
  rw [← h.len]
  split at ha
  · rename_i hc
    rw [if_pos hc]
    simp only [Option.some.injEq, Prod.mk.injEq] at ha
    obtain ⟨rfl, rfl⟩ := ha
    have m1 := Mono.set h (k := { blk with live := false, kid := if free then some HB.length else none }) hn
    exact ⟨_, rfl, m1.trans (Mono.push m1.le _)⟩
  · simp at ha

theorem rappend_mono {HB HA : Heap} (h : Le HB HA) {fl : Nat} {free : Bool} {e bytes : Nat} {s : AV} {k : Nat} {xs : List AV} {v : AV} {H' : Heap} (ha : rappend fl free e bytes HB s k xs = some (v, H')) :
    ∃ HA', rappend fl free e bytes HA s k xs = some (v, HA') ∧ Mono HB HA H' HA' := by
  unfold rappend at ha ⊢
  split at ha
  · rename_i h0
    rw [if_pos h0]
    split at ha <;> simp only [Option.some.injEq, Prod.mk.injEq, reduceCtorEq] at ha
    all_goals (obtain ⟨rfl, rfl⟩ := ha; exact ⟨_, rfl, Mono.refl h⟩)
  · rename_i h0
    rw [if_neg h0]
    split at ha
    · split at ha
      · rename_i hc
        rw [if_pos hc, ← h.len]
        simp only [Option.some.injEq, Prod.mk.injEq] at ha
        obtain ⟨rfl, rfl⟩ := ha
        exact ⟨_, rfl, Mono.push h _⟩
      · simp at ha
    · split at ha
      · simp at ha
      · rename_i blk hact
        have hnt := not_tomb_act hact
        rw [h.act hact]
        simp only
        split at ha
        · rename_i hc
          rw [if_pos hc]
          split at ha
          · rename_i hl
            rw [if_pos hl]
            split at ha
            · split at ha
              · rename_i hle
                rw [if_pos hle]
                split at ha
                · rename_i hf
                  rw [if_pos hf]
                  simp only [Option.map_eq_some_iff, Prod.mk.injEq] at ha ⊢
                  obtain ⟨H1, hp, rfl, rfl⟩ := ha
                  obtain ⟨HA1, p1, p2⟩ := rput_mono h hp
                  exact ⟨HA1, ⟨HA1, p1, rfl, rfl⟩, p2⟩
                · simp at ha
              · rename_i hle
                rw [if_neg hle, ← h.len]
                simp only [Option.some.injEq, Prod.mk.injEq] at ha
                obtain ⟨rfl, rfl⟩ := ha
                exact ⟨_, rfl, Mono.push h _⟩
            · split at ha
              · rename_i he
                rw [if_pos he]
                exact rappendTop_mono h hnt ha
              · rename_i he
                rw [if_neg he]
                split at ha
                · rename_i hf
                  rw [if_pos hf]
                  simp only [Option.map_eq_some_iff, Prod.mk.injEq] at ha ⊢
                  obtain ⟨H1, hp, rfl, rfl⟩ := ha
                  obtain ⟨HA1, p1, p2⟩ := rput_mono h hp
                  exact ⟨HA1, ⟨HA1, p1, rfl, rfl⟩, p2⟩
                · simp at ha
          · rename_i hl
            rw [if_neg hl]
            split at ha
            · rename_i c hrev
              have hrA := h.rev hrev
              split at ha
              · rename_i hcd
                simp only [hrA]
                rw [if_pos hcd]
                have hkc : ∃ kc, HB[c]? = some kc ∧ kc.live = true := by
                  obtain ⟨hd, hk⟩ := rev_kid hrev
                  unfold Heap.rev at hrev
                  simp only [hd, hk] at hrev
                  cases hc : HB[c]? with
                  | none => simp [hc] at hrev
                  | some kc =>
                    refine ⟨kc, rfl, ?_⟩
                    simp only [hc] at hrev
                    by_cases h1 : (kc.live && kc.clean) = true
                    · simp only [Bool.and_eq_true] at h1; exact h1.1
                    · simp [h1] at hrev
                have m1 := Mono.kill h hkc
                have hnt' : ¬ Tomb (HB.kill c) _ := fun t => by
                  obtain ⟨k0, t1, t2, t3⟩ := t
                  rw [kill_ne (Ne.symm (rev_ne (act_get hact) hrev).1), act_get hact] at t1
                  cases t1
                  have := (rev_kid hrev).2
                  rw [t3] at this; simp at this
                obtain ⟨HA', a1, a2⟩ := rappendTop_mono m1.le hnt' ha
                exact ⟨HA', a1, m1.trans a2⟩
              · simp at ha
            · simp at ha
        · simp at ha
    · simp at ha

/-- A call in the one table, and in the other. -/
def CallLe (callB callA : Nat → Nat → List AV → Heap → Option (AV × Heap)) : Prop := ∀ fl g args HB v HB' HA, fl ≤ HB.length → callB fl g args HB = some (v, HB') → Le HB HA → ∃ HA', callA fl g args HA = some (v, HA') ∧ Mono HB HA HB' HA'

theorem rop_mono {callB callA : Nat → Nat → List AV → Heap → Option (AV × Heap)} (hcall : CallLe callB callA) {fl : Nat} {free : Bool} {X : RX → AV} {HB HA HB' : Heap} (hfl : fl ≤ HB.length) (h : Le HB HA) {r : ROp} {v : AV}
    (hr : rop callB fl free X HB r = some (v, HB')) : ∃ HA', rop callA fl free X HA r = some (v, HA') ∧ Mono HB HA HB' HA' := by
  by_cases hp : pureR r = true
  · obtain ⟨rfl, hp2⟩ := rop_pure hp hr
    have he : ∀ b : Nat, (HA[b]?).map (·.e) = (HB'[b]?).map (·.e) := fun b => by
      rcases h.get b with e | ⟨_, k, k', h1, h2, h3⟩
      · rw [e]
      · rw [h1, h2]; simp [h3]
    have := hp2 HA he
    refine ⟨HA, ?_, Mono.refl h⟩
    cases r <;> first | exact this | simp [pureR] at hp
  · cases r <;> simp only [pureR, not_true_eq_false] at hp <;> simp only [rop, reduceCtorEq] at hr ⊢
    case alloc => rw [← h.len]; simp only [Option.some.injEq, Prod.mk.injEq] at hr; obtain ⟨rfl, rfl⟩ := hr; exact ⟨_, rfl, Mono.push h _⟩
    case box => rw [← h.len]; simp only [Option.some.injEq, Prod.mk.injEq] at hr; obtain ⟨rfl, rfl⟩ := hr; exact ⟨_, rfl, Mono.push h _⟩
    case slice =>
      simp only [Option.map_eq_some_iff, Prod.mk.injEq] at hr ⊢
      obtain ⟨v0, hv, rfl, rfl⟩ := hr
      exact ⟨HA, ⟨v0, rslice_mono h hv, rfl, rfl⟩, Mono.refl h⟩
    case buildSlice =>
      rw [← h.len]
      simp only [Option.map_eq_some_iff, Prod.mk.injEq] at hr ⊢
      obtain ⟨cs, h1, rfl, rfl⟩ := hr
      exact ⟨_, ⟨cs, h1, rfl, rfl⟩, Mono.push h _⟩
    case load =>
      split at hr
      · rename_i hx
        simp only [Option.map_eq_some_iff, Prod.mk.injEq] at hr ⊢
        obtain ⟨v0, h1, rfl, rfl⟩ := hr
        refine ⟨HA, ⟨v0, ?_, rfl, rfl⟩, Mono.refl h⟩
        unfold rload at h1 ⊢
        split at h1
        · rename_i k hk; rw [h.act hk]; exact h1
        · simp at h1
      · simp at hr
    case store =>
      split at hr
      · rename_i hx
        split at hr
        · rename_i hc
          rw [if_pos ⟨hc.1, apartB_mono h hc.2⟩]
          simp only [Option.map_eq_some_iff, Prod.mk.injEq] at hr ⊢
          obtain ⟨H1, h1, rfl, rfl⟩ := hr
          obtain ⟨HA1, p1, p2⟩ := rput_mono h h1
          exact ⟨HA1, ⟨HA1, p1, rfl, rfl⟩, p2⟩
        · simp at hr
      · simp at hr
    case makeSlice =>
      rw [← h.len]
      split at hr
      · split at hr
        · rename_i hc
          simp only [Option.some.injEq, Prod.mk.injEq] at hr
          obtain ⟨rfl, rfl⟩ := hr
          rw [if_pos hc]
          exact ⟨_, rfl, Mono.push h _⟩
        · simp at hr
      · simp at hr
    case call f args =>
      rw [← h.len]
      split at hr
      · exact hcall _ _ _ _ _ _ _ (by split <;> omega) hr h
      · simp at hr
    case callS f args =>
      rw [← h.len]
      exact hcall _ _ _ _ _ _ _ (by split <;> omega) hr h
    case append =>
      split at hr
      · simp only [Option.bind_eq_some_iff] at hr ⊢
        obtain ⟨xs, h1, h2⟩ := hr
        obtain ⟨HA', a1, a2⟩ := rappend_mono h h2
        exact ⟨HA', ⟨xs, sliceCells_mono h h1, a1⟩, a2⟩
      · simp at hr
    case copy =>
      split at hr
      · split at hr
        · rename_i h0
          rw [if_pos h0]
          simp only [Option.some.injEq, Prod.mk.injEq] at hr; obtain ⟨rfl, rfl⟩ := hr
          exact ⟨HA, rfl, Mono.refl h⟩
        · rename_i h0
          rw [if_neg h0]
          split at hr
          · simp only [Option.bind_eq_some_iff, Option.map_eq_some_iff, Prod.mk.injEq] at hr ⊢
            obtain ⟨xs, h1, H1, h2, rfl, rfl⟩ := hr
            obtain ⟨HA1, p1, p2⟩ := rput_mono h h2
            exact ⟨HA1, ⟨xs, sliceCells_mono h h1, HA1, p1, rfl, rfl⟩, p2⟩
          · simp at hr
      · simp at hr
    case clear =>
      split at hr
      · simp only [Option.some.injEq, Prod.mk.injEq] at hr; obtain ⟨rfl, rfl⟩ := hr
        exact ⟨HA, rfl, Mono.refl h⟩
      · split at hr
        · rename_i h0
          rw [if_pos h0]
          simp only [Option.some.injEq, Prod.mk.injEq] at hr; obtain ⟨rfl, rfl⟩ := hr
          exact ⟨HA, rfl, Mono.refl h⟩
        · rename_i h0
          rw [if_neg h0]
          simp only [Option.map_eq_some_iff, Prod.mk.injEq] at hr ⊢
          obtain ⟨H1, h2, rfl, rfl⟩ := hr
          obtain ⟨HA1, p1, p2⟩ := rput_mono h h2
          exact ⟨HA1, ⟨HA1, p1, rfl, rfl⟩, p2⟩
      · simp at hr
    case tomb => simp only [Option.some.injEq, Prod.mk.injEq] at hr; obtain ⟨rfl, rfl⟩ := hr; exact ⟨_, rfl, Mono.push h _⟩

end Go.RM

/-
  The pass keeps what the code computes.
-/
namespace Go.RM
set_option linter.unusedSimpArgs false
set_option linter.unusedVariables false

theorem rop_congr {call : Nat → Nat → List AV → Heap → Option (AV × Heap)} {fl : Nat} {free : Bool} {X Y : RX → AV} {H : Heap} {r : ROp} (h : ∀ rx ∈ r.rxs, X rx = Y rx) : rop call fl free X H r = rop call fl free Y H r := by
  have hm : ∀ {l : List RX}, (∀ rx ∈ l, X rx = Y rx) → l.map X = l.map Y := fun h => List.map_congr_left h
  have hm3 : ∀ {l : List (Nat × Nat × RX)}, (∀ rx ∈ l.map (·.2.2), X rx = Y rx) → (l.map fun p => (p.1, p.2.1, X p.2.2)) = (l.map fun p => (p.1, p.2.1, Y p.2.2)) := fun h =>
    List.map_congr_left fun p hp => by rw [h p.2.2 (List.mem_map.2 ⟨p, hp, rfl⟩)]
  have ho : ∀ {x : Option RX}, (∀ rx ∈ x.toList, X rx = Y rx) → x.map X = x.map Y := fun {x} h => by
    cases x with
    | none => rfl
    | some a => simp [h a (by simp)]
  cases r <;> simp only [ROp.rxs] at h <;> simp only [rop]
  case move => rw [h _ (by simp)]
  case pick => rw [h _ (by simp), h _ (by simp), h _ (by simp)]
  case box => rw [h _ (by simp)]
  case build => rw [hm3 h]
  case buildSlice => rw [hm3 h]
  case load => rw [h _ (by simp)]
  case store n x v ap => rw [h x (by simp), h v (by simp), hm (l := ap) fun rx hrx => h rx (by simp [hrx])]
  case nilCheck => rw [h _ (by simp)]
  case bin => rw [h _ (by simp), h _ (by simp)]
  case un => rw [h _ (by simp)]
  case convInt => rw [h _ (by simp)]
  case makeFunc => rw [hm h]
  case makeSlice => rw [h _ (by simp), h _ (by simp)]
  case slice e x lo hi mx => rw [h x (by simp), ho (x := lo) fun rx hrx => h rx (by simp at hrx ⊢; simp [hrx]), ho (x := hi) fun rx hrx => h rx (by simp at hrx ⊢; simp [hrx]), ho (x := mx) fun rx hrx => h rx (by simp at hrx ⊢; simp [hrx])]
  case sliceStr x lo hi => rw [h x (by simp), ho (x := lo) fun rx hrx => h rx (by simp at hrx ⊢; simp [hrx]), ho (x := hi) fun rx hrx => h rx (by simp at hrx ⊢; simp [hrx])]
  case fieldAddr => rw [h _ (by simp)]
  case field => rw [h _ (by simp)]
  case indexAddr => rw [h _ (by simp), h _ (by simp)]
  case indexArr => rw [h _ (by simp), h _ (by simp)]
  case indexStr => rw [h _ (by simp), h _ (by simp)]
  case indexAgg => rw [h _ (by simp), h _ (by simp)]
  case extract => rw [h _ (by simp)]
  case call f l => rw [h f (by simp), hm (l := l) fun rx hrx => h rx (by simp [hrx])]
  case callS f l => rw [hm h]
  case len => rw [h _ (by simp)]
  case lenStr => rw [h _ (by simp)]
  case append => rw [h _ (by simp), h _ (by simp)]
  case copy => rw [h _ (by simp), h _ (by simp)]
  case clear => rw [h _ (by simp)]
  case min x l => rw [h x (by simp), hm (l := l) fun rx hrx => h rx (by simp [hrx])]
  case max x l => rw [h x (by simp), hm (l := l) fun rx hrx => h rx (by simp [hrx])]
  case tomb => rw [h _ (by simp)]
  case upd => rw [h _ (by simp), h _ (by simp)]

structure Rel (bv : List Nat) (fl : Nat) (HB0 HA0 : Heap) (EA : List AV) (HA : Heap) (EB : List AV) (HB : Heap) : Prop where
  len : EA.length = EB.length
  lt : ∀ x ∈ bv, x < EA.length
  fl0 : fl ≤ HB0.length
  hl : HB0.length ≤ HB.length
  le : Le HB HA
  fr : ∀ b, Tomb HB0 b → HA[b]? = HA0[b]? ∧ Tomb HB b
  eq : ∀ y, y ∉ bv → EA.getD y .undef = EB.getD y .undef
  box : ∀ x ∈ bv, (EA.getD x .undef = .undef ∧ EB.getD x .undef = .undef) ∨ ∃ b k, EA.getD x .undef = .ptr b 0 ∧ Tomb HB b ∧ HB0.length ≤ b ∧ HA[b]? = some k ∧ k.live = true ∧ k.kid = none ∧ EB.getD x .undef = .agg k.cells
  inj : ∀ x ∈ bv, ∀ x' ∈ bv, ∀ b, EA.getD x .undef = .ptr b 0 → EA.getD x' .undef = .ptr b 0 → x = x'

structure IL (bv : List Nat) (fl : Nat) (HB0 HA0 : Heap) (EA0 EB0 LA LB EA : List AV) (HA : Heap) (EB : List AV) (HB : Heap) (ks : List LK) (c : Curs) : Prop where
  rel : Rel bv fl HB0 HA0 EA HA EB HB
  la : LA.length = ks.length
  lb : LB.length = ks.length
  plain : ∀ j : Nat, ks[j]? = some LK.plain → LA[j]? = LB[j]?
  eq0 : ∀ y, y ∉ bv → EA0.getD y .undef = EB0.getD y .undef
  cur : ∀ x ∈ bv, RX.ev LB EB0 (c.get x) = EB.getD x .undef
  curlt : ∀ x i, c.get x = .loc i → i < ks.length
  old : ∀ x ∈ bv, c.fresh x = false → EA.getD x .undef = EA0.getD x .undef
  addr : ∀ (j x off : Nat) (g : Option (Nat × Bool)), ks[j]? = some (LK.addr x off g) → x ∈ bv ∧ guardPlain ks g = true ∧ (wantedB g LA = true → ∃ b, EA.getD x .undef = .ptr b 0 ∧ LA[j]? = some (AV.ptr b off))

theorem not_mem_of {bv : List Nat} {y : Nat} (h : (!memN y bv) = true) : y ∉ bv := fun hm => by rw [memN_iff.2 hm] at h; simp at h

theorem snoc_get {α : Type} {l : List α} {a : α} {j : Nat} {v : α} (h : (l ++ [a])[j]? = some v) : l[j]? = some v ∨ (j = l.length ∧ a = v) := by
  by_cases e : j < l.length
  · rw [List.getElem?_append_left e] at h; exact .inl h
  · rw [List.getElem?_append_right (by omega)] at h
    cases hq : j - l.length with
    | zero => rw [hq] at h; simp at h; exact .inr ⟨by omega, h⟩
    | succ q => rw [hq] at h; simp at h

theorem snoc_lt {α : Type} {l : List α} (a : α) {j : Nat} (h : j < l.length) : (l ++ [a])[j]? = l[j]? := List.getElem?_append_left h
theorem snoc_end {α : Type} (l : List α) (a : α) : (l ++ [a])[l.length]? = some a := by rw [List.getElem?_append_right (Nat.le_refl _)]; simp

theorem guard_lt {ks : List LK} {j : Nat} {b : Bool} (h : guardPlain ks (some (j, b)) = true) : ks[j]? = some .plain := by
  simp only [guardPlain] at h
  split at h
  · assumption
  · simp at h

theorem guard_snoc {ks : List LK} {g : Option (Nat × Bool)} (h : guardPlain ks g = true) (k : LK) : guardPlain (ks ++ [k]) g = true := by
  cases g with
  | none => rfl
  | some p =>
    obtain ⟨j, b⟩ := p
    have := guard_lt h
    simp only [guardPlain]
    rw [snoc_lt k (List.getElem?_eq_some_iff.1 this).1, this]

section
variable {bv : List Nat} {fl : Nat} {HB0 HA0 : Heap} {EA0 EB0 LA LB EA : List AV} {HA : Heap} {EB : List AV} {HB : Heap} {ks : List LK} {c : Curs}

theorem IL.wanted (I : IL bv fl HB0 HA0 EA0 EB0 LA LB EA HA EB HB ks c) {g : Option (Nat × Bool)} (h : guardPlain ks g = true) : wantedB g LA = wantedB g LB := by
  cases g with
  | none => rfl
  | some p =>
    obtain ⟨j, b⟩ := p
    simp only [wantedB, I.plain j (guard_lt h)]

theorem wanted_snoc {LA : List AV} (hl : LA.length = ks.length) {g : Option (Nat × Bool)} (h : guardPlain ks g = true) (v : AV) : wantedB g (LA ++ [v]) = wantedB g LA := by
  cases g with
  | none => rfl
  | some p =>
    obtain ⟨j, b⟩ := p
    have := (List.getElem?_eq_some_iff.1 (guard_lt h)).1
    simp only [wantedB, snoc_lt v (show j < LA.length by omega)]

theorem IL.plainX (I : IL bv fl HB0 HA0 EA0 EB0 LA LB EA HA EB HB ks c) {rx : RX} (h : plainRX bv ks rx = true) : RX.ev LA EA0 rx = RX.ev LB EB0 rx := by
  cases rx with
  | var y => exact I.eq0 y (not_mem_of h)
  | k v => rfl
  | loc j =>
    simp only [plainRX] at h
    split at h
    · rename_i hk
      simp only [RX.ev, List.getD_eq_getElem?_getD, I.plain j hk]
    · simp at h

theorem ev_snoc {LB : List AV} {rx : RX} {n : Nat} (hl : LB.length = n) (h : ∀ i, rx = .loc i → i < n) (v : AV) : RX.ev (LB ++ [v]) EB0 rx = RX.ev LB EB0 rx := by
  cases rx with
  | var y => rfl
  | k v => rfl
  | loc j =>
    have := h j rfl
    simp only [RX.ev, List.getD_eq_getElem?_getD, snoc_lt v (show j < LB.length by omega)]

theorem Rel.mono (R : Rel bv fl HB0 HA0 EA HA EB HB) {HB' HA' : Heap} (M : Mono HB HA HB' HA') : Rel bv fl HB0 HA0 EA HA' EB HB' where
  len := R.len
  lt := R.lt
  fl0 := R.fl0
  hl := Nat.le_trans R.hl M.len
  le := M.le
  fr := fun b t => ⟨(M.fr b (R.fr b t).2).1.trans (R.fr b t).1, (M.fr b (R.fr b t).2).2⟩
  eq := R.eq
  box := fun x hx => by
    rcases R.box x hx with h | ⟨b, k, h1, h2, h3, h4, h5⟩
    · exact .inl h
    · exact .inr ⟨b, k, h1, (M.fr b h2).2, h3, by rw [(M.fr b h2).1]; exact h4, h5⟩
  inj := R.inj

theorem getD_set_eq {E : List AV} {x : Nat} {v : AV} (h : x < E.length) : (E.set x v).getD x .undef = v := by simp [h]
theorem getD_set_ne {E : List AV} {x y : Nat} {v : AV} (h : y ≠ x) : (E.set x v).getD y .undef = E.getD y .undef := by
  simp only [List.getD_eq_getElem?_getD, List.getElem?_set_ne (Ne.symm h)]

theorem putDst_plain {d : Option Nat} (hd : dstPlain bv d = true) {v : AV} {E : List AV} {x : Nat} (hx : x ∈ bv) : (putDst d v E).getD x .undef = E.getD x .undef := by
  refine putDst_ne fun e => ?_
  subst e
  exact not_mem_of hd hx

theorem Rel.put (R : Rel bv fl HB0 HA0 EA HA EB HB) {d : Option Nat} (hd : dstPlain bv d = true) (v : AV) : Rel bv fl HB0 HA0 (putDst d v EA) HA (putDst d v EB) HB where
  len := by rw [putDst_len, putDst_len]; exact R.len
  lt := fun x hx => by rw [putDst_len]; exact R.lt x hx
  fl0 := R.fl0
  hl := R.hl
  le := R.le
  fr := R.fr
  eq := fun y hy => by
    cases d with
    | none => exact R.eq y hy
    | some z =>
      by_cases e : y = z
      · subst e
        by_cases hl : y < EA.length
        · simp only [putDst]; rw [getD_set_eq hl, getD_set_eq (by rw [← R.len]; exact hl)]
        · have h1 := R.len
          simp only [putDst, List.getD_eq_getElem?_getD]
          rw [List.getElem?_eq_none (by simp; omega), List.getElem?_eq_none (by simp; omega)]
      · simp only [putDst]; rw [getD_set_ne e, getD_set_ne e]; exact R.eq y hy
  box := fun x hx => by rw [putDst_plain hd hx, putDst_plain hd hx]; exact R.box x hx
  inj := fun x hx x' hx' b => by rw [putDst_plain hd hx, putDst_plain hd hx']; exact R.inj x hx x' hx' b

/-- A step that leaves the taken variables alone; 'k' is the kind of the new local. -/
theorem IL.next (I : IL bv fl HB0 HA0 EA0 EB0 LA LB EA HA EB HB ks c) {HB' HA' : Heap} (M : Mono HB HA HB' HA') {d : Option Nat} (hd : dstPlain bv d = true) {vA v : AV} {k : LK} (hput : d ≠ none → vA = v)
    (hk1 : k = .plain → vA = v) (hk2 : ∀ x off g, k = .addr x off g → x ∈ bv ∧ guardPlain ks g = true ∧ (wantedB g LA = true → ∃ b, EA.getD x .undef = .ptr b 0 ∧ vA = .ptr b off)) :
    IL bv fl HB0 HA0 EA0 EB0 (LA ++ [vA]) (LB ++ [v]) (putDst d vA EA) HA' (putDst d v EB) HB' (ks ++ [k]) c := by
  have hE : ∀ x ∈ bv, (putDst d vA EA).getD x .undef = EA.getD x .undef := fun x hx => putDst_plain hd hx
  refine ⟨?_, by simp [I.la], by simp [I.lb], fun j hj => ?_, I.eq0, fun x hx => ?_, fun x i h => ?_, fun x hx hf => ?_, fun j x off g hj => ?_⟩
  · cases d with
    | none => exact I.rel.mono M
    | some y => rw [hput (by simp)]; exact (I.rel.mono M).put hd v
  · rcases snoc_get hj with h | ⟨h1, h2⟩
    · have := (List.getElem?_eq_some_iff.1 h).1
      rw [snoc_lt vA (by rw [I.la]; exact this), snoc_lt v (by rw [I.lb]; exact this)]
      exact I.plain j h
    · subst h1
      have e1 := snoc_end LA vA
      have e2 := snoc_end LB v
      rw [I.la] at e1; rw [I.lb] at e2
      rw [e1, e2, hk1 h2]
  · rw [ev_snoc I.lb (I.curlt x), I.cur x hx, putDst_plain hd hx]
  · have := I.curlt x i h; simp; omega
  · rw [hE x hx]; exact I.old x hx hf
  · rcases snoc_get hj with h | ⟨h1, h2⟩
    · obtain ⟨a1, a2, a3⟩ := I.addr j x off g h
      refine ⟨a1, guard_snoc a2 k, fun hw => ?_⟩
      rw [wanted_snoc I.la a2] at hw
      obtain ⟨b, b1, b2⟩ := a3 hw
      exact ⟨b, by rw [hE x a1]; exact b1, by rw [snoc_lt vA (by rw [I.la]; exact (List.getElem?_eq_some_iff.1 h).1)]; exact b2⟩
    · subst h1
      obtain ⟨a1, a2, a3⟩ := hk2 x off g h2
      refine ⟨a1, guard_snoc a2 k, fun hw => ?_⟩
      rw [wanted_snoc I.la a2] at hw
      obtain ⟨b, b1, rfl⟩ := a3 hw
      have e1 := snoc_end LA (AV.ptr b off)
      rw [I.la] at e1
      exact ⟨b, by rw [hE x a1]; exact b1, e1⟩

/-- A variable is made anew. -/
theorem IL.make (I : IL bv fl HB0 HA0 EA0 EB0 LA LB EA HA EB HB ks c) {x : Nat} (hx : x ∈ bv) (hc : c.has x = false) (hks : ks.any (LK.names x) = false) {cs : List AV} {e : Nat} :
    IL bv fl HB0 HA0 EA0 EB0 (LA ++ [.ptr HA.length 0]) (LB ++ [.agg cs]) (putDst (some x) (.ptr HA.length 0) EA) (HA ++ [{ cells := cs, e }]) (putDst (some x) (.agg cs) EB) (HB ++ [{ cells := [], e, live := false, clean := false }]) (ks ++ [.addr x 0 none]) ((x, .loc ks.length, true) :: c) := by
  have hlen := I.rel.le.len
  have hxl := I.rel.lt x hx
  have hgA : ∀ b : Nat, b < HA.length → (HA ++ [{ cells := cs, e := e : Blk }])[b]? = HA[b]? := fun b hb => List.getElem?_append_left hb
  have hgB : ∀ b : Nat, b < HB.length → (HB ++ [{ cells := [], e := e, live := false, clean := false : Blk }])[b]? = HB[b]? := fun b hb => List.getElem?_append_left hb
  have htB : ∀ b, Tomb HB b → Tomb (HB ++ [{ cells := [], e := e, live := false, clean := false : Blk }]) b := fun b t => by
    have := t.lt
    obtain ⟨k, t1, t2⟩ := t
    exact ⟨k, by rw [hgB b this]; exact t1, t2⟩
  have hnew : Tomb (HB ++ [{ cells := [], e := e, live := false, clean := false : Blk }]) HA.length := ⟨_, by rw [← hlen]; exact snoc_end _ _, rfl, rfl⟩
  have hnames : ∀ (j y off : Nat) (g : Option (Nat × Bool)), ks[j]? = some (LK.addr y off g) → y ≠ x := fun j y off g hj e => by
    subst e
    have : ks.any (LK.names y) = true := List.any_eq_true.2 ⟨_, List.mem_of_getElem? hj, by simp [LK.names]⟩
    rw [this] at hks; simp at hks
  have hEA : ∀ y, y ≠ x → (putDst (some x) (.ptr HA.length 0) EA).getD y .undef = EA.getD y .undef := fun y hy => getD_set_ne hy
  have hEB : ∀ y, y ≠ x → (putDst (some x) (.agg cs) EB).getD y .undef = EB.getD y .undef := fun y hy => getD_set_ne hy
  have hEAx : (putDst (some x) (.ptr HA.length 0) EA).getD x .undef = .ptr HA.length 0 := getD_set_eq hxl
  have hEBx : (putDst (some x) (.agg cs) EB).getD x .undef = .agg cs := getD_set_eq (by rw [← I.rel.len]; exact hxl)
  have hold : ∀ y ∈ bv, EA.getD y .undef ≠ .ptr HA.length 0 := fun y hy e => by
    rcases I.rel.box y hy with ⟨h, _⟩ | ⟨b, k, h1, h2, _⟩
    · rw [e] at h; simp [AV.undef] at h
    · rw [e] at h1; cases h1
      have := h2.lt; omega
  refine ⟨⟨by rw [putDst_len, putDst_len]; exact I.rel.len, fun y hy => by rw [putDst_len]; exact I.rel.lt y hy, I.rel.fl0, by have := I.rel.hl; simp; omega, ⟨by simp [hlen], fun b => ?_⟩, fun b t => ?_, fun y hy => ?_, fun y hy => ?_, fun y hy y' hy' b h1 h2 => ?_⟩,
    by simp [I.la], by simp [I.lb], fun j hj => ?_, I.eq0, fun y hy => ?_, fun y i h => ?_, fun y hy hf => ?_, fun j y off g hj => ?_⟩
  · by_cases hb : b < HB.length
    · rw [hgB b hb, hgA b (by omega)]
      rcases I.rel.le.get b with h | ⟨h1, h2⟩
      · exact .inl h
      · exact .inr ⟨htB b h1, h2⟩
    · by_cases hb2 : b = HB.length
      · subst hb2
        right
        exact ⟨by rw [hlen]; exact hnew, _, { cells := cs, e }, snoc_end _ _, by rw [hlen]; exact snoc_end _ _, rfl⟩
      · left
        rw [List.getElem?_eq_none (by simp; omega), List.getElem?_eq_none (by simp; omega)]
  · obtain ⟨f1, f2⟩ := I.rel.fr b t
    have := f2.lt
    exact ⟨by rw [hgA b (by omega)]; exact f1, htB b f2⟩
  · have hyx : y ≠ x := fun e => hy (e ▸ hx)
    rw [hEA y hyx, hEB y hyx]; exact I.rel.eq y hy
  · by_cases e : y = x
    · subst e
      exact .inr ⟨HA.length, { cells := cs, e }, hEAx, hnew, by have := I.rel.hl; omega, snoc_end _ _, rfl, rfl, hEBx⟩
    · rw [hEA y e, hEB y e]
      rcases I.rel.box y hy with h | ⟨b, k, h1, h2, h3, h4, h5⟩
      · exact .inl h
      · exact .inr ⟨b, k, h1, htB b h2, h3, by rw [hgA b (by have := h2.lt; omega)]; exact h4, h5⟩
  · by_cases e : y = x <;> by_cases e' : y' = x
    · rw [e, e']
    · exfalso
      rw [hEA y' e'] at h2
      rw [e, hEAx] at h1
      cases h1
      exact hold y' hy' h2
    · exfalso
      rw [hEA y e] at h1
      rw [e', hEAx] at h2
      cases h2
      exact hold y hy h1
    · rw [hEA y e] at h1; rw [hEA y' e'] at h2
      exact I.rel.inj y hy y' hy' b h1 h2
  · rcases snoc_get hj with h | ⟨_, h2⟩
    · have := (List.getElem?_eq_some_iff.1 h).1
      rw [snoc_lt _ (by rw [I.la]; exact this), snoc_lt _ (by rw [I.lb]; exact this)]
      exact I.plain j h
    · simp at h2
  · by_cases e : x = y
    · subst e
      have e2 := snoc_end LB (AV.agg cs)
      rw [I.lb] at e2
      simp only [Curs.get, if_true, RX.ev, List.getD_eq_getElem?_getD, e2, Option.getD_some]
      exact hEBx.symm
    · simp only [Curs.get, if_neg e]
      rw [ev_snoc I.lb (I.curlt y), I.cur y hy, hEB y (Ne.symm e)]
  · by_cases e : x = y
    · simp only [Curs.get, if_pos e, RX.loc.injEq] at h
      subst h; simp
    · simp only [Curs.get, if_neg e] at h
      have := I.curlt y i h; simp; omega
  · by_cases e : x = y
    · subst e; simp [Curs.fresh] at hf
    · simp only [Curs.fresh, if_neg e, Bool.false_or] at hf
      rw [hEA y (Ne.symm e)]; exact I.old y hy hf
  · rcases snoc_get hj with h | ⟨h1, h2⟩
    · obtain ⟨a1, a2, a3⟩ := I.addr j y off g h
      refine ⟨a1, guard_snoc a2 _, fun hw => ?_⟩
      rw [wanted_snoc I.la a2] at hw
      obtain ⟨b, b1, b2⟩ := a3 hw
      exact ⟨b, by rw [hEA y (hnames j y off g h)]; exact b1, by rw [snoc_lt _ (by rw [I.la]; exact (List.getElem?_eq_some_iff.1 h).1)]; exact b2⟩
    · simp only [LK.addr.injEq] at h2
      obtain ⟨rfl, rfl, rfl⟩ := h2
      subst h1
      have e1 := snoc_end LA (AV.ptr HA.length 0)
      rw [I.la] at e1
      exact ⟨hx, rfl, fun _ => ⟨_, hEAx, e1⟩⟩

/-- What an operand that stands for a taken variable's place is. -/
theorem IL.asBox (I : IL bv fl HB0 HA0 EA0 EB0 LA LB EA HA EB HB ks c) {p : RX} {x off : Nat} {g : Option (Nat × Bool)} (h : RM.asBox bv ks c p = some (x, off, g)) :
    x ∈ bv ∧ (wantedB g LA = true → ∀ b, EA.getD x .undef = .ptr b 0 → RX.ev LA EA0 p = .ptr b off) := by
  cases p with
  | k v => simp [RM.asBox] at h
  | var y =>
    simp only [RM.asBox] at h
    split at h
    · rename_i hc
      simp only [Bool.and_eq_true, Bool.not_eq_true'] at hc
      simp only [Option.some.injEq, Prod.mk.injEq] at h
      obtain ⟨rfl, rfl, rfl⟩ := h
      have hm := memN_iff.1 hc.1
      exact ⟨hm, fun _ b hb => by rw [I.old y hm hc.2] at hb; exact hb⟩
    · simp at h
  | loc j =>
    simp only [RM.asBox] at h
    split at h
    · rename_i x' off' g' hk
      simp only [Option.some.injEq, Prod.mk.injEq] at h
      obtain ⟨rfl, rfl, rfl⟩ := h
      obtain ⟨a1, _, a3⟩ := I.addr j _ _ _ hk
      refine ⟨a1, fun hw b hb => ?_⟩
      obtain ⟨b', b1, b2⟩ := a3 hw
      rw [hb] at b1; cases b1
      simp only [RX.ev, List.getD_eq_getElem?_getD, b2, Option.getD_some]
    · simp at h

theorem same_wanted {g h : Option (Nat × Bool)} (hs : sameGuard g h = true) {L : List AV} (hw : wantedB h L = true) : wantedB g L = true := by
  cases g with
  | none => rfl
  | some p =>
    cases h with
    | none => simp [sameGuard] at hs
    | some q =>
      simp only [sameGuard, Bool.and_eq_true, beq_iff_eq] at hs
      obtain ⟨i, b⟩ := p
      obtain ⟨j, b'⟩ := q
      simp only at hs
      obtain ⟨rfl, rfl⟩ := hs
      exact hw

/-- The value of a taken variable is its block's cells. -/
theorem IL.value (I : IL bv fl HB0 HA0 EA0 EB0 LA LB EA HA EB HB ks c) {x : Nat} (hx : x ∈ bv) {cs : List AV} (h : RX.ev LB EB0 (c.get x) = .agg cs) :
    ∃ b k, EA.getD x .undef = .ptr b 0 ∧ Tomb HB b ∧ HB0.length ≤ b ∧ HA[b]? = some k ∧ (k.live = true ∧ k.kid = none) ∧ k.cells = cs := by
  rw [I.cur x hx] at h
  rcases I.rel.box x hx with ⟨_, h'⟩ | ⟨b, k, h1, h2, h3, h4, h5, h5', h6⟩
  · rw [h] at h'; simp [AV.undef] at h'
  · rw [h] at h6; cases h6
    exact ⟨b, k, h1, h2, h3, h4, ⟨h5, h5'⟩, rfl⟩

/-- A store into a taken variable. -/
theorem IL.store (I : IL bv fl HB0 HA0 EA0 EB0 LA LB EA HA EB HB ks c) {x : Nat} (hx : x ∈ bv) {b : Nat} {k : Blk} (h1 : EA.getD x .undef = .ptr b 0) (h2 : Tomb HB b) (h3 : HB0.length ≤ b) (h4 : HA[b]? = some k) (h5 : k.live = true ∧ k.kid = none) {ncs : List AV} :
    IL bv fl HB0 HA0 EA0 EB0 (LA ++ [.undef]) (LB ++ [.agg ncs]) EA (HA.set b { k with cells := ncs, clean := false }) (putDst (some x) (.agg ncs) EB) HB (ks ++ [.no]) ((x, .loc ks.length, c.fresh x) :: c) := by
  have hbl := get_lt h4
  have hgA : ∀ y : Nat, y ≠ b → (HA.set b { k with cells := ncs, clean := false })[y]? = HA[y]? := fun y hy => List.getElem?_set_ne (by omega)
  have hgb : (HA.set b { k with cells := ncs, clean := false })[b]? = some { k with cells := ncs, clean := false } := List.getElem?_set_self hbl
  have hxl := I.rel.lt x hx
  have hEB : ∀ y, y ≠ x → (putDst (some x) (.agg ncs) EB).getD y .undef = EB.getD y .undef := fun y hy => getD_set_ne hy
  have hEBx : (putDst (some x) (.agg ncs) EB).getD x .undef = .agg ncs := getD_set_eq (by rw [← I.rel.len]; exact hxl)
  refine ⟨⟨by rw [putDst_len]; exact I.rel.len, I.rel.lt, I.rel.fl0, I.rel.hl, ⟨by simp [I.rel.le.len], fun y => ?_⟩, fun y t => ?_, fun y hy => ?_, fun y hy => ?_, I.rel.inj⟩,
    by simp [I.la], by simp [I.lb], fun j hj => ?_, I.eq0, fun y hy => ?_, fun y i h => ?_, fun y hy hf => ?_, fun j y off g hj => ?_⟩
  · by_cases e : y = b
    · subst e
      right
      refine ⟨h2, ?_⟩
      rcases I.rel.le.get y with h | ⟨_, k1, k2, g1, g2, g3⟩
      · rw [h4] at h
        exact ⟨k, _, h, hgb, rfl⟩
      · rw [h4] at g2; cases g2
        exact ⟨k1, _, g1, hgb, g3⟩
    · rw [hgA y e]; exact I.rel.le.get y
  · obtain ⟨f1, f2⟩ := I.rel.fr y t
    have := t.lt
    exact ⟨by rw [hgA y (by omega)]; exact f1, f2⟩
  · have hyx : y ≠ x := fun e => hy (e ▸ hx)
    rw [hEB y hyx]; exact I.rel.eq y hy
  · by_cases e : y = x
    · subst e
      exact .inr ⟨b, _, h1, h2, h3, hgb, h5.1, h5.2, hEBx⟩
    · rw [hEB y e]
      rcases I.rel.box y hy with h | ⟨b', k', g1, g2, g3, g4, g5⟩
      · exact .inl h
      · have hne : b' ≠ b := fun e' => by subst e'; exact e (I.rel.inj y hy x hx b' g1 h1)
        exact .inr ⟨b', k', g1, g2, g3, by rw [hgA b' hne]; exact g4, g5⟩
  · rcases snoc_get hj with h | ⟨_, h2⟩
    · have := (List.getElem?_eq_some_iff.1 h).1
      rw [snoc_lt _ (by rw [I.la]; exact this), snoc_lt _ (by rw [I.lb]; exact this)]
      exact I.plain j h
    · simp at h2
  · by_cases e : x = y
    · subst e
      have e2 := snoc_end LB (AV.agg ncs)
      rw [I.lb] at e2
      simp only [Curs.get, if_true, RX.ev, List.getD_eq_getElem?_getD, e2, Option.getD_some]
      exact hEBx.symm
    · simp only [Curs.get, if_neg e]
      rw [ev_snoc I.lb (I.curlt y), I.cur y hy, hEB y (Ne.symm e)]
  · by_cases e : x = y
    · simp only [Curs.get, if_pos e, RX.loc.injEq] at h
      subst h; simp
    · simp only [Curs.get, if_neg e] at h
      have := I.curlt y i h; simp; omega
  · by_cases e : x = y
    · subst e
      simp only [Curs.fresh, if_true, Bool.or_self] at hf
      exact I.old x hy hf
    · simp only [Curs.fresh, if_neg e, Bool.false_or] at hf
      exact I.old y hy hf
  · rcases snoc_get hj with h | ⟨h1, h2⟩
    · obtain ⟨a1, a2, a3⟩ := I.addr j y off g h
      refine ⟨a1, guard_snoc a2 _, fun hw => ?_⟩
      rw [wanted_snoc I.la a2] at hw
      obtain ⟨b, b1, b2⟩ := a3 hw
      exact ⟨b, b1, by rw [snoc_lt _ (by rw [I.la]; exact (List.getElem?_eq_some_iff.1 h).1)]; exact b2⟩
    · simp at h2

theorem IL.apart (I : IL bv fl HB0 HA0 EA0 EB0 LA LB EA HA EB HB ks c) {b : Nat} (hb : ¬ Tomb HB b) : ∀ {ap : List RX}, (∀ a ∈ ap, apOk bv ks c a = true) → apartB HB b ((ap.map (apRX bv c)).map (RX.ev LB EB0)) = true → apartB HA b (ap.map (RX.ev LA EA0)) = true
  | [], _, _ => rfl
  | a :: ap, ha, h => by
    have ha0 := ha a (by simp)
    have ih := fun h' => I.apart hb (ap := ap) (fun x hx => ha x (by simp [hx])) h'
    have same : RX.ev LB EB0 (apRX bv c a) = RX.ev LA EA0 a → apartB HA b ((a :: ap).map (RX.ev LA EA0)) = true := fun e => by
      simp only [List.map_cons, e] at h ⊢
      cases hv : RX.ev LA EA0 a <;> rw [hv] at h <;> simp only [apartB, Bool.and_eq_true, reduceCtorEq, Bool.false_eq_true] at h ⊢
      case ptr b' o' =>
        refine ⟨⟨h.1.1, ?_⟩, ih h.2⟩
        have h2 := h.1.2
        unfold notKid at h2 ⊢
        split at h2
        · rename_i k hk; rw [I.rel.le.act hk]; exact h2
        · cases h2
      case agg => exact ih h
    cases a with
    | loc j => exact same (I.plainX (rx := .loc j) ha0).symm
    | k v => exact same rfl
    | var x =>
      by_cases hm : memN x bv = true
      · simp only [apOk, hm, Bool.not_true, Bool.false_or, Bool.not_eq_true'] at ha0
        have hx := memN_iff.1 hm
        have e1 : apRX bv c (.var x) = c.get x := by simp [apRX, hm, ha0]
        have e2 : RX.ev LA EA0 (.var x) = EA.getD x .undef := (I.old x hx ha0).symm
        simp only [List.map_cons, e1, e2, I.cur x hx] at h ⊢
        rcases I.rel.box x hx with ⟨_, h'⟩ | ⟨b', k, h1, h2, h3, h4, h5, h5', h6⟩
        · rw [h'] at h; simp [apartB, AV.undef] at h
        · rw [h6] at h; rw [h1]
          simp only [apartB, Bool.and_eq_true, bne_iff_ne, ne_eq] at h ⊢
          refine ⟨⟨fun e => hb (e ▸ h2), ?_⟩, ih h⟩
          unfold notKid
          rw [act_of h4 (.inl h5)]
          simp [h5']
      · exact same (by
          have : apRX bv c (.var x) = .var x := by simp [apRX, hm]
          rw [this]
          exact (I.eq0 x fun h => hm (memN_iff.2 h)).symm)

end
end Go.RM

