/-
  A region: the invariant over the set of operations that have run, and how each operation keeps it.
-/
import Derived.Test.YtmiinaimpdbenaaRmRegion2
namespace Go.RM
set_option linter.unusedSimpArgs false

def CallSound (P : Program) (call : Nat → Nat → List AV → Heap → Option (AV × Heap)) : Prop :=
  ∀ flx g args H v H', call flx g args H = some (v, H') → (∃ fn, P.funcs[g]? = some fn ∧ fn.body.isSome = true ∧ fn.name ≠ "runtime.NumGoroutine") ∧
    ∀ n0 base m w cargs, n0 ≤ flx → Sim n0 base m H w → VRels m args cargs → (∀ b, H.length ≤ b → b < H'.length → m b = none) →
      Calls P g ⟨cargs⟩ w (fun e w' => ∃ v' m', e = .returned v' ∧ VRel m' v v' ∧ Step n0 base flx m H w m' H' w')

def StepAt (call : Nat → Nat → List AV → Heap → Option (AV × Heap)) (fl : Nat) (E L : List AV) (Hs : Nat → Heap) (i : Nat) (ro : ROper) : Prop :=
  (wantedB ro.guard (L.take i) = true ∧ ∃ v, L[i]? = some v ∧ rop call fl ro.free (RX.ev (L.take i) E) (Hs i) ro.op = some (v, Hs (i + 1))) ∨
  (wantedB ro.guard (L.take i) = false ∧ L[i]? = some .undef ∧ Hs (i + 1) = Hs i)

structure Ctx (P : Program) (vars : List Nat) (nt : Nat) (draw : Bool) (all : List Oper) (l : List ROper) (call : Nat → Nat → List AV → Heap → Option (AV × Heap)) (fl : Nat) (E L : List AV) (Hs : Nat → Heap) (n0 : Nat) : Prop where
  flow : n0 ≤ fl
  llen : L.length = all.length
  comp : ∀ (i : Nat) (o : Oper), all[i]? = some o → ∃ ro, l[i]? = some ro ∧ Comp P vars nt draw (ancs [] all) all i o ro ∧ StepAt call fl E L Hs i ro
  facts : CallFacts call
  sound : CallSound P call
  nodup : nodupB vars = true
  kids0 : KidsOk (Hs 0)
  low0 : n0 ≤ (Hs 0).length

section
variable {P : Program} {vars : List Nat} {nt : Nat} {draw : Bool} {all : List Oper} {l : List ROper} {call : Nat → Nat → List AV → Heap → Option (AV × Heap)} {fl : Nat} {E L : List AV} {Hs : Nat → Heap} {n0 base : Nat}

def solidAt (all : List Oper) (l : List ROper) (j : Nat) : Prop := ∃ o ro, all[j]? = some o ∧ l[j]? = some ro ∧ solidB o ro.free = true

theorem Ctx.stepFacts (C : Ctx P vars nt draw all l call fl E L Hs n0) {i : Nat} (hi : i < all.length) : Facts fl (Hs i) (Hs (i + 1)) := by
  obtain ⟨ro, _, _, h⟩ := C.comp i _ (List.getElem?_eq_getElem hi)
  rcases h with ⟨_, v, _, h⟩ | ⟨_, _, h⟩
  · exact rop_facts' C.facts h
  · rw [h]; exact Facts.refl _ _

theorem Ctx.factsTo (C : Ctx P vars nt draw all l call fl E L Hs n0) : ∀ {i j : Nat}, i ≤ j → j ≤ all.length → Facts fl (Hs i) (Hs j) := by
  intro i j hij hj
  induction j with
  | zero => have : i = 0 := by omega
            subst this; exact Facts.refl _ _
  | succ j ih =>
    by_cases e : i = j + 1
    · subst e; exact Facts.refl _ _
    · exact (ih (by omega) (by omega)).trans (C.stepFacts (by omega))

theorem Ctx.kids (C : Ctx P vars nt draw all l call fl E L Hs n0) {i : Nat} (hi : i ≤ all.length) : KidsOk (Hs i) := (C.factsTo (Nat.zero_le i) hi).kids C.kids0

theorem Ctx.ns (C : Ctx P vars nt draw all l call fl E L Hs n0) {i : Nat} (hi : i < all.length) (hn : ¬ solidAt all l i) : NS (Hs i) (Hs (i + 1)) := by
  obtain ⟨ro, h1, h2, h⟩ := C.comp i _ (List.getElem?_eq_getElem hi)
  rcases h with ⟨_, v, _, h⟩ | ⟨_, _, h⟩
  · obtain ⟨ap, _, hc, _⟩ := h2.code
    refine rop_ns C.facts (compile_kind hc) ?_ h
    cases hsol : solidB all[i] ro.free with
    | false => exact hsol
    | true => exact absurd ⟨_, ro, List.getElem?_eq_getElem hi, h1, hsol⟩ hn
  · rw [h]; exact NS.refl _

theorem next_solid (all : List Oper) (l : List ROper) : ∀ (k p : Nat), p + k = all.length → ∃ d, p + d ≤ all.length ∧ (∀ j, p ≤ j → j < p + d → ¬ solidAt all l j) ∧ (p + d = all.length ∨ solidAt all l (p + d))
  | 0, p, h => ⟨0, by omega, fun j h1 h2 => by omega, .inl (by omega)⟩
  | k + 1, p, h => by
    by_cases hs : solidAt all l p
    · exact ⟨0, by omega, fun j h1 h2 => by omega, .inr hs⟩
    · obtain ⟨d, h1, h2, h3⟩ := next_solid all l k (p + 1) (by omega)
      refine ⟨d + 1, by omega, fun j g1 g2 => ?_, by rwa [show p + (d + 1) = p + 1 + d by omega]⟩
      by_cases e : j = p
      · subst e; exact hs
      · exact h2 j (by omega) (by omega)

def Rk (Hs : Nat → Heap) (S : Nat → Bool) (p d b b' : Nat) : Prop := ∃ j, S j = true ∧ p ≤ j ∧ j < p + d ∧ (Hs j).length ≤ b' ∧ ((Hs j).act b).isSome = true ∧ (Hs (j + 1)).act b = none

structure Tmps (vars : List Nat) (nt : Nat) (all : List Oper) (E L : List AV) (S : Nat → Bool) (m : BMap) (a : Act) : Prop where
  size : nt ≤ a.tmps.size
  done : ∀ (t j : Nat) (v : AV), writer t all 0 = some j → S j = true → L[j]? = some v → VRel m v (a.tmps.getD t undef)
  old : ∀ (y t : Nat), vars[y]? = some t → (∀ j, writer t all 0 = some j → S j = false) → VRel m (E.getD y .undef) (a.tmps.getD t undef)

structure Inv (vars : List Nat) (nt : Nat) (draw : Bool) (all : List Oper) (l : List ROper) (fl : Nat) (E L : List AV) (Hs : Nat → Heap) (n0 base : Nat) (m0 : BMap) (w0 : World) (S : Nat → Bool) (p d : Nat) (m : BMap) (a : Act) (w : World) : Prop where
  hq : p + d ≤ all.length
  ns : ∀ j, p ≤ j → j < p + d → ¬ solidAt all l j
  qend : p + d = all.length ∨ solidAt all l (p + d)
  pstart : p = 0 ∨ solidAt all l (p - 1)
  slt : ∀ j, S j = true → j < all.length
  closed : ∀ j k, S j = true → preB draw (ancs [] all) k j = true → S k = true
  solid : ∀ j, solidAt all l j → (S j = true ↔ j < p)
  dom : ∀ b lo, m b = some lo → b < (Hs p).length ∨ (∃ j, S j = true ∧ p ≤ j ∧ j < p + d ∧ (Hs j).length ≤ b ∧ b < (Hs (j + 1)).length) ∨ (Hs all.length).length ≤ b
  wsz : base ≤ w.heap.size
  cells : ∀ b k lo, (hv Hs p d).act b = some k → m b = some lo → lo.e = k.e ∧ k.cells.length ≤ lo.room ∧ CellsAt m w lo k.cells
  ro : ∀ b lo, b < n0 → m b = some lo → lo.cb < base
  own : ∀ b k lo, n0 ≤ b → (hv Hs p d).act b = some k → m b = some lo → base ≤ lo.cb ∧ lo.cb < w.heap.size ∧ Room w lo
  excl : ∀ b b' k k' lo lo', n0 ≤ b → n0 ≤ b' → (hv Hs p d).act b = some k → (hv Hs p d).act b' = some k' → m b = some lo → m b' = some lo' → lo.cb = lo'.cb →
    b = b' ∨ KidOf k lo b' k' lo' ∨ KidOf k' lo' b k lo ∨ (Rk Hs S p d b b' ∧ lo.co + k.cells.length ≤ lo'.co + k'.cells.length) ∨ (Rk Hs S p d b' b ∧ lo'.co + k'.cells.length ≤ lo.co + k.cells.length)
  es : ∀ (b : Nat) (k : Blk) (lo : Loc), (hv Hs p d)[b]? = some k → m b = some lo → lo.e = k.e
  ext : Ext m0 m
  new : ∀ b lo, m b = some lo → m0 b = none → (Hs 0).length ≤ b ∧ b < (Hs all.length).length
  os : w.os = w0.os
  tape : w.tape = w0.tape
  output : w.output = w0.output
  size : w0.heap.size ≤ w.heap.size
  frame : ∀ c, c < w0.heap.size → ¬ Hit fl m0 (Hs 0) c → w.heap[c]? = w0.heap[c]?
  hits : ∀ c, c < w0.heap.size → Hit fl m (hv Hs p d) c → Hit fl m0 (Hs 0) c
  tmps : Tmps vars nt all E L S m a

end
end Go.RM
