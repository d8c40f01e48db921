import Derived.Test.YtlcoalimkpjjpaaRmOpt
import Derived.Test.YtlcoalimkpjjpaaRolP2
import Derived.ChangeCalls
import Derived.JoinedCond
import Derived.Test.YtlcoalimkpjjpaaRmLib
/-
  Operations that cannot harm are run whether they are wanted or not: a pass over the abstract machine's code, and that it keeps what the code computes.
-/
namespace Go.RM
set_option linter.unusedSimpArgs false
set_option linter.unusedVariables false

abbrev Gd := Option (Nat × Bool)

def gEq : Gd → Gd → Bool
  | none, none => true
  | some (i, b), some (j, c) => i == j && b == c
  | _, _ => false

theorem gEq_eq {a b : Gd} (h : gEq a b = true) : a = b := by
  cases a <;> cases b <;> simp_all [gEq]
  rename_i x y
  exact Prod.ext h.1 h.2

/-- Where g is met, so is g'. -/
def implG (gs : List Gd) : Nat → Gd → Gd → Bool
  | _, _, none => true
  | 0, g, g' => gEq g g'
  | n + 1, g, g' => gEq g g' || (match g with | some (k, _) => implG gs n (gs.getD k none) g' | none => false)

def locOk (gs : List Gd) (g : Gd) : RX → Bool
  | .loc j => decide (j < gs.length) && implG gs gs.length g (gs.getD j none)
  | _ => true

def locOkP (gs : List Gd) (g : Gd) (c : RX) (b : Bool) : RX → Bool
  | .loc j => decide (j < gs.length) && (implG gs gs.length g (gs.getD j none) || (match c with | .loc k => gEq (gs.getD j none) (some (k, b)) | _ => false))
  | _ => true

def opOk (gs : List Gd) (g : Gd) : ROp → Bool
  | .pick c a b => locOk gs g c && locOkP gs g c true a && locOkP gs g c false b
  | r => r.rxs.all (locOk gs g)

def tame : ROp → Bool
  | .move _ => true
  | .pick .. => true
  | .bin op .. => (match op with | .quo => false | .rem => false | .shl => false | .shr => false | _ => true)
  | .un .. => true
  | .field .. => true
  | .convInt .. => true
  | .len _ => true
  | .lenStr _ => true
  | .build .. => true
  | .extract .. => true
  | .min .. => true
  | .max .. => true
  | _ => false

def chooseU (gs : List Gd) (ch : List Bool) (o : ROper) : Bool :=
  o.guard.isSome && o.dst.isNone && tame o.op && (o.op.rxs.all fun | .loc j => (gs.getD j none).isNone || ch.getD j false | _ => true)

def checkU (gs : List Gd) (ch : List Bool) (o : ROper) (w : Bool) : Bool :=
  opOk gs o.guard o.op && (match o.guard with | some (k, _) => decide (k < gs.length) && (w || (gs.getD k none).isNone || !ch.getD k false) | none => true) && (!w || (o.dst.isNone && pureR o.op))

def ugOps : List ROper → List Gd → List Bool → Option (List ROper)
  | [], _, _ => some []
  | o :: l, gs, ch =>
    let w := chooseU gs ch o
    if checkU gs ch o w then (ugOps l (gs ++ [o.guard]) (ch ++ [w])).map ((if w then { o with guard := none } else o) :: ·) else none

def ugCode : RCode → RCode
  | .ops l => (match ugOps l [] [] with | some l' => .ops l' | none => .ops l)
  | .seq a b => .seq (ugCode a) (ugCode b)
  | .cond x a b => .cond x (ugCode a) (ugCode b)
  | .block id c => .block id (ugCode c)
  | .loop c => .loop (ugCode c)
  | c => c

def ugFunc (f : RFunc) : RFunc := { f with body := ugCode f.body }

/-- The table of the functions, with both passes done. -/
def tableU (P : Program) (f : Nat) : Option RFunc := (tableO P f).map ugFunc

structure UL (gs : List Gd) (ch : List Bool) (LA LB : List AV) : Prop where
  lg : gs.length = LA.length
  lc : ch.length = LA.length
  ll : LB.length = LA.length
  kept : ∀ j, j < LA.length → ch.getD j false = false → LA[j]? = LB[j]?
  same : ∀ j, j < LA.length → wantedB (gs.getD j none) LA = true → LA[j]? = LB[j]?
  skip : ∀ j, j < LA.length → wantedB (gs.getD j none) LA = false → LA[j]? = some .undef
  back : ∀ j k b, j < LA.length → gs.getD j none = some (k, b) → k < j

theorem wanted_some {k : Nat} {b : Bool} {L : List AV} (h : wantedB (some (k, b)) L = true) : L[k]? = some (.bool b) := by
  simp only [wantedB] at h
  split at h
  · rename_i b' hb; simp only [beq_iff_eq] at h; subst h; exact hb
  · simp at h

theorem impl_wanted {gs : List Gd} {ch : List Bool} {LA LB : List AV} (U : UL gs ch LA LB) : ∀ (n : Nat) {g g' : Gd}, implG gs n g g' = true → wantedB g LA = true → wantedB g' LA = true
  | _, _, none, _, _ => rfl
  | 0, g, some g', h, hw => by simp only [implG] at h; rw [← gEq_eq h]; exact hw
  | n + 1, g, some g', h, hw => by
    simp only [implG, Bool.or_eq_true] at h
    rcases h with h | h
    · rw [← gEq_eq h]; exact hw
    · cases g with
      | none => simp at h
      | some p =>
        obtain ⟨k, b⟩ := p
        simp only at h
        have hk := wanted_some hw
        have hkl : k < LA.length := by
          rcases Nat.lt_or_ge k LA.length with h' | h'
          · exact h'
          · rw [List.getElem?_eq_none h'] at hk; simp at hk
        refine impl_wanted U n h ?_
        cases hq : wantedB (gs.getD k none) LA with
        | true => rfl
        | false => have := U.skip k hkl hq; rw [hk] at this; simp [AV.undef] at this

theorem locOk_eq {gs : List Gd} {ch : List Bool} {LA LB E : List AV} (U : UL gs ch LA LB) {g : Gd} (hw : wantedB g LA = true) {rx : RX} (h : locOk gs g rx = true) : RX.ev LA E rx = RX.ev LB E rx := by
  cases rx with
  | var y => rfl
  | k v => rfl
  | loc j =>
    simp only [locOk, Bool.and_eq_true, decide_eq_true_eq] at h
    have := U.same j (by rw [← U.lg]; exact h.1) (impl_wanted U _ h.2 hw)
    simp only [RX.ev, List.getD_eq_getElem?_getD, this]

theorem locOkP_eq {gs : List Gd} {ch : List Bool} {LA LB E : List AV} (U : UL gs ch LA LB) {g : Gd} (hw : wantedB g LA = true) {c : RX} {b : Bool} (hc : RX.ev LA E c = .bool b) {rx : RX} (h : locOkP gs g c b rx = true) : RX.ev LA E rx = RX.ev LB E rx := by
  cases rx with
  | var y => rfl
  | k v => rfl
  | loc j =>
    simp only [locOkP, Bool.and_eq_true, Bool.or_eq_true, decide_eq_true_eq] at h
    have hj : j < LA.length := by rw [← U.lg]; exact h.1
    have hs : wantedB (gs.getD j none) LA = true := by
      rcases h.2 with h2 | h2
      · exact impl_wanted U _ h2 hw
      · cases c with
        | loc k =>
          simp only at h2
          rw [gEq_eq h2]
          simp only [RX.ev, List.getD_eq_getElem?_getD] at hc
          cases hk : LA[k]? with
          | none => rw [hk] at hc; simp [AV.undef] at hc
          | some v => rw [hk] at hc; simp only [Option.getD_some] at hc; subst hc; simp [wantedB, hk]
        | var _ => simp at h2
        | k _ => simp at h2
    have := U.same j hj hs
    simp only [RX.ev, List.getD_eq_getElem?_getD, this]

theorem rop_same {gs : List Gd} {ch : List Bool} {LA LB E : List AV} (U : UL gs ch LA LB) {g : Gd} (hw : wantedB g LA = true) {call : Nat → Nat → List AV → Heap → Option (AV × Heap)} {fl : Nat} {free : Bool} {H : Heap} {r : ROp} (h : opOk gs g r = true) :
    rop call fl free (RX.ev LA E) H r = rop call fl free (RX.ev LB E) H r := by
  have gen : r.rxs.all (locOk gs g) = true → rop call fl free (RX.ev LA E) H r = rop call fl free (RX.ev LB E) H r := fun h => rop_congr fun rx hrx => locOk_eq U hw (List.all_eq_true.1 h rx hrx)
  cases r <;> simp only [opOk] at h <;> try exact gen h
  rename_i c a b
  simp only [Bool.and_eq_true] at h
  obtain ⟨⟨h1, h2⟩, h3⟩ := h
  have hc := locOk_eq (E := E) U hw h1
  simp only [rop]
  rw [← hc]
  cases hv : RX.ev LA E c <;> try rfl
  rename_i t
  cases t with
  | true => simp only [pickV_true]; rw [locOkP_eq U hw hv h2]
  | false => simp only [pickV_false]; rw [locOkP_eq U hw hv h3]

theorem wanted_app {g : Gd} {L : List AV} {v : AV} (h : ∀ k b, g = some (k, b) → k < L.length) : wantedB g (L ++ [v]) = wantedB g L := by
  cases g with
  | none => rfl
  | some p =>
    obtain ⟨k, b⟩ := p
    simp only [wantedB, snoc_lt v (h k b rfl)]

theorem UL.next {gs : List Gd} {ch : List Bool} {LA LB : List AV} (U : UL gs ch LA LB) {g : Gd} (hg : ∀ k b, g = some (k, b) → k < LA.length) {w : Bool} {vA vB : AV} (h1 : w = false → vA = vB) (h2 : wantedB g LA = true → vA = vB) (h3 : wantedB g LA = false → vA = .undef) :
    UL (gs ++ [g]) (ch ++ [w]) (LA ++ [vA]) (LB ++ [vB]) := by
  have hgs : ∀ j, j < LA.length → (gs ++ [g]).getD j none = gs.getD j none := fun j hj => by simp only [List.getD_eq_getElem?_getD, snoc_lt g (show j < gs.length by rw [U.lg]; exact hj)]
  have hgl : (gs ++ [g]).getD LA.length none = g := by rw [← U.lg, List.getD_eq_getElem?_getD, snoc_end]; rfl
  have hch : ∀ j, j < LA.length → (ch ++ [w]).getD j false = ch.getD j false := fun j hj => by simp only [List.getD_eq_getElem?_getD, snoc_lt w (show j < ch.length by rw [U.lc]; exact hj)]
  have hcl : (ch ++ [w]).getD LA.length false = w := by rw [← U.lc, List.getD_eq_getElem?_getD, snoc_end]; rfl
  have hwj : ∀ j, j < LA.length → wantedB (gs.getD j none) (LA ++ [vA]) = wantedB (gs.getD j none) LA := fun j hj => wanted_app fun k b e => by have := U.back j k b hj e; omega
  have hwg : wantedB g (LA ++ [vA]) = wantedB g LA := wanted_app hg
  have hA : ∀ j, j < LA.length → (LA ++ [vA])[j]? = LA[j]? ∧ (LB ++ [vB])[j]? = LB[j]? := fun j hj => ⟨snoc_lt vA hj, snoc_lt vB (by rw [U.ll]; exact hj)⟩
  have hAl : (LA ++ [vA])[LA.length]? = some vA ∧ (LB ++ [vB])[LA.length]? = some vB := ⟨snoc_end _ _, by rw [← U.ll]; exact snoc_end _ _⟩
  have split : ∀ {j}, j < (LA ++ [vA]).length → j < LA.length ∨ j = LA.length := fun h => by simp at h; omega
  refine ⟨by simp [U.lg], by simp [U.lc], by simp [U.ll], fun j hj hc => ?_, fun j hj hc => ?_, fun j hj hc => ?_, fun j k b hj hc => ?_⟩
  · rcases split hj with h | rfl
    · rw [(hA j h).1, (hA j h).2]; rw [hch j h] at hc; exact U.kept j h hc
    · rw [hcl] at hc; rw [hAl.1, hAl.2, h1 hc]
  · rcases split hj with h | rfl
    · rw [hgs j h, hwj j h] at hc
      rw [(hA j h).1, (hA j h).2]; exact U.same j h hc
    · rw [hgl, hwg] at hc; rw [hAl.1, hAl.2, h2 hc]
  · rcases split hj with h | rfl
    · rw [hgs j h, hwj j h] at hc
      rw [(hA j h).1]; exact U.skip j h hc
    · rw [hgl, hwg] at hc; rw [hAl.1, h3 hc]
  · rcases split hj with h | rfl
    · rw [hgs j h] at hc; exact U.back j k b h hc
    · rw [hgl] at hc; exact hg k b hc

def CallSub (callB callA : Nat → Nat → List AV → Heap → Option (AV × Heap)) : Prop := ∀ fl g args H r, callB fl g args H = some r → callA fl g args H = some r

theorem rop_sub {callB callA : Nat → Nat → List AV → Heap → Option (AV × Heap)} (h : CallSub callB callA) {fl : Nat} {free : Bool} {X : RX → AV} {H : Heap} {r : ROp} {x : AV × Heap} (hr : rop callB fl free X H r = some x) : rop callA fl free X H r = some x := by
  cases r with
  | call f args =>
    simp only [rop] at hr ⊢
    split at hr
    · exact h _ _ _ _ _ hr
    · simp at hr
  | callS f args => exact h _ _ _ _ _ hr
  | _ => exact hr

theorem ug_rops {callB callA : Nat → Nat → List AV → Heap → Option (AV × Heap)} (hcall : CallSub callB callA) {fl : Nat} {E : List AV} : ∀ {l l' : List ROper} {gs : List Gd} {ch : List Bool} {LA LB LB' : List AV} {H H' : Heap}, ugOps l gs ch = some l' → UL gs ch LA LB →
    rops callB fl E l' LB H = some (LB', H') → ∃ LA', rops callA fl E l LA H = some (LA', H') ∧ LA'.take LA.length = LA ∧ LB'.take LB.length = LB ∧ LA.length ≤ LA'.length ∧ ∀ E0, putAll l (LA'.drop LA.length) E0 = putAll l' (LB'.drop LB.length) E0
  | [], l', gs, ch, LA, LB, LB', H, H', hu, U, hr => by
    simp only [ugOps, Option.some.injEq] at hu; subst hu
    simp only [rops, Option.some.injEq, Prod.mk.injEq] at hr
    obtain ⟨rfl, rfl⟩ := hr
    exact ⟨LA, rfl, by simp, by simp, Nat.le_refl _, fun E0 => by simp [putAll]⟩
  | o :: l, l', gs, ch, LA, LB, LB', H, H', hu, U, hr => by
    simp only [ugOps] at hu
    split at hu
    · rename_i hck
      simp only [Option.map_eq_some_iff] at hu
      obtain ⟨l1, h2, rfl⟩ := hu
      simp only [checkU, Bool.and_eq_true] at hck
      obtain ⟨⟨hop, hgd⟩, hpu⟩ := hck
      generalize hw : chooseU gs ch o = w at *
      have hg : ∀ k b, o.guard = some (k, b) → k < LA.length := fun k b e => by
        rw [e] at hgd
        simp only [Bool.and_eq_true, decide_eq_true_eq] at hgd
        rw [← U.lg]; exact hgd.1
      have key : ∀ (vA vB : AV) (H1 : Heap), UL (gs ++ [o.guard]) (ch ++ [w]) (LA ++ [vA]) (LB ++ [vB]) → rops callB fl E l1 (LB ++ [vB]) H1 = some (LB', H') → (∀ E0, putDst o.dst vA E0 = putDst o.dst vB E0) →
          ∃ LA', rops callA fl E l (LA ++ [vA]) H1 = some (LA', H') ∧ LA'.take LA.length = LA ∧ LB'.take LB.length = LB ∧ LA.length ≤ LA'.length ∧ ∀ E0, putAll (o :: l) (LA'.drop LA.length) E0 = putAll ((if w = true then { o with guard := none } else o) :: l1) (LB'.drop LB.length) E0 := fun vA vB H1 U1 hr1 hd => by
        obtain ⟨LA', r1, r2, r3, r4, r5⟩ := ug_rops hcall h2 U1 hr1
        have hdr : ∀ {L L' : List AV} {u : AV}, L'.take (L ++ [u]).length = L ++ [u] → L'.drop L.length = u :: L'.drop (L ++ [u]).length ∧ L'.take L.length = L := fun {L L' u} ht => by
          constructor
          · conv => lhs; rw [← List.take_append_drop (L ++ [u]).length L', ht]
            rw [List.append_assoc, List.drop_append_of_le_length (Nat.le_refl _)]
            simp
          · have := congrArg (List.take L.length) ht
            rw [List.take_take] at this
            simpa using this
        obtain ⟨a1, a2⟩ := hdr r2
        obtain ⟨b1, b2⟩ := hdr r3
        refine ⟨LA', r1, a2, b2, by simp at r4; omega, fun E0 => ?_⟩
        rw [a1, b1]
        have hdst : (if w = true then { o with guard := none } else o).dst = o.dst := by split <;> rfl
        simp only [putAll, hdst, hd]
        exact r5 _
      -- what the changed list does at its head
      cases hwv : w with
      | false =>
        rw [hwv] at hr key hgd
        simp only [Bool.false_eq_true, if_false] at hr key
        have hsame : wantedB o.guard LA = wantedB o.guard LB := by
          cases hgo : o.guard with
          | none => rfl
          | some p =>
            obtain ⟨k, b⟩ := p
            rw [hgo] at hgd
            simp only [Bool.false_or, Bool.and_eq_true, Bool.or_eq_true, decide_eq_true_eq, Option.isNone_iff_eq_none, Bool.not_eq_true'] at hgd
            have hk : k < LA.length := by rw [← U.lg]; exact hgd.1
            have : LA[k]? = LB[k]? := by
              rcases hgd.2 with h | h
              · exact U.same k hk (by rw [h]; rfl)
              · exact U.kept k hk h
            simp only [wantedB, this]
        simp only [rops] at hr ⊢
        rw [hsame]
        split at hr
        · rename_i hwB
          split at hr
          · rename_i v H1 hv
            have hwA : wantedB o.guard LA = true := by rw [hsame]; exact hwB
            have hvA := rop_sub hcall hv
            rw [← rop_same U hwA hop] at hvA
            obtain ⟨LA', r1, r2⟩ := key v v H1 (by exact U.next hg (fun _ => rfl) (fun _ => rfl) (fun h => by rw [hwA] at h; simp at h)) hr (fun _ => rfl)
            exact ⟨LA', by rw [if_pos hwB, hvA]; exact r1, r2⟩
          · simp at hr
        · rename_i hwB
          have hwA : wantedB o.guard LA = false := by rw [hsame]; simpa using hwB
          obtain ⟨LA', r1, r2⟩ := key .undef .undef H (by exact U.next hg (fun _ => rfl) (fun _ => rfl) (fun _ => rfl)) hr (fun _ => rfl)
          exact ⟨LA', by rw [if_neg hwB]; exact r1, r2⟩
      | true =>
        rw [hwv] at hr key hpu
        simp only [if_true, Bool.not_true, Bool.false_or, Bool.and_eq_true, Option.isNone_iff_eq_none] at hr key hpu
        have hd : ∀ vA vB E0, putDst o.dst vA E0 = putDst o.dst vB E0 := fun vA vB E0 => by rw [hpu.1]; rfl
        simp only [rops, wantedB, if_true] at hr
        split at hr
        · rename_i v H1 hv
          have hH := (rop_pure hpu.2 hv).1
          subst hH
          simp only [rops]
          cases hwA : wantedB o.guard LA with
          | true =>
            have hvA := rop_sub hcall hv
            rw [← rop_same U hwA hop] at hvA
            obtain ⟨LA', r1, r2⟩ := key v v H1 (by exact U.next hg (fun _ => rfl) (fun _ => rfl) (fun h => by rw [hwA] at h; simp at h)) hr (fun _ => rfl)
            exact ⟨LA', by rw [if_pos rfl, hvA]; exact r1, r2⟩
          | false =>
            obtain ⟨LA', r1, r2⟩ := key .undef v H1 (by exact U.next hg (fun h => by simp at h) (fun h => by rw [hwA] at h; simp at h) (fun _ => rfl)) hr (hd _ _)
            exact ⟨LA', by rw [if_neg (by simp)]; exact r1, r2⟩
        · simp at hr
    · simp at hu

def ExecSub (TB TA : Nat → Option RFunc) (n : Nat) : Prop := ∀ fl c E H r, rexec TB n fl (ugCode c) E H = some r → rexec TA n fl c E H = some r

theorem UL.nil : UL [] [] [] [] := ⟨rfl, rfl, rfl, fun j h => by simp at h, fun j h => by simp at h, fun j h => by simp at h, fun j k b h => by simp at h⟩

theorem ug_all {TA : Nat → Option RFunc} : ∀ n, ExecSub (fun f => (TA f).map ugFunc) TA n ∧ CallSub (rcall (fun f => (TA f).map ugFunc) n) (rcall TA n)
  | 0 => ⟨fun fl c E H r h => by simp [rexec] at h, fun fl g args H r h => by simp [rcall] at h⟩
  | n + 1 => by
    obtain ⟨h1, h2⟩ := ug_all (TA := TA) n
    constructor
    · intro fl c E H r h
      cases c <;> simp only [ugCode] at h
      case ops l =>
        split at h
        · rename_i l' hu
          rw [rexec] at h ⊢
          simp only [Option.map_eq_some_iff] at h ⊢
          obtain ⟨⟨LB, H1⟩, hr, rfl⟩ := h
          obtain ⟨LA', r1, _, _, _, r5⟩ := ug_rops h2 hu UL.nil hr
          have := r5 E
          simp only [List.length_nil, List.drop_zero] at this
          exact ⟨(LA', H1), r1, by simp [this]⟩
        · rw [rexec] at h ⊢
          simp only [Option.map_eq_some_iff] at h ⊢
          obtain ⟨x, hr, rfl⟩ := h
          exact ⟨x, rops_grow h2 hr, rfl⟩
      case seq a b =>
        rw [rexec] at h ⊢
        cases hh : rexec (fun f => (TA f).map ugFunc) n fl (ugCode a) E H with
        | none => rw [hh] at h; simp at h
        | some r1 =>
          rw [hh] at h; rw [h1 _ _ _ _ _ hh]
          obtain ⟨o, E1, H1⟩ := r1
          cases o <;> simp only at h ⊢ <;> first | exact h1 _ _ _ _ _ h | exact h
      case cond x a b =>
        rw [rexec] at h ⊢
        cases hx : x.ev [] E <;> simp only [hx] at h ⊢ <;> try (simp at h; done)
        rename_i bb
        cases bb <;> exact h1 _ _ _ _ _ h
      case block id a =>
        rw [rexec] at h ⊢
        cases hh : rexec (fun f => (TA f).map ugFunc) n fl (ugCode a) E H with
        | none => rw [hh] at h; simp at h
        | some r1 =>
          rw [hh] at h; rw [h1 _ _ _ _ _ hh]; exact h
      case loop a =>
        rw [rexec] at h ⊢
        cases hh : rexec (fun f => (TA f).map ugFunc) n fl (ugCode a) E H with
        | none => rw [hh] at h; simp at h
        | some r1 =>
          rw [hh] at h; rw [h1 _ _ _ _ _ hh]
          obtain ⟨o, E1, H1⟩ := r1
          cases o <;> simp only at h ⊢
          · exact h1 fl (.loop a) _ _ _ (by simpa only [ugCode] using h)
          · exact h
          · exact h
      all_goals (rw [rexec] at h ⊢; exact h)
    · intro fl g args H r h
      rw [rcall] at h ⊢
      cases hf : TA g with
      | none => simp [hf] at h
      | some rf =>
        simp only [hf, Option.map_some, ugFunc] at h ⊢
        split at h
        · rename_i hl
          rw [if_pos hl]
          cases hh : rexec (fun f => (TA f).map ugFunc) n fl (ugCode rf.body) (args ++ List.replicate (rf.nvars - rf.nargs) .undef) H with
          | none => rw [hh] at h; simp at h
          | some r1 => rw [hh] at h; rw [h1 _ _ _ _ _ hh]; exact h
        · simp at h

theorem ung_sound {P : Program} {n fl f : Nat} {args : List AV} {H : Heap} {v : AV} {H' : Heap} (hfl : fl ≤ H.length) (h : rcall (tableU P) n fl f args H = some (v, H')) : ∃ HA', rcall (table P) n fl f args H = some (v, HA') :=
  opt_sound hfl ((ug_all (TA := tableO P) n).2 _ _ _ _ _ h)

end Go.RM

/-
  The row of a law that answers true: its lifted form, from what the abstract machine computes.
-/
namespace Go.RM
open Go.ChangeShapes Go.WideShapes Go.ChangeAt Go.RowKit
set_option linter.unusedVariables false

theorem trodAll_below {T : Type} {enc : TypeId × Value → T} {P : Program} (hl : laidOutB P = true) {W W' : World} (hb : Below W.heap.size W W') : ∀ {ts : List TypeId} {vs : List Value} {ds : List (DataW T)} {ps : List MemPlace},
    (ts.all fun t => P.readableRec t && decide (t < P.types.size)) = true → DataW.TrodAll enc P W 0 (fun _ => true) true ts vs ds ps → (∀ x ∈ ps, x.block < W.heap.size) →
    DataW.TrodAll enc P W' 0 (fun b => decide (b < W.heap.size)) true ts vs ds ps
  | [], [], [], ps, _, h, _ => h
  | t :: ts, v :: vs, d :: ds, ps, hr, h, hlt => by
    obtain ⟨p, q, h1, h2, rfl⟩ := h
    simp only [List.all_cons, Bool.and_eq_true, decide_eq_true_eq] at hr
    exact ⟨p, q, Below.trod hl hr.1.1 hr.1.2 h1 hb (fun x hx => hlt x (by simp [hx])), trodAll_below hl hb hr.2 h2 (fun x hx => hlt x (by simp [hx])), rfl⟩
  | [], [], _ :: _, _, _, h, _ => h.elim
  | [], _ :: _, _, _, _, h, _ => h.elim
  | _ :: _, [], _, _, _, h, _ => h.elim
  | _ :: _, _ :: _, [], _, _, h, _ => h.elim

theorem Bd.all {T : Type} : Bd (T := T) (fun _ => True) (fun _ => True) := ⟨trivial, fun _ => trivial, fun _ _ => trivial, fun _ _ => trivial, fun _ => trivial⟩

theorem lifted {C : Checked} {os : Os} {f : FuncId} {fn : Func} {s : ChangeSpec} {T : Type} {enc : TypeId × Value → T}
    (own : ownKnob C.prog.godebug = none) (started : os.Started) (noInit : C.prog.inits.idxOf? f = none) (hfn : C.prog.funcs[f]? = some fn)
    (witness : ∃ (w : World) (tape : Tape) (i : Input), w.os = os ∧ (w.forCall tape i).Shaped C.prog ∧ i.vars = [] ∧ Input.okWide C.prog (w.forCall tape i) .any w.heap.size f i ∧
      s.pre6 enc C.prog fn [] false (w.forCall tape i).memory i.args ∧ ({} : Assume).holds C.prog (lone (Frame.enter C.prog f i.args .normal) [] (w.forCall tape i)))
    (hl : laidOutB C.prog = true) (hr : (fn.params.toList.all fun t => C.prog.readableRec t && decide (t < C.prog.types.size)) = true) {tb : TypeId} (hres : fn.resultTypes.toList = [tb]) (htb : C.prog.underlying tb = some .bool)
    (hvars : s.vars = []) (hs : ∀ ds : List (DataW T), ds.length = fn.params.toList.length → (s.fn T ds).results = [.lit (.bool true)] ∧ (s.fn T ds).args = ds ∧ (s.fn T ds).vars = [])
    {tcs : List TC} (hk : tcsOk C.prog fn.params.toList tcs = true) (hcore : ∀ (H : Heap) (avs : List AV), WFvs (fun _ => True) H tcs avs → ∃ n H', rcall (tableU C.prog) n H.length f avs H = some (.bool true, H')) :
    ReturnsInHanded {} C os f .any (s.pre6 enc C.prog fn [] false) (s.post enc C.prog fn false true false false) := by
  refine returnsInHanded_of_change (C := C) own started noInit hfn witness ?_
  intro W base args ds gs before hval hW _ _
  have hW' := hW
  obtain ⟨p, q, hA, hV, rfl, hfz, hnd⟩ := hW
  rw [hvars] at hV
  obtain ⟨rfl, rfl⟩ := trodVars_none hV
  have hlen := (Go.trodAll_length hA).2
  obtain ⟨s1, s2, s3⟩ := hs ds hlen
  have hcore' : ∀ (H : Heap) (avs : List AV), WFvs (fun _ => True) H tcs avs → ∃ n H', rcall (table C.prog) n H.length f avs H = some (.bool true, H') := fun H avs h => by
    obtain ⟨n, H', h'⟩ := hcore H avs h
    obtain ⟨HA', h2⟩ := ung_sound (Nat.le_refl _) h'
    exact ⟨n, HA', h2⟩
  have hcalls := calls_true C.mixed hcore' (Bd.all (T := T)) (fun _ _ => trivial) hk hA (fun j t v ht hv => hval j t v (by simpa using ht) (by simpa using hv))
  refine Calls.mono hcalls fun e W' ⟨he, hb⟩ => ?_
  subst he
  have hsz : fn.resultTypes.size = 1 := by rw [← Array.length_toList, hres]; rfl
  refine ⟨_, rfl, ds, [], p ++ [], [], p, [], hW', ?_, ?_, ?_, hb.frame _, fun h => by cases h⟩
  · rw [List.append_nil, s1, hres, hsz]
    exact trodAll_mk1 (shut_bool htb _)
  · rw [List.append_nil, s2]
    exact trodAll_below hl hb hr hA fun x hx => hW'.lt x (by simp [hx])
  · rw [List.append_nil, s3, hvars]; rfl

end Go.RM

/-
  What a call is handed, as lists.
-/
namespace Go.RM
set_option linter.unusedVariables false

/-- What is handed in the shape tc stands for a value of T, of which I holds. -/
structure In {α : Type} (Pn : Nat → Prop) (tc : TC) (T : Ty α) (I : α → Prop) : Prop where
  go : ∀ {H : Heap} {c : List AV}, WF Pn H tc c → ∃ a, T.rel H c a ∧ I a

def in64 (n : Int) : Prop := -9223372036854775808 ≤ n ∧ n ≤ 9223372036854775807

variable {Pn : Nat → Prop}

theorem wf_in64 {n : Int} (h : (Lit.int .i64 n).wf = true) : in64 n := by
  simp [Lit.wf, IntKind.min, IntKind.max, IntKind.bits, IntKind.signed] at h
  unfold in64
  omega

theorem In.int : In Pn (.int .i64) tInt in64 := ⟨fun {H c} h => by
  simp only [WF] at h
  obtain ⟨n, rfl, hn⟩ := h
  exact ⟨n, rfl, wf_in64 hn⟩⟩

theorem In.bool : In Pn .bool tBool (fun _ => True) := ⟨fun {H c} h => by
  simp only [WF] at h
  obtain ⟨b, rfl⟩ := h
  exact ⟨b, rfl, trivial⟩⟩

theorem In.str : In Pn .str tStr (fun s => s.size ≤ maxLen ∧ Pn s.size) := ⟨fun {H c} h => by
  simp only [WF] at h
  obtain ⟨s, rfl, hs⟩ := h
  exact ⟨s, rfl, hs⟩⟩

theorem In.all2 {α : Type} {tc : TC} {T : Ty α} {I : α → Prop} (h : In Pn tc T I) {H : Heap} : ∀ {css : List (List AV)}, (∀ c ∈ css, WF Pn H tc c) → ∃ l, All2 (T.rel H) css l ∧ ∀ x ∈ l, I x
  | [], _ => ⟨[], trivial, fun x hx => by cases hx⟩
  | c :: css, hc => by
    obtain ⟨a, h1, h2⟩ := h.go (hc c (by simp))
    obtain ⟨l, h3, h4⟩ := In.all2 h (css := css) fun d hd => hc d (by simp [hd])
    refine ⟨a :: l, ⟨h1, h3⟩, fun x hx => ?_⟩
    rcases List.mem_cons.1 hx with rfl | hx
    · exact h2
    · exact h4 x hx

theorem In.arr {α : Type} {tc : TC} {T : Ty α} {I : α → Prop} (h : In Pn tc T I) : In Pn (.slice T.e tc) (tArr T) (fun l => (∀ x ∈ l, I x) ∧ l.length ≤ maxLen ∧ Pn l.length) := ⟨fun {H c} hw => by
  simp only [WF] at hw
  obtain ⟨v, css, rfl, hel, hlen, hP, hall⟩ := hw
  obtain ⟨l, h1, h2⟩ := h.all2 hall
  have hll := h1.len
  refine ⟨l, ⟨v, rfl, ⟨css, h1, ?_⟩⟩, h2, by omega, by rw [← hll]; exact hP⟩
  have hm : maxLen = 9223372036854775807 := rfl
  refine ⟨by omega, ?_⟩
  rcases hel.2 with ⟨rfl, rfl⟩ | ⟨b, off, lim, k, rfl, rfl, hb, he, hfit, hcells⟩
  · exact .inl ⟨rfl, by rw [← hll]; rfl, rfl⟩
  · obtain ⟨g1, g2, g3⟩ := blk_act hb
    rw [hll] at hfit hcells
    exact .inr ⟨b, off, none, k, by rw [hll], g1, he, hfit, by simp, hcells.symm⟩⟩

/-- An argument that is a slice. -/
theorem In.sliceV {α : Type} {tc : TC} {T : Ty α} {I : α → Prop} (h : In Pn tc T I) {H : Heap} {v : AV} (hw : WFv Pn H (.slice T.e tc) v) : ∃ l, Arr T H v l ∧ (∀ x ∈ l, I x) ∧ l.length ≤ maxLen ∧ Pn l.length := by
  obtain ⟨l, ⟨w, hc, h1⟩, h2⟩ := h.arr.go (H := H) (c := [v]) hw
  obtain rfl : v = w := by simpa using hc
  exact ⟨l, h1, h2⟩
theorem in_intV {H : Heap} {v : AV} (hw : WFv Pn H (.int .i64) v) : ∃ n, v = .int .i64 n ∧ in64 n := by
  obtain ⟨n, hn, h⟩ := In.int.go (Pn := Pn) (H := H) (c := [v]) hw
  exact ⟨n, by simpa [tInt] using hn, h⟩
end Go.RM

/-
  A law's core: from what it returns.
-/
namespace Go.RM

abbrev tru : AV → Heap → Prop := fun v _ => v = .bool true

theorem core_of {F : Nat → Option RFunc} {fl f : Nat} {args : List AV} {H : Heap} (h : Ret F fl f args H tru) : ∃ n H', rcall F n fl f args H = some (.bool true, H') := by
  obtain ⟨n, v, H', h1, rfl⟩ := h
  exact ⟨n, H', h1⟩

theorem wfvs_cons {Pn : Nat → Prop} {H : Heap} {tc : TC} {tcs : List TC} {avs : List AV} (h : WFvs Pn H (tc :: tcs) avs) : ∃ v r, avs = v :: r ∧ WFv Pn H tc v ∧ WFvs Pn H tcs r := by
  cases avs with
  | nil => exact h.elim
  | cons v r => exact ⟨v, r, rfl, h.1, h.2⟩
theorem wfvs_nil {Pn : Nat → Prop} {H : Heap} {avs : List AV} (h : WFvs Pn H [] avs) : avs = [] := by
  cases avs with
  | nil => rfl
  | cons v r => exact h.elim

end Go.RM

/-
  The end of a law's run.
-/
namespace Go.RM
end Go.RM

/-
  The laws of rollout: the example, the specification.
-/
namespace Go.RM
set_option linter.unusedSimpArgs false
set_option linter.unusedVariables false
set_option maxRecDepth 8000
open Rol

variable {F : Nat → Option RFunc}

def exP : PP := ⟨0, 0, 0, 50⟩
def exE : List Ev := [⟨1, 7, 0, 0, 0⟩, ⟨3, 0, 0, 0, 0⟩]
theorem exRun : runR 2 exP exE = ([⟨[7], 0, 0, 0⟩, ⟨[], 7, 0, 0⟩], (0, 0)) := by rfl

abbrev RExC (F : Nat → Option RFunc) (f : Nat) : Prop := ∀ {fl H Q}, fl ≤ H.length → (∀ H', Keep H.length H H' → Q (.bool true) H') → Ret F fl f [] H Q
theorem rolExample_c {f n1 n2 n3 n4 : Nat} (hF : F f = some (rf_LrolloutExample n1 n2 n3 n4)) (h1 : RunC F n1) (h2 : VersC F n2) (h3 : EqRingsC F n3) (h4 : FEqualIntsC F n4) : RExC F f := fun {fl H Q} hfl hq => by
  refine v_LrolloutExample hF ?_
  intro b0 H1 hb0
  have he : Arr tEv H1 (.slice b0 0 2 (some 2)) exE := NewB.arr (T := tEv) hb0 [evC ⟨1, 7, 0, 0, 0⟩, evC ⟨3, 0, 0, 0, 0⟩] rfl ⟨rfl, rfl, trivial⟩ rfl
  have k1 := hb0.keep
  refine h1 (p := exP) he (k1.fl hfl) fun w H5 k5 hw => ⟨_, _, _, rfl, fun H7 d7 => ?_⟩
  have k7 := (k1.call k5).call d7.keep
  refine h2 (p := exP) ((he.keep k5).keep d7.keep) (k7.fl hfl) fun v H11 k11 hv => ⟨_, _, _, rfl, fun H13 d13 => ?_⟩
  have k13 := (k7.call k11).call d13.keep
  rw [exRun] at hw hv ⊢
  refine ⟨fun _ => ?_, fun h => absurd ⟨rfl, rfl⟩ h⟩
  intro b14 H15 hb14 b16 H17 hb16
  have k17 := (k13.call hb14.keep).call hb16.keep
  have hi : Ints H15 (.slice b14 0 1 (some 1)) [7] := hb14.ints [7] rfl rfl
  have ha : Arr tRing H17 (.slice b16 0 2 (some 2)) [⟨[7], 0, 0, 0⟩, ⟨[], 7, 0, 0⟩] := NewB.arr (T := tRing) hb16 [ringC (.slice b14 0 1 (some 1), ⟨[7], 0, 0, 0⟩), ringC (.empty, ⟨[], 7, 0, 0⟩)] rfl ⟨⟨_, rfl, hi⟩, ⟨_, rfl, Arr.nil⟩, trivial⟩ rfl
  have kw : Keep H5.length H5 H17 := ((((d7.keep).call k11).call d13.keep).call hb14.keep).call hb16.keep
  have kv : Keep H11.length H11 H17 := ((d13.keep).call hb14.keep).call hb16.keep
  refine h3 (hw.keep kw) ha (fun _ => ⟨_, rfl, fun _ b21 H22 hb22 => ?_, fun h => absurd rfl h⟩) (fun h => absurd rfl h)
  refine h4 ((hv.arrP tInt.plain).keep (kv.call hb22.keep)) (hb22.ints [7, 7] rfl rfl) ⟨_, rfl, ?_⟩
  rw [show decide (([⟨[7], 0, 0, 0⟩, ⟨[], 7, 0, 0⟩] : List RS).map verR = [7, 7]) = true from rfl]
  exact hq H22 (k17.call hb22.keep)

/-! ### What Run hands back -/

theorem rinv_nil {n : Nat} {p : PP} : RInv n p [] := ⟨List.Pairwise.nil, fun _ h => by simp at h, fun _ h => by simp at h, List.Pairwise.nil, fun _ h => by simp at h, fun _ h => by simp at h⟩
theorem state_nil {n : Nat} : stateD n [] = List.replicate n zeroR := by
  unfold stateD
  have : (List.range n).map (rOf []) = (List.range n).map fun _ => zeroR := range_eq fun k _ => rfl
  rw [this, List.map_const']; simp

theorem runL_state {n : Nat} {p : PP} (hp : OkP p) (hn : 0 < n) : ∀ {evs : List Ev} {es : List Ent} {i : Nat}, RInv n p es → (runL p (stateD n es) i evs).2.1 = 0 → ∃ es', RInv n p es' ∧ runL p (stateD n es) i evs = (stateD n es', (0, 0))
  | [], es, i, h, _ => ⟨es, h, rfl⟩
  | e :: evs, es, i, h, h0 => by
    rw [runL] at h0 ⊢
    split at h0
    · rename_i hc; exact absurd h0 hc
    · rename_i hc
      rw [if_neg hc]
      obtain ⟨s1, s2⟩ := sim h hp hn e
      obtain ⟨s3, s4⟩ := s2 (Decidable.not_not.1 hc)
      rw [s3] at h0 ⊢
      exact runL_state hp hn s4 h0

theorem runR_state {rings : Int} {p : PP} {evs : List Ev} (h : (runR rings p evs).2.1 = 0) : ∃ n es, rings = (n : Nat) ∧ 0 < n ∧ OkP p ∧ RInv n p es ∧ runR rings p evs = (stateD n es, (0, 0)) ∧ evs.length ≤ 40 ∧ n ≤ 5 := by
  unfold runR at h ⊢
  split at h
  · rename_i hc; exact absurd h hc
  · rename_i hc
    rw [if_neg hc]
    obtain ⟨p1, p2, p3, p4⟩ := pre_ok (Decidable.not_not.1 hc)
    rw [← state_nil] at h ⊢
    obtain ⟨es, i1, i2⟩ := runL_state p4 (by omega) rinv_nil h
    exact ⟨rings.toNat, es, by omega, by omega, p4, i1, i2, p3, by omega⟩

/-! ### The versions fall -/

end Go.RM

/-
  The laws of rollout: one active ring; confirmed before the next.
-/
namespace Go.RM
set_option linter.unusedSimpArgs false
set_option linter.unusedVariables false
set_option maxRecDepth 8000
open Rol

variable {F : Nat → Option RFunc}

theorem state_get {n : Nat} {es : List Ent} {j : Nat} (h : j < (stateD n es).length) : (stateD n es)[j] = rOf es j := by simp [stateD]

theorem act_ent {n : Nat} {p : PP} {es : List Ent} (h : RInv n p es) {k : Nat} (hk : k < n) (ha : (rOf es k).act ≠ 0) : ∃ i, ∃ hi : i < es.length, es[i].r = (k : Int) ∧ (rOf es k).act = es[i].v ∧ (rOf es k).good = es[i].c1 ∧ (rOf es k).bad = es[i].c2 := by
  rcases act_iff h (r := (k : Int)) (by omega) (by omega) with ⟨_, a2, _⟩ | ⟨hi, _, a2, a3, a4, a5, _⟩
  · rw [show ((k : Int)).toNat = k from by omega] at a2; exact absurd a2 ha
  · rw [show ((k : Int)).toNat = k from by omega] at a3 a4 a5
    exact ⟨_, hi, a2, a3, a4, a5⟩
theorem act_diff {n : Nat} {p : PP} {es : List Ent} (h : RInv n p es) {k i : Nat} (hk : k < n) (hi : i < n) (hne : k ≠ i) (ha : (rOf es i).act ≠ 0) : (rOf es k).act ≠ (rOf es i).act := by
  intro he
  obtain ⟨a, ha', a1, a2, _⟩ := act_ent h hi ha
  obtain ⟨b, hb', b1, b2, _⟩ := act_ent h hk (by rw [he]; exact ha)
  have := h.vq hb' ha' (by rw [← b2, ← a2, he])
  subst this
  omega
theorem one_run {f n1 n2 n3 : Nat} (hF : F f = some (rf_LRolloutOneActiveRing n1 n2 n3)) (h1 : RunC F n1) (h2 : RExC F n2) (h3 : VerdictC F n3) {fl : Nat} {H : Heap} {rings : Int} {p : PP} {v : AV} {evs : List Ev} (hv : Arr tEv H v evs) (hfl : fl ≤ H.length) : Ret F fl f [i64 rings, cnt p.b1 p.b2, i64 p.need, i64 p.pm, v] H tru := by
  refine v_LRolloutOneActiveRing hF _ _ _ _ _ _ ?_
  intro H6 d6
  have k6 := d6.keep
  refine h1 (hv.keep k6) (k6.fl hfl) fun w H10 k10 hw => ⟨_, _, _, rfl, fun H12 d12 => ?_⟩
  have k12 := (k6.call k10).call d12.keep
  refine h2 (k12.fl hfl) fun H14 k14 => ⟨_, rfl, fun h => absurd rfl h, fun _ => ?_⟩
  have k14' := k12.call k14
  have hw := (hw.keep d12.keep).keep k14
  by_cases h0 : (runR rings p evs).2.1 = 0
  · obtain ⟨n, es, hn, hn0, hp, hi, hr, _, hn5⟩ := runR_state h0
    rw [hr] at hw ⊢
    refine ⟨fun m i H' => ∃ j : Nat, i = j ∧ j + m = n ∧ Keep H14.length H14 H', n, ⟨0, rfl, by omega, Keep.refl _⟩, ?_⟩
    rintro m _ H27 ⟨j, rfl, hm, hk⟩
    refine ⟨_, hw.len, fun ⟨_, hlt⟩ => ?_, fun hge => rfl⟩
    simp only [state_len] at hlt
    have hjn : j < n := by omega
    have hjs : j < (stateD n es).length := by rw [state_len]; exact hjn
    obtain ⟨x, x1, x2, x3, x4, x5, x6⟩ := (hw.keep hk).ring hjs
    have xc := (hw.keep hk).ringCnt hjs
    simp only [state_get hjs] at x4 xc
    refine ⟨_, x4, fun hz => ⟨m - 1, by omega, j + 1, wsucc hjn (by omega), by omega, hk⟩, fun hnz => ⟨_, _, xc, ?_⟩⟩
    obtain ⟨a, ha, a1, a2, a3, a4⟩ := act_ent hi hjn hnz
    have hc := hi.cs _ (List.getElem_mem ha)
    have hvd := hi.ver _ (List.getElem_mem ha) (by omega)
    rw [a3, a4]
    refine h3 hp.base hc hp.par.2.2.1 hp.par.2.2.2 ((k14'.call hk).fl hfl) fun H36 k36 => ⟨_, rfl, fun h => absurd h hvd, fun _ => ?_⟩
    have hk' := hk.call k36
    refine ⟨fun m' k => ∃ q : Nat, k = q ∧ q + m' = j, j, ⟨0, rfl, by omega⟩, ?_⟩
    rintro m' _ ⟨q, rfl, hm'⟩
    refine ⟨fun hlt2 => ?_, fun hge2 => ⟨m - 1, by omega, j + 1, wsucc hjn (by omega), by omega, hk'⟩⟩
    have hqn : q < n := by omega
    have hqs : q < (stateD n es).length := by rw [state_len]; exact hqn
    obtain ⟨y, y1, y2, y3, y4, _⟩ := (hw.keep hk').ring hqs
    obtain ⟨z, z1, z2, z3, z4, _⟩ := (hw.keep hk').ring hjs
    simp only [state_get hqs] at y4
    simp only [state_get hjs] at z4
    exact ⟨_, y4, _, z4, fun h => absurd h (act_diff hi hqn hjn (by omega) hnz), fun _ => ⟨m' - 1, by omega, q + 1, wsucc hqn (by omega), by omega⟩⟩
  · refine ⟨fun _ _ _ => True, 0, trivial, ?_⟩
    intro m i H27 _
    exact ⟨_, hw.len, fun h => absurd h.1 h0, fun _ => rfl⟩

end Go.RM

/-
  The laws of rollout: the specification.
-/
namespace Go.RM
set_option linter.unusedSimpArgs false
set_option linter.unusedVariables false
set_option maxRecDepth 8000
open Rol

variable {F : Nat → Option RFunc}

end Go.RM

/-
  The laws of rollout: an aborted version is forgotten.
-/
namespace Go.RM
set_option linter.unusedSimpArgs false
set_option linter.unusedVariables false
set_option maxRecDepth 8000
open Rol

variable {F : Nat → Option RFunc}

theorem tEv.plain : tEv.Plain := fun h => h

end Go.RM

