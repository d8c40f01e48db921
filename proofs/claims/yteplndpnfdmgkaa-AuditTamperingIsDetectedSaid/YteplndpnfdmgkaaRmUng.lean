import Derived.Test.YteplndpnfdmgkaaRmOpt3
import Derived.Test.YteplndpnfdmgkaaAuC3
import Derived.ChangeCalls
import Derived.JoinedCond
import Derived.Test.YteplndpnfdmgkaaAuR
import Derived.Test.YteplndpnfdmgkaaAuL
/-
  Operations that cannot harm are run whether they are wanted or not: a pass over the abstract machine's code, and that it keeps what the code computes.
-/
namespace Go.RM
set_option linter.unusedSimpArgs false
set_option linter.unusedVariables false

abbrev Gd := Option (Nat × Bool)

def gEq : Gd → Gd → Bool
  | none, none => true
  | some (i, b), some (j, c) => i == j && b == c
  | _, _ => false

theorem gEq_eq {a b : Gd} (h : gEq a b = true) : a = b := by
  cases a <;> cases b <;> simp_all [gEq]
  rename_i x y
  exact Prod.ext h.1 h.2

/-- Where g is met, so is g'. -/
def implG (gs : List Gd) : Nat → Gd → Gd → Bool
  | _, _, none => true
  | 0, g, g' => gEq g g'
  | n + 1, g, g' => gEq g g' || (match g with | some (k, _) => implG gs n (gs.getD k none) g' | none => false)

def locOk (gs : List Gd) (g : Gd) : RX → Bool
  | .loc j => decide (j < gs.length) && implG gs gs.length g (gs.getD j none)
  | _ => true

def locOkP (gs : List Gd) (g : Gd) (c : RX) (b : Bool) : RX → Bool
  | .loc j => decide (j < gs.length) && (implG gs gs.length g (gs.getD j none) || (match c with | .loc k => gEq (gs.getD j none) (some (k, b)) | _ => false))
  | _ => true

def opOk (gs : List Gd) (g : Gd) : ROp → Bool
  | .pick c a b => locOk gs g c && locOkP gs g c true a && locOkP gs g c false b
  | r => r.rxs.all (locOk gs g)

def tame : ROp → Bool
  | .move _ => true
  | .pick .. => true
  | .bin op .. => (match op with | .quo => false | .rem => false | .shl => false | .shr => false | _ => true)
  | .un .. => true
  | .field .. => true
  | .convInt .. => true
  | .len _ => true
  | .lenStr _ => true
  | .build .. => true
  | .extract .. => true
  | .min .. => true
  | .max .. => true
  | _ => false

def chooseU (gs : List Gd) (ch : List Bool) (o : ROper) : Bool :=
  o.guard.isSome && o.dst.isNone && tame o.op && (o.op.rxs.all fun | .loc j => (gs.getD j none).isNone || ch.getD j false | _ => true)

def checkU (gs : List Gd) (ch : List Bool) (o : ROper) (w : Bool) : Bool :=
  opOk gs o.guard o.op && (match o.guard with | some (k, _) => decide (k < gs.length) && (w || (gs.getD k none).isNone || !ch.getD k false) | none => true) && (!w || (o.dst.isNone && pureR o.op))

def ugOps : List ROper → List Gd → List Bool → Option (List ROper)
  | [], _, _ => some []
  | o :: l, gs, ch =>
    let w := chooseU gs ch o
    if checkU gs ch o w then (ugOps l (gs ++ [o.guard]) (ch ++ [w])).map ((if w then { o with guard := none } else o) :: ·) else none

def ugCode : RCode → RCode
  | .ops l => (match ugOps l [] [] with | some l' => .ops l' | none => .ops l)
  | .seq a b => .seq (ugCode a) (ugCode b)
  | .cond x a b => .cond x (ugCode a) (ugCode b)
  | .block id c => .block id (ugCode c)
  | .loop c => .loop (ugCode c)
  | c => c

def ugFunc (f : RFunc) : RFunc := { f with body := ugCode f.body }

/-- The table of the functions, with both passes done. -/
def tableU (P : Program) (pr : Nat → Option Prim) (f : Nat) : Option RFunc := (tableO P pr f).map ugFunc

structure UL (gs : List Gd) (ch : List Bool) (LA LB : List AV) : Prop where
  lg : gs.length = LA.length
  lc : ch.length = LA.length
  ll : LB.length = LA.length
  kept : ∀ j, j < LA.length → ch.getD j false = false → LA[j]? = LB[j]?
  same : ∀ j, j < LA.length → wantedB (gs.getD j none) LA = true → LA[j]? = LB[j]?
  skip : ∀ j, j < LA.length → wantedB (gs.getD j none) LA = false → LA[j]? = some .undef
  back : ∀ j k b, j < LA.length → gs.getD j none = some (k, b) → k < j

theorem wanted_some {k : Nat} {b : Bool} {L : List AV} (h : wantedB (some (k, b)) L = true) : L[k]? = some (.bool b) := by
  simp only [wantedB] at h
  split at h
  · rename_i b' hb; simp only [beq_iff_eq] at h; subst h; exact hb
  · simp at h

theorem impl_wanted {gs : List Gd} {ch : List Bool} {LA LB : List AV} (U : UL gs ch LA LB) : ∀ (n : Nat) {g g' : Gd}, implG gs n g g' = true → wantedB g LA = true → wantedB g' LA = true
  | _, _, none, _, _ => rfl
  | 0, g, some g', h, hw => by simp only [implG] at h; rw [← gEq_eq h]; exact hw
  | n + 1, g, some g', h, hw => by
    simp only [implG, Bool.or_eq_true] at h
    rcases h with h | h
    · rw [← gEq_eq h]; exact hw
    · cases g with
      | none => simp at h
      | some p =>
        obtain ⟨k, b⟩ := p
        simp only at h
        have hk := wanted_some hw
        have hkl : k < LA.length := by
          rcases Nat.lt_or_ge k LA.length with h' | h'
          · exact h'
          · rw [List.getElem?_eq_none h'] at hk; simp at hk
        refine impl_wanted U n h ?_
        cases hq : wantedB (gs.getD k none) LA with
        | true => rfl
        | false => have := U.skip k hkl hq; rw [hk] at this; simp [AV.undef] at this

theorem locOk_eq {gs : List Gd} {ch : List Bool} {LA LB E : List AV} (U : UL gs ch LA LB) {g : Gd} (hw : wantedB g LA = true) {rx : RX} (h : locOk gs g rx = true) : RX.ev LA E rx = RX.ev LB E rx := by
  cases rx with
  | var y => rfl
  | k v => rfl
  | loc j =>
    simp only [locOk, Bool.and_eq_true, decide_eq_true_eq] at h
    have := U.same j (by rw [← U.lg]; exact h.1) (impl_wanted U _ h.2 hw)
    simp only [RX.ev, List.getD_eq_getElem?_getD, this]

theorem locOkP_eq {gs : List Gd} {ch : List Bool} {LA LB E : List AV} (U : UL gs ch LA LB) {g : Gd} (hw : wantedB g LA = true) {c : RX} {b : Bool} (hc : RX.ev LA E c = .bool b) {rx : RX} (h : locOkP gs g c b rx = true) : RX.ev LA E rx = RX.ev LB E rx := by
  cases rx with
  | var y => rfl
  | k v => rfl
  | loc j =>
    simp only [locOkP, Bool.and_eq_true, Bool.or_eq_true, decide_eq_true_eq] at h
    have hj : j < LA.length := by rw [← U.lg]; exact h.1
    have hs : wantedB (gs.getD j none) LA = true := by
      rcases h.2 with h2 | h2
      · exact impl_wanted U _ h2 hw
      · cases c with
        | loc k =>
          simp only at h2
          rw [gEq_eq h2]
          simp only [RX.ev, List.getD_eq_getElem?_getD] at hc
          cases hk : LA[k]? with
          | none => rw [hk] at hc; simp [AV.undef] at hc
          | some v => rw [hk] at hc; simp only [Option.getD_some] at hc; subst hc; simp [wantedB, hk]
        | var _ => simp at h2
        | k _ => simp at h2
    have := U.same j hj hs
    simp only [RX.ev, List.getD_eq_getElem?_getD, this]

theorem rop_same {gs : List Gd} {ch : List Bool} {LA LB E : List AV} (U : UL gs ch LA LB) {g : Gd} (hw : wantedB g LA = true) {call : Nat → Nat → List AV → Heap → Option (AV × Heap)} {fl : Nat} {free : Bool} {H : Heap} {r : ROp} (h : opOk gs g r = true) :
    rop call fl free (RX.ev LA E) H r = rop call fl free (RX.ev LB E) H r := by
  have gen : r.rxs.all (locOk gs g) = true → rop call fl free (RX.ev LA E) H r = rop call fl free (RX.ev LB E) H r := fun h => rop_congr fun rx hrx => locOk_eq U hw (List.all_eq_true.1 h rx hrx)
  cases r <;> simp only [opOk] at h <;> try exact gen h
  rename_i c a b
  simp only [Bool.and_eq_true] at h
  obtain ⟨⟨h1, h2⟩, h3⟩ := h
  have hc := locOk_eq (E := E) U hw h1
  simp only [rop]
  rw [← hc]
  cases hv : RX.ev LA E c <;> try rfl
  rename_i t
  cases t with
  | true => simp only [pickV_true]; rw [locOkP_eq U hw hv h2]
  | false => simp only [pickV_false]; rw [locOkP_eq U hw hv h3]

theorem wanted_app {g : Gd} {L : List AV} {v : AV} (h : ∀ k b, g = some (k, b) → k < L.length) : wantedB g (L ++ [v]) = wantedB g L := by
  cases g with
  | none => rfl
  | some p =>
    obtain ⟨k, b⟩ := p
    simp only [wantedB, snoc_lt v (h k b rfl)]

theorem UL.next {gs : List Gd} {ch : List Bool} {LA LB : List AV} (U : UL gs ch LA LB) {g : Gd} (hg : ∀ k b, g = some (k, b) → k < LA.length) {w : Bool} {vA vB : AV} (h1 : w = false → vA = vB) (h2 : wantedB g LA = true → vA = vB) (h3 : wantedB g LA = false → vA = .undef) :
    UL (gs ++ [g]) (ch ++ [w]) (LA ++ [vA]) (LB ++ [vB]) := by
  have hgs : ∀ j, j < LA.length → (gs ++ [g]).getD j none = gs.getD j none := fun j hj => by simp only [List.getD_eq_getElem?_getD, snoc_lt g (show j < gs.length by rw [U.lg]; exact hj)]
  have hgl : (gs ++ [g]).getD LA.length none = g := by rw [← U.lg, List.getD_eq_getElem?_getD, snoc_end]; rfl
  have hch : ∀ j, j < LA.length → (ch ++ [w]).getD j false = ch.getD j false := fun j hj => by simp only [List.getD_eq_getElem?_getD, snoc_lt w (show j < ch.length by rw [U.lc]; exact hj)]
  have hcl : (ch ++ [w]).getD LA.length false = w := by rw [← U.lc, List.getD_eq_getElem?_getD, snoc_end]; rfl
  have hwj : ∀ j, j < LA.length → wantedB (gs.getD j none) (LA ++ [vA]) = wantedB (gs.getD j none) LA := fun j hj => wanted_app fun k b e => by have := U.back j k b hj e; omega
  have hwg : wantedB g (LA ++ [vA]) = wantedB g LA := wanted_app hg
  have hA : ∀ j, j < LA.length → (LA ++ [vA])[j]? = LA[j]? ∧ (LB ++ [vB])[j]? = LB[j]? := fun j hj => ⟨snoc_lt vA hj, snoc_lt vB (by rw [U.ll]; exact hj)⟩
  have hAl : (LA ++ [vA])[LA.length]? = some vA ∧ (LB ++ [vB])[LA.length]? = some vB := ⟨snoc_end _ _, by rw [← U.ll]; exact snoc_end _ _⟩
  have split : ∀ {j}, j < (LA ++ [vA]).length → j < LA.length ∨ j = LA.length := fun h => by simp at h; omega
  refine ⟨by simp [U.lg], by simp [U.lc], by simp [U.ll], fun j hj hc => ?_, fun j hj hc => ?_, fun j hj hc => ?_, fun j k b hj hc => ?_⟩
  · rcases split hj with h | rfl
    · rw [(hA j h).1, (hA j h).2]; rw [hch j h] at hc; exact U.kept j h hc
    · rw [hcl] at hc; rw [hAl.1, hAl.2, h1 hc]
  · rcases split hj with h | rfl
    · rw [hgs j h, hwj j h] at hc
      rw [(hA j h).1, (hA j h).2]; exact U.same j h hc
    · rw [hgl, hwg] at hc; rw [hAl.1, hAl.2, h2 hc]
  · rcases split hj with h | rfl
    · rw [hgs j h, hwj j h] at hc
      rw [(hA j h).1]; exact U.skip j h hc
    · rw [hgl, hwg] at hc; rw [hAl.1, h3 hc]
  · rcases split hj with h | rfl
    · rw [hgs j h] at hc; exact U.back j k b h hc
    · rw [hgl] at hc; exact hg k b hc

def CallSub (callB callA : Nat → Nat → List AV → Heap → Option (AV × Heap)) : Prop := ∀ fl g args H r, callB fl g args H = some r → callA fl g args H = some r

theorem rop_sub {callB callA : Nat → Nat → List AV → Heap → Option (AV × Heap)} (h : CallSub callB callA) {fl : Nat} {free : Bool} {X : RX → AV} {H : Heap} {r : ROp} {x : AV × Heap} (hr : rop callB fl free X H r = some x) : rop callA fl free X H r = some x := by
  cases r with
  | call f args =>
    simp only [rop] at hr ⊢
    split at hr
    · exact h _ _ _ _ _ hr
    · simp at hr
  | callS f args => exact h _ _ _ _ _ hr
  | _ => exact hr

theorem ug_rops {callB callA : Nat → Nat → List AV → Heap → Option (AV × Heap)} (hcall : CallSub callB callA) {fl : Nat} {E : List AV} : ∀ {l l' : List ROper} {gs : List Gd} {ch : List Bool} {LA LB LB' : List AV} {H H' : Heap}, ugOps l gs ch = some l' → UL gs ch LA LB →
    rops callB fl E l' LB H = some (LB', H') → ∃ LA', rops callA fl E l LA H = some (LA', H') ∧ LA'.take LA.length = LA ∧ LB'.take LB.length = LB ∧ LA.length ≤ LA'.length ∧ ∀ E0, putAll l (LA'.drop LA.length) E0 = putAll l' (LB'.drop LB.length) E0
  | [], l', gs, ch, LA, LB, LB', H, H', hu, U, hr => by
    simp only [ugOps, Option.some.injEq] at hu; subst hu
    simp only [rops, Option.some.injEq, Prod.mk.injEq] at hr
    obtain ⟨rfl, rfl⟩ := hr
    exact ⟨LA, rfl, by simp, by simp, Nat.le_refl _, fun E0 => by simp [putAll]⟩
  | o :: l, l', gs, ch, LA, LB, LB', H, H', hu, U, hr => by
    simp only [ugOps] at hu
    split at hu
    · rename_i hck
      simp only [Option.map_eq_some_iff] at hu
      obtain ⟨l1, h2, rfl⟩ := hu
      simp only [checkU, Bool.and_eq_true] at hck
      obtain ⟨⟨hop, hgd⟩, hpu⟩ := hck
      generalize hw : chooseU gs ch o = w at *
      have hg : ∀ k b, o.guard = some (k, b) → k < LA.length := fun k b e => by
        rw [e] at hgd
        simp only [Bool.and_eq_true, decide_eq_true_eq] at hgd
        rw [← U.lg]; exact hgd.1
      have key : ∀ (vA vB : AV) (H1 : Heap), UL (gs ++ [o.guard]) (ch ++ [w]) (LA ++ [vA]) (LB ++ [vB]) → rops callB fl E l1 (LB ++ [vB]) H1 = some (LB', H') → (∀ E0, putDst o.dst vA E0 = putDst o.dst vB E0) →
          ∃ LA', rops callA fl E l (LA ++ [vA]) H1 = some (LA', H') ∧ LA'.take LA.length = LA ∧ LB'.take LB.length = LB ∧ LA.length ≤ LA'.length ∧ ∀ E0, putAll (o :: l) (LA'.drop LA.length) E0 = putAll ((if w = true then { o with guard := none } else o) :: l1) (LB'.drop LB.length) E0 := fun vA vB H1 U1 hr1 hd => by
        obtain ⟨LA', r1, r2, r3, r4, r5⟩ := ug_rops hcall h2 U1 hr1
        have hdr : ∀ {L L' : List AV} {u : AV}, L'.take (L ++ [u]).length = L ++ [u] → L'.drop L.length = u :: L'.drop (L ++ [u]).length ∧ L'.take L.length = L := fun {L L' u} ht => by
          constructor
          · conv => lhs; rw [← List.take_append_drop (L ++ [u]).length L', ht]
            rw [List.append_assoc, List.drop_append_of_le_length (Nat.le_refl _)]
            simp
          · have := congrArg (List.take L.length) ht
            rw [List.take_take] at this
            simpa using this
        obtain ⟨a1, a2⟩ := hdr r2
        obtain ⟨b1, b2⟩ := hdr r3
        refine ⟨LA', r1, a2, b2, by simp at r4; omega, fun E0 => ?_⟩
        rw [a1, b1]
        have hdst : (if w = true then { o with guard := none } else o).dst = o.dst := by split <;> rfl
        simp only [putAll, hdst, hd]
        exact r5 _
      -- what the changed list does at its head
      cases hwv : w with
      | false =>
        rw [hwv] at hr key hgd
        simp only [Bool.false_eq_true, if_false] at hr key
        have hsame : wantedB o.guard LA = wantedB o.guard LB := by
          cases hgo : o.guard with
          | none => rfl
          | some p =>
            obtain ⟨k, b⟩ := p
            rw [hgo] at hgd
            simp only [Bool.false_or, Bool.and_eq_true, Bool.or_eq_true, decide_eq_true_eq, Option.isNone_iff_eq_none, Bool.not_eq_true'] at hgd
            have hk : k < LA.length := by rw [← U.lg]; exact hgd.1
            have : LA[k]? = LB[k]? := by
              rcases hgd.2 with h | h
              · exact U.same k hk (by rw [h]; rfl)
              · exact U.kept k hk h
            simp only [wantedB, this]
        simp only [rops] at hr ⊢
        rw [hsame]
        split at hr
        · rename_i hwB
          split at hr
          · rename_i v H1 hv
            have hwA : wantedB o.guard LA = true := by rw [hsame]; exact hwB
            have hvA := rop_sub hcall hv
            rw [← rop_same U hwA hop] at hvA
            obtain ⟨LA', r1, r2⟩ := key v v H1 (by exact U.next hg (fun _ => rfl) (fun _ => rfl) (fun h => by rw [hwA] at h; simp at h)) hr (fun _ => rfl)
            exact ⟨LA', by rw [if_pos hwB, hvA]; exact r1, r2⟩
          · simp at hr
        · rename_i hwB
          have hwA : wantedB o.guard LA = false := by rw [hsame]; simpa using hwB
          obtain ⟨LA', r1, r2⟩ := key .undef .undef H (by exact U.next hg (fun _ => rfl) (fun _ => rfl) (fun _ => rfl)) hr (fun _ => rfl)
          exact ⟨LA', by rw [if_neg hwB]; exact r1, r2⟩
      | true =>
        rw [hwv] at hr key hpu
        simp only [if_true, Bool.not_true, Bool.false_or, Bool.and_eq_true, Option.isNone_iff_eq_none] at hr key hpu
        have hd : ∀ vA vB E0, putDst o.dst vA E0 = putDst o.dst vB E0 := fun vA vB E0 => by rw [hpu.1]; rfl
        simp only [rops, wantedB, if_true] at hr
        split at hr
        · rename_i v H1 hv
          have hH := (rop_pure hpu.2 hv).1
          subst hH
          simp only [rops]
          cases hwA : wantedB o.guard LA with
          | true =>
            have hvA := rop_sub hcall hv
            rw [← rop_same U hwA hop] at hvA
            obtain ⟨LA', r1, r2⟩ := key v v H1 (by exact U.next hg (fun _ => rfl) (fun _ => rfl) (fun h => by rw [hwA] at h; simp at h)) hr (fun _ => rfl)
            exact ⟨LA', by rw [if_pos rfl, hvA]; exact r1, r2⟩
          | false =>
            obtain ⟨LA', r1, r2⟩ := key .undef v H1 (by exact U.next hg (fun h => by simp at h) (fun h => by rw [hwA] at h; simp at h) (fun _ => rfl)) hr (hd _ _)
            exact ⟨LA', by rw [if_neg (by simp)]; exact r1, r2⟩
        · simp at hr
    · simp at hu

def ExecSub (TB TA : Nat → Option RFunc) (n : Nat) : Prop := ∀ fl c E H r, rexec TB n fl (ugCode c) E H = some r → rexec TA n fl c E H = some r

theorem UL.nil : UL [] [] [] [] := ⟨rfl, rfl, rfl, fun j h => by simp at h, fun j h => by simp at h, fun j h => by simp at h, fun j k b h => by simp at h⟩

theorem ug_all {TA : Nat → Option RFunc} : ∀ n, ExecSub (fun f => (TA f).map ugFunc) TA n ∧ CallSub (rcall (fun f => (TA f).map ugFunc) n) (rcall TA n)
  | 0 => ⟨fun fl c E H r h => by simp [rexec] at h, fun fl g args H r h => by simp [rcall] at h⟩
  | n + 1 => by
    obtain ⟨h1, h2⟩ := ug_all (TA := TA) n
    constructor
    · intro fl c E H r h
      cases c <;> simp only [ugCode] at h
      case ops l =>
        split at h
        · rename_i l' hu
          rw [rexec] at h ⊢
          simp only [Option.map_eq_some_iff] at h ⊢
          obtain ⟨⟨LB, H1⟩, hr, rfl⟩ := h
          obtain ⟨LA', r1, _, _, _, r5⟩ := ug_rops h2 hu UL.nil hr
          have := r5 E
          simp only [List.length_nil, List.drop_zero] at this
          exact ⟨(LA', H1), r1, by simp [this]⟩
        · rw [rexec] at h ⊢
          simp only [Option.map_eq_some_iff] at h ⊢
          obtain ⟨x, hr, rfl⟩ := h
          exact ⟨x, rops_grow h2 hr, rfl⟩
      case seq a b =>
        rw [rexec] at h ⊢
        cases hh : rexec (fun f => (TA f).map ugFunc) n fl (ugCode a) E H with
        | none => rw [hh] at h; simp at h
        | some r1 =>
          rw [hh] at h; rw [h1 _ _ _ _ _ hh]
          obtain ⟨o, E1, H1⟩ := r1
          cases o <;> simp only at h ⊢ <;> first | exact h1 _ _ _ _ _ h | exact h
      case cond x a b =>
        rw [rexec] at h ⊢
        cases hx : x.ev [] E <;> simp only [hx] at h ⊢ <;> try (simp at h; done)
        rename_i bb
        cases bb <;> exact h1 _ _ _ _ _ h
      case block id a =>
        rw [rexec] at h ⊢
        cases hh : rexec (fun f => (TA f).map ugFunc) n fl (ugCode a) E H with
        | none => rw [hh] at h; simp at h
        | some r1 =>
          rw [hh] at h; rw [h1 _ _ _ _ _ hh]; exact h
      case loop a =>
        rw [rexec] at h ⊢
        cases hh : rexec (fun f => (TA f).map ugFunc) n fl (ugCode a) E H with
        | none => rw [hh] at h; simp at h
        | some r1 =>
          rw [hh] at h; rw [h1 _ _ _ _ _ hh]
          obtain ⟨o, E1, H1⟩ := r1
          cases o <;> simp only at h ⊢
          · exact h1 fl (.loop a) _ _ _ (by simpa only [ugCode] using h)
          · exact h
          · exact h
      all_goals (rw [rexec] at h ⊢; exact h)
    · intro fl g args H r h
      rw [rcall] at h ⊢
      cases hf : TA g with
      | none => simp [hf] at h
      | some rf =>
        simp only [hf, Option.map_some, ugFunc] at h ⊢
        cases hp : rf.prim with
        | some p => rw [hp] at h; exact h
        | none =>
        rw [hp] at h
        simp only at h ⊢
        split at h
        · rename_i hl
          rw [if_pos hl]
          cases hh : rexec (fun f => (TA f).map ugFunc) n fl (ugCode rf.body) (args ++ List.replicate (rf.nvars - rf.nargs) .undef) H with
          | none => rw [hh] at h; simp at h
          | some r1 => rw [hh] at h; rw [h1 _ _ _ _ _ hh]; exact h
        · simp at h

theorem ung_sound {P : Program} {pr : Nat → Option Prim} {n fl f : Nat} {args : List AV} {H : Heap} {v : AV} {H' : Heap} (hfl : fl ≤ H.length) (h : rcall (tableU P pr) n fl f args H = some (v, H')) : ∃ HA', rcall (table P pr) n fl f args H = some (v, HA') :=
  opt_sound hfl ((ug_all (TA := tableO P pr) n).2 _ _ _ _ _ h)

end Go.RM

/-
  The row of a law that answers true: its lifted form, from what the abstract machine computes.
-/
namespace Go.RM
open Go.ChangeShapes Go.WideShapes Go.ChangeAt Go.RowKit
set_option linter.unusedVariables false

theorem trodAll_below {T : Type} {enc : TypeId × Value → T} {P : Program} (hl : laidOutB P = true) {W W' : World} (hb : Below W.heap.size W W') : ∀ {ts : List TypeId} {vs : List Value} {ds : List (DataW T)} {ps : List MemPlace},
    (ts.all fun t => P.readableRec t && decide (t < P.types.size)) = true → DataW.TrodAll enc P W 0 (fun _ => true) true ts vs ds ps → (∀ x ∈ ps, x.block < W.heap.size) →
    DataW.TrodAll enc P W' 0 (fun b => decide (b < W.heap.size)) true ts vs ds ps
  | [], [], [], ps, _, h, _ => h
  | t :: ts, v :: vs, d :: ds, ps, hr, h, hlt => by
    obtain ⟨p, q, h1, h2, rfl⟩ := h
    simp only [List.all_cons, Bool.and_eq_true, decide_eq_true_eq] at hr
    exact ⟨p, q, Below.trod hl hr.1.1 hr.1.2 h1 hb (fun x hx => hlt x (by simp [hx])), trodAll_below hl hb hr.2 h2 (fun x hx => hlt x (by simp [hx])), rfl⟩
  | [], [], _ :: _, _, _, h, _ => h.elim
  | [], _ :: _, _, _, _, h, _ => h.elim
  | _ :: _, [], _, _, _, h, _ => h.elim
  | _ :: _, _ :: _, [], _, _, h, _ => h.elim

theorem Bd.all {T : Type} : Bd (T := T) (fun _ => True) (fun _ => True) := ⟨trivial, fun _ => trivial, fun _ _ => trivial, fun _ _ => trivial, fun _ => trivial⟩

theorem lifted {C : Checked} {os : Os} {f : FuncId} {fn : Func} {s : ChangeSpec} {T : Type} {enc : TypeId × Value → T}
    {pr : Nat → Option Prim} (hpr : PrimsOk C.prog pr) (own : ownKnob C.prog.godebug = none) (started : os.Started) (noInit : C.prog.inits.idxOf? f = none) (hfn : C.prog.funcs[f]? = some fn)
    (witness : ∃ (w : World) (tape : Tape) (i : Input), w.os = os ∧ (w.forCall tape i).Shaped C.prog ∧ i.vars = [] ∧ Input.okWide C.prog (w.forCall tape i) .any w.heap.size f i ∧
      s.pre6 enc C.prog fn [] false (w.forCall tape i).memory i.args ∧ ({} : Assume).holds C.prog (lone (Frame.enter C.prog f i.args .normal) [] (w.forCall tape i)))
    (hl : laidOutB C.prog = true) (hr : (fn.params.toList.all fun t => C.prog.readableRec t && decide (t < C.prog.types.size)) = true) {tb : TypeId} (hres : fn.resultTypes.toList = [tb]) (htb : C.prog.underlying tb = some .bool)
    (hvars : s.vars = []) (hs : ∀ ds : List (DataW T), ds.length = fn.params.toList.length → (s.fn T ds).results = [.lit (.bool true)] ∧ (s.fn T ds).args = ds ∧ (s.fn T ds).vars = [])
    {tcs : List TC} (hk : tcsOk C.prog fn.params.toList tcs = true) (hcore : ∀ (H : Heap) (avs : List AV), WFvs (fun _ => True) H tcs avs → ∃ n H', rcall (tableU C.prog pr) n H.length f avs H = some (.bool true, H')) :
    ReturnsInHanded {} C os f .any (s.pre6 enc C.prog fn [] false) (s.post enc C.prog fn false true false false) := by
  refine returnsInHanded_of_change (C := C) own started noInit hfn witness ?_
  intro W base args ds gs before hval hW _ _
  have hW' := hW
  obtain ⟨p, q, hA, hV, rfl, hfz, hnd⟩ := hW
  rw [hvars] at hV
  obtain ⟨rfl, rfl⟩ := trodVars_none hV
  have hlen := (Go.trodAll_length hA).2
  obtain ⟨s1, s2, s3⟩ := hs ds hlen
  have hcore' : ∀ (H : Heap) (avs : List AV), WFvs (fun _ => True) H tcs avs → ∃ n H', rcall (table C.prog pr) n H.length f avs H = some (.bool true, H') := fun H avs h => by
    obtain ⟨n, H', h'⟩ := hcore H avs h
    obtain ⟨HA', h2⟩ := ung_sound (Nat.le_refl _) h'
    exact ⟨n, HA', h2⟩
  have hcalls := calls_true C.mixed hpr hcore' (Bd.all (T := T)) (fun _ _ => trivial) hk hA (fun j t v ht hv => hval j t v (by simpa using ht) (by simpa using hv))
  refine Calls.mono hcalls fun e W' ⟨he, hb⟩ => ?_
  subst he
  have hsz : fn.resultTypes.size = 1 := by rw [← Array.length_toList, hres]; rfl
  refine ⟨_, rfl, ds, [], p ++ [], [], p, [], hW', ?_, ?_, ?_, hb.frame _, fun h => by cases h⟩
  · rw [List.append_nil, s1, hres, hsz]
    exact trodAll_mk1 (shut_bool htb _)
  · rw [List.append_nil, s2]
    exact trodAll_below hl hb hr hA fun x hx => hW'.lt x (by simp [hx])
  · rw [List.append_nil, s3, hvars]; rfl

end Go.RM

/-
  What a call is handed, as lists.
-/
namespace Go.RM
set_option linter.unusedVariables false

/-- What is handed in the shape tc stands for a value of T, of which I holds. -/
structure In {α : Type} (Pn : Nat → Prop) (tc : TC) (T : Ty α) (I : α → Prop) : Prop where
  go : ∀ {H : Heap} {c : List AV}, WF Pn H tc c → ∃ a, T.rel H c a ∧ I a

def in64 (n : Int) : Prop := -9223372036854775808 ≤ n ∧ n ≤ 9223372036854775807

variable {Pn : Nat → Prop}

theorem wf_in64 {n : Int} (h : (Lit.int .i64 n).wf = true) : in64 n := by
  simp [Lit.wf, IntKind.min, IntKind.max, IntKind.bits, IntKind.signed] at h
  unfold in64
  omega

theorem In.int : In Pn (.int .i64) tInt in64 := ⟨fun {H c} h => by
  simp only [WF] at h
  obtain ⟨n, rfl, hn⟩ := h
  exact ⟨n, rfl, wf_in64 hn⟩⟩

theorem In.bool : In Pn .bool tBool (fun _ => True) := ⟨fun {H c} h => by
  simp only [WF] at h
  obtain ⟨b, rfl⟩ := h
  exact ⟨b, rfl, trivial⟩⟩

theorem In.str : In Pn .str tStr (fun s => s.size ≤ maxLen ∧ Pn s.size) := ⟨fun {H c} h => by
  simp only [WF] at h
  obtain ⟨s, rfl, hs⟩ := h
  exact ⟨s, rfl, hs⟩⟩

theorem In.all2 {α : Type} {tc : TC} {T : Ty α} {I : α → Prop} (h : In Pn tc T I) {H : Heap} : ∀ {css : List (List AV)}, (∀ c ∈ css, WF Pn H tc c) → ∃ l, All2 (T.rel H) css l ∧ ∀ x ∈ l, I x
  | [], _ => ⟨[], trivial, fun x hx => by cases hx⟩
  | c :: css, hc => by
    obtain ⟨a, h1, h2⟩ := h.go (hc c (by simp))
    obtain ⟨l, h3, h4⟩ := In.all2 h (css := css) fun d hd => hc d (by simp [hd])
    refine ⟨a :: l, ⟨h1, h3⟩, fun x hx => ?_⟩
    rcases List.mem_cons.1 hx with rfl | hx
    · exact h2
    · exact h4 x hx

theorem In.arr {α : Type} {tc : TC} {T : Ty α} {I : α → Prop} (h : In Pn tc T I) : In Pn (.slice T.e tc) (tArr T) (fun l => (∀ x ∈ l, I x) ∧ l.length ≤ maxLen ∧ Pn l.length) := ⟨fun {H c} hw => by
  simp only [WF] at hw
  obtain ⟨v, css, rfl, hel, hlen, hP, hall⟩ := hw
  obtain ⟨l, h1, h2⟩ := h.all2 hall
  have hll := h1.len
  refine ⟨l, ⟨v, rfl, ⟨css, h1, ?_⟩⟩, h2, by omega, by rw [← hll]; exact hP⟩
  have hm : maxLen = 9223372036854775807 := rfl
  refine ⟨by omega, ?_⟩
  rcases hel.2 with ⟨rfl, rfl⟩ | ⟨b, off, lim, k, rfl, rfl, hb, he, hfit, hcells⟩
  · exact .inl ⟨rfl, by rw [← hll]; rfl, rfl⟩
  · obtain ⟨g1, g2, g3⟩ := blk_act hb
    rw [hll] at hfit hcells
    exact .inr ⟨b, off, none, k, by rw [hll], g1, he, hfit, by simp, hcells.symm⟩⟩

/-- An argument that is a slice. -/
theorem In.sliceV {α : Type} {tc : TC} {T : Ty α} {I : α → Prop} (h : In Pn tc T I) {H : Heap} {v : AV} (hw : WFv Pn H (.slice T.e tc) v) : ∃ l, Arr T H v l ∧ (∀ x ∈ l, I x) ∧ l.length ≤ maxLen ∧ Pn l.length := by
  obtain ⟨l, ⟨w, hc, h1⟩, h2⟩ := h.arr.go (H := H) (c := [v]) hw
  obtain rfl : v = w := by simpa using hc
  exact ⟨l, h1, h2⟩
theorem in_intV {H : Heap} {v : AV} (hw : WFv Pn H (.int .i64) v) : ∃ n, v = .int .i64 n ∧ in64 n := by
  obtain ⟨n, hn, h⟩ := In.int.go (Pn := Pn) (H := H) (c := [v]) hw
  exact ⟨n, by simpa [tInt] using hn, h⟩
end Go.RM

/-
  A law's core: from what it returns.
-/
namespace Go.RM

abbrev tru : AV → Heap → Prop := fun v _ => v = .bool true

theorem core_of {F : Nat → Option RFunc} {fl f : Nat} {args : List AV} {H : Heap} (h : Ret F fl f args H tru) : ∃ n H', rcall F n fl f args H = some (.bool true, H') := by
  obtain ⟨n, v, H', h1, rfl⟩ := h
  exact ⟨n, H', h1⟩

theorem wfvs_cons {Pn : Nat → Prop} {H : Heap} {tc : TC} {tcs : List TC} {avs : List AV} (h : WFvs Pn H (tc :: tcs) avs) : ∃ v r, avs = v :: r ∧ WFv Pn H tc v ∧ WFvs Pn H tcs r := by
  cases avs with
  | nil => exact h.elim
  | cons v r => exact ⟨v, r, rfl, h.1, h.2⟩
theorem wfvs_nil {Pn : Nat → Prop} {H : Heap} {avs : List AV} (h : WFvs Pn H [] avs) : avs = [] := by
  cases avs with
  | nil => rfl
  | cons v r => exact h.elim

end Go.RM

/-
  The closed example, and laws of logs.
-/
namespace Go.RM
set_option linter.unusedSimpArgs false
set_option linter.unusedVariables false
namespace Au
variable {F : Nat → Option RFunc}

theorem ex_inc : incR (rootP (exL.map (·.c))) 1 0 0 (newR [] 3 1 9) [] = true ∧ incF (rootP (exL.map (·.c))) 1 0 0 (newR [] 3 1 9) [] = (0, 0) := by decide +kernel
theorem ex_get : exL = [newR [] 3 1 9] := by decide +kernel

abbrev AExC (F : Nat → Option RFunc) (f : Nat) : Prop := ∀ {fl H Q}, fl ≤ H.length → (∀ H', Keep H.length H H' → Q (.bool true) H') → Ret F fl f [] H Q
theorem aex_c {f n1 n2 n3 n4 n5 n6 n7 : Nat} (hF : F f = some (rf_LauditExample n1 n2 n3 n4 n5 n6 n7)) (h1 : AppendC F n1) (h2 : QueryC F n2) (h3 : CheckC F n3) (h4 : ForkC F n4) (h5 : FEqualIntsC F n5) (h6 : InclC F n6) (h7 : LogC F n7) : AExC F f := fun {fl H Q} hfl hq => by
  obtain ⟨f1, f2, f3, f4, f5, f6⟩ := ex_F
  obtain ⟨e1, e2⟩ := ex_len
  obtain ⟨e3, e4⟩ := ex_R
  obtain ⟨i1, i2⟩ := ex_inc
  refine v_LauditExample hF ?_
  refine h1 (l := []) Arr.nil hfl fun r0 H3 k3 a0 => ⟨r0, _, _, rfl, ?_⟩
  intro H5 d5
  have k5 := k3.call d5.keep
  have a0' : Arr tRec H5 r0 exL := (a0.keep d5.keep).arrP tRec_plain
  refine h1 a0' (Nat.le_trans hfl k5.len) fun r6 H9 k9 a6 => ⟨r6, _, _, rfl, ?_⟩
  intro H11 d11
  have k11 := k9.call d11.keep
  have a6' : Arr tRec H11 r6 exM := (a6.keep d11.keep).arrP tRec_plain
  refine h2 a6' (Nat.le_trans hfl (k5.call k11).len) fun r12 H15 k15 a12 => ⟨r12, _, _, rfl, ?_⟩
  intro H17 d17
  have k17 := k15.call d17.keep
  have k511 := k11.call k17
  refine h3 (a0'.keep k511) (Nat.le_trans hfl (k5.call k511).len) fun H21 k21 => ⟨_, _, _, rfl, ?_⟩
  intro H23 d23
  have k23 := k21.call d23.keep
  refine h4 (a0'.keep (k511.call k23)) (a6'.keep (k17.call k23)) (Nat.le_trans hfl (k5.call (k511.call k23)).len) fun H27 k27 => ⟨_, _, _, rfl, ?_⟩
  intro H29 d29
  have k29 := k27.call d29.keep
  have kA := (k511.call k23).call k29
  have kB := (k17.call k23).call k29
  refine ⟨_, (a0'.keep kA).len, _, (a6'.keep kB).len, fun hbad => ?_, fun _ => ?_⟩
  · exfalso
    rw [f1, f2, f3, f4, f5, e1, e2, e4] at hbad
    revert hbad; decide
  · intro b32 H33 n33
    have har : Ints H33 (.slice b32 0 1 (some 1)) [1] := n33.ints [1] rfl rfl
    have aq : Ints H33 r12 (qR exM 2 0 5) := (a12.keep (((d17.keep.call k23).call k29).call n33.keep)).arrP tInt_plain
    refine h5 aq har ⟨_, rfl, fun hno => ?_, fun _ => ?_⟩
    · exact absurd (by rw [e3]; rfl) hno
    · have a0'' := (a0'.keep kA).keep n33.keep
      have hl : 0 < exL.length := by rw [e1]; decide
      refine ⟨_, _, _, _, a0''.enc hl, ?_⟩
      have eg : exL[0] = newR [] 3 1 9 := by
        have := ex_get
        simp only [this, List.getElem_cons_zero]
      rw [eg]
      have kall := (k5.call (kA.call n33.keep))
      rw [if_pos f4]
      refine h6 (r := newR [] 3 1 9) (p := []) Arr.nil (Nat.le_trans hfl kall.len) fun H45 k45 => ⟨_, _, _, rfl, ?_⟩
      intro H47 d47
      have k47 := k45.call d47.keep
      rw [i1, i2]
      refine ⟨fun _ => ?_, fun h => absurd ⟨rfl, rfl⟩ h⟩
      refine h7 (((a6'.keep kB).keep n33.keep).keep k47) (Nat.le_trans hfl (kall.call k47).len) fun H50 k50 => ⟨_, _, rfl, ?_⟩
      rw [f6]
      exact hq H50 ((kall.call k47).call k50)

end Au
end Go.RM

/-
  Queries of logs, with no program in sight.
-/
namespace Go.RM
set_option linter.unusedSimpArgs false
set_option linter.unusedVariables false
namespace Au

/-- The records of users below u in a range of times. -/
def below (u f t : Int) (l : List Rec) : Nat := (l.filter fun r => decide (f ≤ r.t) && decide (r.t ≤ t) && decide (r.u < u)).length

end Au
end Go.RM

/-
  Tampering and queries.
-/
namespace Go.RM
set_option linter.unusedSimpArgs false
set_option linter.unusedVariables false
namespace Au
variable {F : Nat → Option RFunc}

abbrev recC (x : Rec) : List AV := [i64 x.t, i64 x.u, i64 x.a, i64 x.c]
abbrev ORec (n : Nat) (H : Heap) (v : AV) (l : List Rec) : Prop := Own n H 4 v l.length (l.map recC).flatten
theorem all_recs {H : Heap} : ∀ l : List Rec, All2 (tRec.rel H) (l.map recC) l
  | [] => trivial
  | _ :: l => ⟨rfl, all_recs l⟩
theorem orec_arr {n : Nat} {H : Heap} {v : AV} {l : List Rec} (h : ORec n H v l) : Arr tRec H v l := ⟨l.map recC, all_recs l, h.sl⟩
theorem arr_recs {H : Heap} {v : AV} {l : List Rec} (h : Arr tRec H v l) : Sl H 4 v l.length (l.map recC).flatten := by
  obtain ⟨css, h1, h2⟩ := h
  have : css = l.map recC := by
    clear h2
    induction l generalizing css with
    | nil => cases css with
      | nil => rfl
      | cons _ _ => exact h1.elim
    | cons x l ih => cases css with
      | nil => exact h1.elim
      | cons c css => rw [List.map_cons, ← ih css h1.2, show c = recC x from h1.1]
  rw [← this]; exact h2

theorem orec_put {n fl : Nat} {H : Heap} {v : AV} {l : List Rec} (h : ORec n H v l) (hfl : fl ≤ n) {i : Nat} (hi : i < l.length) (o : Nat) (ho : o < 4) (x : Int) (y : Rec) (hy : splice (recC l[i]) o [i64 x] = recC y) :
    ∃ b p, ptrA 4 v (i : Int) = some (b, p) ∧ ∃ H', putA fl H b (p + o) 1 (i64 x) = some H' ∧ ORec n H' v (l.set i y) ∧ KeepX b H H' ∧ n ≤ b := by
  obtain ⟨b, p, h1, h2, h3, _, h5⟩ := Own.elemR h (fun c hc => by obtain ⟨r, _, rfl⟩ := List.mem_map.1 hc; rfl) (by simp) (i := i) (by simpa using hi)
  obtain ⟨H', a1, a2, a3⟩ := h5 fl o 1 (i64 x) hfl rfl (by omega) rfl
  refine ⟨b, p, h1, H', a1, ?_, a3, h3⟩
  unfold ORec
  rw [List.length_set, List.map_set]
  have e : (l.map recC)[i]'(by simpa using hi) = recC l[i] := by simp
  rw [e] at a2
  have hy' : splice (recC l[i]) o (AV.cells (i64 x)) = recC y := hy
  rw [hy'] at a2
  exact a2

theorem lTamper_c {f n1 n2 n3 n4 n5 : Nat} (hF : F f = some (rf_LAuditTamperingIsDetected n1 n2 n3 n4 n5)) (h1 : AExC F n1) (h2 : LogC F n2) (h3 : InRC F n3) (h4 : ChainC F n4) (h5 : LogC F n5)
    {fl : Nat} {H : Heap} {v : AV} {l : List Rec} {i : Int} {r : Rec} (hv : Arr tRec H v l) (hfl : fl ≤ H.length) : Ret F fl f [v, i64 i, recV r] H tru := by
  refine v_LAuditTamperingIsDetected hF _ _ _ _ _ _ ?_
  intro H6 d6
  refine h1 (Nat.le_trans hfl d6.keep.len) fun H8 k8 => ⟨_, rfl, fun h => absurd rfl h, fun _ => ?_⟩
  have k8' := d6.keep.call k8
  refine ⟨fun H' => Keep H.length H H' ∧ logF l = (0, 0) ∧ ∃ j : Nat, i = j ∧ j < l.length, ?_, ?_⟩
  · refine h2 (hv.keep k8') (Nat.le_trans hfl k8'.len) fun H16 k16 => ⟨_, _, rfl, _, hv.len, fun _ => rfl, fun hok => ?_⟩
    have hlog : logF l = (0, 0) := logF_code (by omega)
    have k16' := k8'.call k16
    obtain ⟨j, rfl⟩ := Int.eq_ofNat_of_zero_le (show 0 ≤ i by omega)
    have hj : j < l.length := by omega
    have hR : Keep H.length H H16 ∧ logF l = (0, 0) ∧ ∃ k : Nat, (j : Int) = k ∧ k < l.length := ⟨k16', hlog, j, rfl, hj⟩
    exact ⟨_, (hv.keep k16').cell hj (o := 0) rfl, fun _ => ⟨_, (hv.keep k16').cell hj (o := 1) rfl, fun _ => ⟨_, (hv.keep k16').cell hj (o := 2) rfl, fun _ => rfl, fun _ => hR⟩, fun _ => hR⟩, fun _ => hR⟩
  · rintro H13 ⟨k13, hlog, j, rfl, hj⟩
    obtain ⟨g1, g2⟩ := logF_ok hlog
    have hin := logF_in hlog
    have hv13 := hv.keep k13
    refine ⟨fun b => b = (befR l j).c, ⟨fun hpos => ?_, fun h0 => ?_⟩, ?_⟩
    · have hb : (befR l j).c = (l[j - 1]'(by omega)).c := by
        obtain ⟨k, rfl⟩ : ∃ k, j = k + 1 := ⟨j - 1, by omega⟩
        rw [befR_succ (by omega)]; rfl
      have e : IntKind.wrap .i64 ((j : Int) - 1) = ((j - 1 : Nat) : Int) := wpred (by omega) (by omega)
      rw [e]
      exact ⟨_, hv13.cell (i := j - 1) (by omega) (o := 3) rfl, hb.symm⟩
    · have : j = 0 := by omega
      subst this; rfl
    · rintro _ rfl
      have fl13 : fl ≤ H13.length := Nat.le_trans hfl k13.len
      obtain ⟨a30, H31, p1, p2, p3, _⟩ := own_copyS (bytes := 32) (fl := fl) (free := true) (arr_recs hv13) (by
        rw [List.all_eq_true]
        intro c hc
        obtain ⟨x, hx, hc⟩ := List.mem_flatten.1 hc
        obtain ⟨r, _, rfl⟩ := List.mem_map.1 hx
        simp only [recC, List.mem_cons, List.not_mem_nil, or_false] at hc
        rcases hc with rfl | rfl | rfl | rfl <;> rfl) (by omega) (by decide)
      have o0 : ORec H13.length H31 a30 l := p2
      refine ⟨a30, H31, p1, ?_⟩
      obtain ⟨b1, q1, e1, H34, w1, o1, x1, l1⟩ := orec_put o0 fl13 hj 0 (by decide) r.t ⟨r.t, l[j].u, l[j].a, l[j].c⟩ rfl
      refine ⟨b1, q1, e1, H34, w1, ?_⟩
      have hj1 : j < (l.set j ⟨r.t, l[j].u, l[j].a, l[j].c⟩).length := by simpa using hj
      obtain ⟨b2, q2, e2, H37, w2, o2, x2, l2⟩ := orec_put o1 fl13 hj1 1 (by decide) r.u ⟨r.t, r.u, l[j].a, l[j].c⟩ (by rw [List.getElem_set_self]; rfl)
      refine ⟨b2, q2, e2, H37, w2, ?_⟩
      rw [List.set_set] at o2
      have hj2 : j < (l.set j ⟨r.t, r.u, l[j].a, l[j].c⟩).length := by simpa using hj
      obtain ⟨b3, q3, e3, H40, w3, o3, x3, l3⟩ := orec_put o2 fl13 hj2 2 (by decide) r.a ⟨r.t, r.u, r.a, l[j].c⟩ (by rw [List.getElem_set_self]; rfl)
      refine ⟨b3, q3, e3, H40, w3, ?_⟩
      rw [List.set_set] at o3
      have hn31 : H13.length ≤ H31.length := p3.len
      have hn34 : H13.length ≤ H34.length := by rw [x1.len]; exact hn31
      have hn37 : H13.length ≤ H37.length := by rw [x2.len]; exact hn34
      have k40 : Keep H13.length H13 H40 := ((p3.tr (x1.keep l1 hn31)).tr (x2.keep l2 hn34)).tr (x3.keep l3 hn37)
      have ar := orec_arr o3
      have hj3 : j < (l.set j ⟨r.t, r.u, r.a, l[j].c⟩).length := by simpa using hj
      have en := ar.enc hj3
      rw [List.getElem_set_self] at en
      refine ⟨_, _, _, _, en, ?_⟩
      have fl40 : fl ≤ H40.length := Nat.le_trans fl13 k40.len
      refine h3 fun H47 k47 => ⟨_, rfl, fun hyes => ?_, fun hno => ?_⟩
      · have en47 := (ar.keep k47).enc hj3
        rw [List.getElem_set_self] at en47
        refine ⟨_, _, _, _, en47, ?_⟩
        obtain ⟨y1, y2, y3, y4, y5, y6, _⟩ := inR_iff.1 hyes
        refine h4 (r := ⟨r.t, r.u, r.a, l[j].c⟩) (Nat.le_refl _) (befR_dig hin j) ⟨y1, y2, y3, y4, y5, y6⟩ fun H55 k55 => ⟨_, rfl, ?_⟩
        have k55' := k40.call (k47.call k55)
        refine ⟨_, (hv13.keep k55').cell hj (o := 3) rfl, fun _ => rfl, fun hne => ?_⟩
        obtain ⟨t1, t2⟩ := tamper hlog hj (t := r.t) (u := r.u) (a := r.a) (fun h => hne h.2)
        refine h5 (ar.keep (k47.call k55)) (Nat.le_trans fl13 k55'.len) fun H61 k61 => ⟨_, _, rfl, ?_⟩
        intro H63 d63
        rw [t2]
        show AV.bool _ = AV.bool true
        simp [t1]
      · obtain ⟨t1, t2⟩ := tamper hlog hj (t := r.t) (u := r.u) (a := r.a) (fun h => hno h.1)
        refine h5 (ar.keep k47) (Nat.le_trans fl40 k47.len) fun H66 k66 => ⟨_, _, rfl, ?_⟩
        intro H68 d68
        rw [t2]
        show AV.bool _ = AV.bool true
        simp [t1]

end Au
end Go.RM

/-
  Proofs match the specification.
-/
namespace Go.RM
set_option linter.unusedSimpArgs false
set_option linter.unusedVariables false
namespace Au
variable {F : Nat → Option RFunc}

end Au
end Go.RM

/-
  Functions match the specification.
-/
namespace Go.RM
set_option linter.unusedSimpArgs false
set_option linter.unusedVariables false
namespace Au
variable {F : Nat → Option RFunc}

end Au
end Go.RM

/-
  The end of a law's run.
-/
namespace Go.RM
end Go.RM

