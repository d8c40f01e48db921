/-
  Operations that cannot harm are run whether they are wanted or not: a pass over the abstract machine's code, and that it keeps what the code computes.
-/
import Derived.Test.YtmiinaimpdbenaaRmOpt3
import Derived.Test.YtmiinaimpdbenaaRmWp
namespace Go.RM
set_option linter.unusedSimpArgs false
set_option linter.unusedVariables false

abbrev Gd := Option (Nat × Bool)

def gEq : Gd → Gd → Bool
  | none, none => true
  | some (i, b), some (j, c) => i == j && b == c
  | _, _ => false

theorem gEq_eq {a b : Gd} (h : gEq a b = true) : a = b := by
  cases a <;> cases b <;> simp_all [gEq]
  rename_i x y
  exact Prod.ext h.1 h.2

/-- Where g is met, so is g'. -/
def implG (gs : List Gd) : Nat → Gd → Gd → Bool
  | _, _, none => true
  | 0, g, g' => gEq g g'
  | n + 1, g, g' => gEq g g' || (match g with | some (k, _) => implG gs n (gs.getD k none) g' | none => false)

def locOk (gs : List Gd) (g : Gd) : RX → Bool
  | .loc j => decide (j < gs.length) && implG gs gs.length g (gs.getD j none)
  | _ => true

def locOkP (gs : List Gd) (g : Gd) (c : RX) (b : Bool) : RX → Bool
  | .loc j => decide (j < gs.length) && (implG gs gs.length g (gs.getD j none) || (match c with | .loc k => gEq (gs.getD j none) (some (k, b)) | _ => false))
  | _ => true

def opOk (gs : List Gd) (g : Gd) : ROp → Bool
  | .pick c a b => locOk gs g c && locOkP gs g c true a && locOkP gs g c false b
  | r => r.rxs.all (locOk gs g)

def tame : ROp → Bool
  | .move _ => true
  | .pick .. => true
  | .bin op .. => (match op with | .quo => false | .rem => false | .shl => false | .shr => false | _ => true)
  | .un .. => true
  | .field .. => true
  | .convInt .. => true
  | .len _ => true
  | .lenStr _ => true
  | .build .. => true
  | .extract .. => true
  | .min .. => true
  | .max .. => true
  | _ => false

def chooseU (gs : List Gd) (ch : List Bool) (o : ROper) : Bool :=
  o.guard.isSome && o.dst.isNone && tame o.op && (o.op.rxs.all fun | .loc j => (gs.getD j none).isNone || ch.getD j false | _ => true)

def checkU (gs : List Gd) (ch : List Bool) (o : ROper) (w : Bool) : Bool :=
  opOk gs o.guard o.op && (match o.guard with | some (k, _) => decide (k < gs.length) && (w || (gs.getD k none).isNone || !ch.getD k false) | none => true) && (!w || (o.dst.isNone && pureR o.op))

def ugOps : List ROper → List Gd → List Bool → Option (List ROper)
  | [], _, _ => some []
  | o :: l, gs, ch =>
    let w := chooseU gs ch o
    if checkU gs ch o w then (ugOps l (gs ++ [o.guard]) (ch ++ [w])).map ((if w then { o with guard := none } else o) :: ·) else none

def ugCode : RCode → RCode
  | .ops l => (match ugOps l [] [] with | some l' => .ops l' | none => .ops l)
  | .seq a b => .seq (ugCode a) (ugCode b)
  | .cond x a b => .cond x (ugCode a) (ugCode b)
  | .block id c => .block id (ugCode c)
  | .loop c => .loop (ugCode c)
  | c => c

def ugFunc (f : RFunc) : RFunc := { f with body := ugCode f.body }

/-- The table of the functions, with both passes done. -/
def tableU (P : Program) (f : Nat) : Option RFunc := (tableO P f).map ugFunc

structure UL (gs : List Gd) (ch : List Bool) (LA LB : List AV) : Prop where
  lg : gs.length = LA.length
  lc : ch.length = LA.length
  ll : LB.length = LA.length
  kept : ∀ j, j < LA.length → ch.getD j false = false → LA[j]? = LB[j]?
  same : ∀ j, j < LA.length → wantedB (gs.getD j none) LA = true → LA[j]? = LB[j]?
  skip : ∀ j, j < LA.length → wantedB (gs.getD j none) LA = false → LA[j]? = some .undef
  back : ∀ j k b, j < LA.length → gs.getD j none = some (k, b) → k < j

theorem wanted_some {k : Nat} {b : Bool} {L : List AV} (h : wantedB (some (k, b)) L = true) : L[k]? = some (.bool b) := by
  simp only [wantedB] at h
  split at h
  · rename_i b' hb; simp only [beq_iff_eq] at h; subst h; exact hb
  · simp at h

theorem impl_wanted {gs : List Gd} {ch : List Bool} {LA LB : List AV} (U : UL gs ch LA LB) : ∀ (n : Nat) {g g' : Gd}, implG gs n g g' = true → wantedB g LA = true → wantedB g' LA = true
  | _, _, none, _, _ => rfl
  | 0, g, some g', h, hw => by simp only [implG] at h; rw [← gEq_eq h]; exact hw
  | n + 1, g, some g', h, hw => by
    simp only [implG, Bool.or_eq_true] at h
    rcases h with h | h
    · rw [← gEq_eq h]; exact hw
    · cases g with
      | none => simp at h
      | some p =>
        obtain ⟨k, b⟩ := p
        simp only at h
        have hk := wanted_some hw
        have hkl : k < LA.length := by
          rcases Nat.lt_or_ge k LA.length with h' | h'
          · exact h'
          · rw [List.getElem?_eq_none h'] at hk; simp at hk
        refine impl_wanted U n h ?_
        cases hq : wantedB (gs.getD k none) LA with
        | true => rfl
        | false => have := U.skip k hkl hq; rw [hk] at this; simp [AV.undef] at this

theorem locOk_eq {gs : List Gd} {ch : List Bool} {LA LB E : List AV} (U : UL gs ch LA LB) {g : Gd} (hw : wantedB g LA = true) {rx : RX} (h : locOk gs g rx = true) : RX.ev LA E rx = RX.ev LB E rx := by
  cases rx with
  | var y => rfl
  | k v => rfl
  | loc j =>
    simp only [locOk, Bool.and_eq_true, decide_eq_true_eq] at h
    have := U.same j (by rw [← U.lg]; exact h.1) (impl_wanted U _ h.2 hw)
    simp only [RX.ev, List.getD_eq_getElem?_getD, this]

theorem locOkP_eq {gs : List Gd} {ch : List Bool} {LA LB E : List AV} (U : UL gs ch LA LB) {g : Gd} (hw : wantedB g LA = true) {c : RX} {b : Bool} (hc : RX.ev LA E c = .bool b) {rx : RX} (h : locOkP gs g c b rx = true) : RX.ev LA E rx = RX.ev LB E rx := by
  cases rx with
  | var y => rfl
  | k v => rfl
  | loc j =>
    simp only [locOkP, Bool.and_eq_true, Bool.or_eq_true, decide_eq_true_eq] at h
    have hj : j < LA.length := by rw [← U.lg]; exact h.1
    have hs : wantedB (gs.getD j none) LA = true := by
      rcases h.2 with h2 | h2
      · exact impl_wanted U _ h2 hw
      · cases c with
        | loc k =>
          simp only at h2
          rw [gEq_eq h2]
          simp only [RX.ev, List.getD_eq_getElem?_getD] at hc
          cases hk : LA[k]? with
          | none => rw [hk] at hc; simp [AV.undef] at hc
          | some v => rw [hk] at hc; simp only [Option.getD_some] at hc; subst hc; simp [wantedB, hk]
        | var _ => simp at h2
        | k _ => simp at h2
    have := U.same j hj hs
    simp only [RX.ev, List.getD_eq_getElem?_getD, this]

theorem rop_same {gs : List Gd} {ch : List Bool} {LA LB E : List AV} (U : UL gs ch LA LB) {g : Gd} (hw : wantedB g LA = true) {call : Nat → Nat → List AV → Heap → Option (AV × Heap)} {fl : Nat} {free : Bool} {H : Heap} {r : ROp} (h : opOk gs g r = true) :
    rop call fl free (RX.ev LA E) H r = rop call fl free (RX.ev LB E) H r := by
  have gen : r.rxs.all (locOk gs g) = true → rop call fl free (RX.ev LA E) H r = rop call fl free (RX.ev LB E) H r := fun h => rop_congr fun rx hrx => locOk_eq U hw (List.all_eq_true.1 h rx hrx)
  cases r <;> simp only [opOk] at h <;> try exact gen h
  rename_i c a b
  simp only [Bool.and_eq_true] at h
  obtain ⟨⟨h1, h2⟩, h3⟩ := h
  have hc := locOk_eq (E := E) U hw h1
  simp only [rop]
  rw [← hc]
  cases hv : RX.ev LA E c <;> try rfl
  rename_i t
  cases t with
  | true => simp only [pickV_true]; rw [locOkP_eq U hw hv h2]
  | false => simp only [pickV_false]; rw [locOkP_eq U hw hv h3]

theorem wanted_app {g : Gd} {L : List AV} {v : AV} (h : ∀ k b, g = some (k, b) → k < L.length) : wantedB g (L ++ [v]) = wantedB g L := by
  cases g with
  | none => rfl
  | some p =>
    obtain ⟨k, b⟩ := p
    simp only [wantedB, snoc_lt v (h k b rfl)]

theorem UL.next {gs : List Gd} {ch : List Bool} {LA LB : List AV} (U : UL gs ch LA LB) {g : Gd} (hg : ∀ k b, g = some (k, b) → k < LA.length) {w : Bool} {vA vB : AV} (h1 : w = false → vA = vB) (h2 : wantedB g LA = true → vA = vB) (h3 : wantedB g LA = false → vA = .undef) :
    UL (gs ++ [g]) (ch ++ [w]) (LA ++ [vA]) (LB ++ [vB]) := by
  have hgs : ∀ j, j < LA.length → (gs ++ [g]).getD j none = gs.getD j none := fun j hj => by simp only [List.getD_eq_getElem?_getD, snoc_lt g (show j < gs.length by rw [U.lg]; exact hj)]
  have hgl : (gs ++ [g]).getD LA.length none = g := by rw [← U.lg, List.getD_eq_getElem?_getD, snoc_end]; rfl
  have hch : ∀ j, j < LA.length → (ch ++ [w]).getD j false = ch.getD j false := fun j hj => by simp only [List.getD_eq_getElem?_getD, snoc_lt w (show j < ch.length by rw [U.lc]; exact hj)]
  have hcl : (ch ++ [w]).getD LA.length false = w := by rw [← U.lc, List.getD_eq_getElem?_getD, snoc_end]; rfl
  have hwj : ∀ j, j < LA.length → wantedB (gs.getD j none) (LA ++ [vA]) = wantedB (gs.getD j none) LA := fun j hj => wanted_app fun k b e => by have := U.back j k b hj e; omega
  have hwg : wantedB g (LA ++ [vA]) = wantedB g LA := wanted_app hg
  have hA : ∀ j, j < LA.length → (LA ++ [vA])[j]? = LA[j]? ∧ (LB ++ [vB])[j]? = LB[j]? := fun j hj => ⟨snoc_lt vA hj, snoc_lt vB (by rw [U.ll]; exact hj)⟩
  have hAl : (LA ++ [vA])[LA.length]? = some vA ∧ (LB ++ [vB])[LA.length]? = some vB := ⟨snoc_end _ _, by rw [← U.ll]; exact snoc_end _ _⟩
  have split : ∀ {j}, j < (LA ++ [vA]).length → j < LA.length ∨ j = LA.length := fun h => by simp at h; omega
  refine ⟨by simp [U.lg], by simp [U.lc], by simp [U.ll], fun j hj hc => ?_, fun j hj hc => ?_, fun j hj hc => ?_, fun j k b hj hc => ?_⟩
  · rcases split hj with h | rfl
    · rw [(hA j h).1, (hA j h).2]; rw [hch j h] at hc; exact U.kept j h hc
    · rw [hcl] at hc; rw [hAl.1, hAl.2, h1 hc]
  · rcases split hj with h | rfl
    · rw [hgs j h, hwj j h] at hc
      rw [(hA j h).1, (hA j h).2]; exact U.same j h hc
    · rw [hgl, hwg] at hc; rw [hAl.1, hAl.2, h2 hc]
  · rcases split hj with h | rfl
    · rw [hgs j h, hwj j h] at hc
      rw [(hA j h).1]; exact U.skip j h hc
    · rw [hgl, hwg] at hc; rw [hAl.1, h3 hc]
  · rcases split hj with h | rfl
    · rw [hgs j h] at hc; exact U.back j k b h hc
    · rw [hgl] at hc; exact hg k b hc

def CallSub (callB callA : Nat → Nat → List AV → Heap → Option (AV × Heap)) : Prop := ∀ fl g args H r, callB fl g args H = some r → callA fl g args H = some r

theorem rop_sub {callB callA : Nat → Nat → List AV → Heap → Option (AV × Heap)} (h : CallSub callB callA) {fl : Nat} {free : Bool} {X : RX → AV} {H : Heap} {r : ROp} {x : AV × Heap} (hr : rop callB fl free X H r = some x) : rop callA fl free X H r = some x := by
  cases r with
  | call f args =>
    simp only [rop] at hr ⊢
    split at hr
    · exact h _ _ _ _ _ hr
    · simp at hr
  | callS f args => exact h _ _ _ _ _ hr
  | _ => exact hr

theorem ug_rops {callB callA : Nat → Nat → List AV → Heap → Option (AV × Heap)} (hcall : CallSub callB callA) {fl : Nat} {E : List AV} : ∀ {l l' : List ROper} {gs : List Gd} {ch : List Bool} {LA LB LB' : List AV} {H H' : Heap}, ugOps l gs ch = some l' → UL gs ch LA LB →
    rops callB fl E l' LB H = some (LB', H') → ∃ LA', rops callA fl E l LA H = some (LA', H') ∧ LA'.take LA.length = LA ∧ LB'.take LB.length = LB ∧ LA.length ≤ LA'.length ∧ ∀ E0, putAll l (LA'.drop LA.length) E0 = putAll l' (LB'.drop LB.length) E0
  | [], l', gs, ch, LA, LB, LB', H, H', hu, U, hr => by
    simp only [ugOps, Option.some.injEq] at hu; subst hu
    simp only [rops, Option.some.injEq, Prod.mk.injEq] at hr
    obtain ⟨rfl, rfl⟩ := hr
    exact ⟨LA, rfl, by simp, by simp, Nat.le_refl _, fun E0 => by simp [putAll]⟩
  | o :: l, l', gs, ch, LA, LB, LB', H, H', hu, U, hr => by
    simp only [ugOps] at hu
    split at hu
    · rename_i hck
      simp only [Option.map_eq_some_iff] at hu
      obtain ⟨l1, h2, rfl⟩ := hu
      simp only [checkU, Bool.and_eq_true] at hck
      obtain ⟨⟨hop, hgd⟩, hpu⟩ := hck
      generalize hw : chooseU gs ch o = w at *
      have hg : ∀ k b, o.guard = some (k, b) → k < LA.length := fun k b e => by
        rw [e] at hgd
        simp only [Bool.and_eq_true, decide_eq_true_eq] at hgd
        rw [← U.lg]; exact hgd.1
      have key : ∀ (vA vB : AV) (H1 : Heap), UL (gs ++ [o.guard]) (ch ++ [w]) (LA ++ [vA]) (LB ++ [vB]) → rops callB fl E l1 (LB ++ [vB]) H1 = some (LB', H') → (∀ E0, putDst o.dst vA E0 = putDst o.dst vB E0) →
          ∃ LA', rops callA fl E l (LA ++ [vA]) H1 = some (LA', H') ∧ LA'.take LA.length = LA ∧ LB'.take LB.length = LB ∧ LA.length ≤ LA'.length ∧ ∀ E0, putAll (o :: l) (LA'.drop LA.length) E0 = putAll ((if w = true then { o with guard := none } else o) :: l1) (LB'.drop LB.length) E0 := fun vA vB H1 U1 hr1 hd => by
        obtain ⟨LA', r1, r2, r3, r4, r5⟩ := ug_rops hcall h2 U1 hr1
        have hdr : ∀ {L L' : List AV} {u : AV}, L'.take (L ++ [u]).length = L ++ [u] → L'.drop L.length = u :: L'.drop (L ++ [u]).length ∧ L'.take L.length = L := fun {L L' u} ht => by
          constructor
          · conv => lhs; rw [← List.take_append_drop (L ++ [u]).length L', ht]
            rw [List.append_assoc, List.drop_append_of_le_length (Nat.le_refl _)]
            simp
          · have := congrArg (List.take L.length) ht
            rw [List.take_take] at this
            simpa using this
        obtain ⟨a1, a2⟩ := hdr r2
        obtain ⟨b1, b2⟩ := hdr r3
        refine ⟨LA', r1, a2, b2, by simp at r4; omega, fun E0 => ?_⟩
        rw [a1, b1]
        have hdst : (if w = true then { o with guard := none } else o).dst = o.dst := by split <;> rfl
        simp only [putAll, hdst, hd]
        exact r5 _
      -- what the changed list does at its head
      cases hwv : w with
      | false =>
        rw [hwv] at hr key hgd
        simp only [Bool.false_eq_true, if_false] at hr key
        have hsame : wantedB o.guard LA = wantedB o.guard LB := by
          cases hgo : o.guard with
          | none => rfl
          | some p =>
            obtain ⟨k, b⟩ := p
            rw [hgo] at hgd
            simp only [Bool.false_or, Bool.and_eq_true, Bool.or_eq_true, decide_eq_true_eq, Option.isNone_iff_eq_none, Bool.not_eq_true'] at hgd
            have hk : k < LA.length := by rw [← U.lg]; exact hgd.1
            have : LA[k]? = LB[k]? := by
              rcases hgd.2 with h | h
              · exact U.same k hk (by rw [h]; rfl)
              · exact U.kept k hk h
            simp only [wantedB, this]
        simp only [rops] at hr ⊢
        rw [hsame]
        split at hr
        · rename_i hwB
          split at hr
          · rename_i v H1 hv
            have hwA : wantedB o.guard LA = true := by rw [hsame]; exact hwB
            have hvA := rop_sub hcall hv
            rw [← rop_same U hwA hop] at hvA
            obtain ⟨LA', r1, r2⟩ := key v v H1 (by exact U.next hg (fun _ => rfl) (fun _ => rfl) (fun h => by rw [hwA] at h; simp at h)) hr (fun _ => rfl)
            exact ⟨LA', by rw [if_pos hwB, hvA]; exact r1, r2⟩
          · simp at hr
        · rename_i hwB
          have hwA : wantedB o.guard LA = false := by rw [hsame]; simpa using hwB
          obtain ⟨LA', r1, r2⟩ := key .undef .undef H (by exact U.next hg (fun _ => rfl) (fun _ => rfl) (fun _ => rfl)) hr (fun _ => rfl)
          exact ⟨LA', by rw [if_neg hwB]; exact r1, r2⟩
      | true =>
        rw [hwv] at hr key hpu
        simp only [if_true, Bool.not_true, Bool.false_or, Bool.and_eq_true, Option.isNone_iff_eq_none] at hr key hpu
        have hd : ∀ vA vB E0, putDst o.dst vA E0 = putDst o.dst vB E0 := fun vA vB E0 => by rw [hpu.1]; rfl
        simp only [rops, wantedB, if_true] at hr
        split at hr
        · rename_i v H1 hv
          have hH := (rop_pure hpu.2 hv).1
          subst hH
          simp only [rops]
          cases hwA : wantedB o.guard LA with
          | true =>
            have hvA := rop_sub hcall hv
            rw [← rop_same U hwA hop] at hvA
            obtain ⟨LA', r1, r2⟩ := key v v H1 (by exact U.next hg (fun _ => rfl) (fun _ => rfl) (fun h => by rw [hwA] at h; simp at h)) hr (fun _ => rfl)
            exact ⟨LA', by rw [if_pos rfl, hvA]; exact r1, r2⟩
          | false =>
            obtain ⟨LA', r1, r2⟩ := key .undef v H1 (by exact U.next hg (fun h => by simp at h) (fun h => by rw [hwA] at h; simp at h) (fun _ => rfl)) hr (hd _ _)
            exact ⟨LA', by rw [if_neg (by simp)]; exact r1, r2⟩
        · simp at hr
    · simp at hu

def ExecSub (TB TA : Nat → Option RFunc) (n : Nat) : Prop := ∀ fl c E H r, rexec TB n fl (ugCode c) E H = some r → rexec TA n fl c E H = some r

theorem UL.nil : UL [] [] [] [] := ⟨rfl, rfl, rfl, fun j h => by simp at h, fun j h => by simp at h, fun j h => by simp at h, fun j k b h => by simp at h⟩

theorem ug_all {TA : Nat → Option RFunc} : ∀ n, ExecSub (fun f => (TA f).map ugFunc) TA n ∧ CallSub (rcall (fun f => (TA f).map ugFunc) n) (rcall TA n)
  | 0 => ⟨fun fl c E H r h => by simp [rexec] at h, fun fl g args H r h => by simp [rcall] at h⟩
  | n + 1 => by
    obtain ⟨h1, h2⟩ := ug_all (TA := TA) n
    constructor
    · intro fl c E H r h
      cases c <;> simp only [ugCode] at h
      case ops l =>
        split at h
        · rename_i l' hu
          rw [rexec] at h ⊢
          simp only [Option.map_eq_some_iff] at h ⊢
          obtain ⟨⟨LB, H1⟩, hr, rfl⟩ := h
          obtain ⟨LA', r1, _, _, _, r5⟩ := ug_rops h2 hu UL.nil hr
          have := r5 E
          simp only [List.length_nil, List.drop_zero] at this
          exact ⟨(LA', H1), r1, by simp [this]⟩
        · rw [rexec] at h ⊢
          simp only [Option.map_eq_some_iff] at h ⊢
          obtain ⟨x, hr, rfl⟩ := h
          exact ⟨x, rops_grow h2 hr, rfl⟩
      case seq a b =>
        rw [rexec] at h ⊢
        cases hh : rexec (fun f => (TA f).map ugFunc) n fl (ugCode a) E H with
        | none => rw [hh] at h; simp at h
        | some r1 =>
          rw [hh] at h; rw [h1 _ _ _ _ _ hh]
          obtain ⟨o, E1, H1⟩ := r1
          cases o <;> simp only at h ⊢ <;> first | exact h1 _ _ _ _ _ h | exact h
      case cond x a b =>
        rw [rexec] at h ⊢
        cases hx : x.ev [] E <;> simp only [hx] at h ⊢ <;> try (simp at h; done)
        rename_i bb
        cases bb <;> exact h1 _ _ _ _ _ h
      case block id a =>
        rw [rexec] at h ⊢
        cases hh : rexec (fun f => (TA f).map ugFunc) n fl (ugCode a) E H with
        | none => rw [hh] at h; simp at h
        | some r1 =>
          rw [hh] at h; rw [h1 _ _ _ _ _ hh]; exact h
      case loop a =>
        rw [rexec] at h ⊢
        cases hh : rexec (fun f => (TA f).map ugFunc) n fl (ugCode a) E H with
        | none => rw [hh] at h; simp at h
        | some r1 =>
          rw [hh] at h; rw [h1 _ _ _ _ _ hh]
          obtain ⟨o, E1, H1⟩ := r1
          cases o <;> simp only at h ⊢
          · exact h1 fl (.loop a) _ _ _ (by simpa only [ugCode] using h)
          · exact h
          · exact h
      all_goals (rw [rexec] at h ⊢; exact h)
    · intro fl g args H r h
      rw [rcall] at h ⊢
      cases hf : TA g with
      | none => simp [hf] at h
      | some rf =>
        simp only [hf, Option.map_some, ugFunc] at h ⊢
        split at h
        · rename_i hl
          rw [if_pos hl]
          cases hh : rexec (fun f => (TA f).map ugFunc) n fl (ugCode rf.body) (args ++ List.replicate (rf.nvars - rf.nargs) .undef) H with
          | none => rw [hh] at h; simp at h
          | some r1 => rw [hh] at h; rw [h1 _ _ _ _ _ hh]; exact h
        · simp at h

theorem ung_sound {P : Program} {n fl f : Nat} {args : List AV} {H : Heap} {v : AV} {H' : Heap} (hfl : fl ≤ H.length) (h : rcall (tableU P) n fl f args H = some (v, H')) : ∃ HA', rcall (table P) n fl f args H = some (v, HA') :=
  opt_sound hfl ((ug_all (TA := tableO P) n).2 _ _ _ _ _ h)

end Go.RM
