/-
  How to reason about the abstract machine's code: what a call returns, and what code leaves behind.
-/
import Derived.Test.YtmiinaimpdbenaaRmOpt3
namespace Go.RM
set_option linter.unusedSimpArgs false
set_option linter.unusedVariables false

section
variable {F : Nat → Option RFunc}

/-! ### More fuel does no harm -/

theorem rops_grow {call call' : Nat → Nat → List AV → Heap → Option (AV × Heap)} (h : ∀ fl g args H r, call fl g args H = some r → call' fl g args H = some r) {fl : Nat} {E : List AV} : ∀ {l : List ROper} {L : List AV} {H : Heap} {r : List AV × Heap},
    rops call fl E l L H = some r → rops call' fl E l L H = some r
  | [], L, H, r, hr => hr
  | o :: l, L, H, r, hr => by
    simp only [rops] at hr ⊢
    split at hr
    · rename_i hw
      rw [if_pos hw]
      split at hr
      · rename_i v H1 h1
        have : rop call' fl o.free (RX.ev L E) H o.op = some (v, H1) := by
          cases hop : o.op with
          | call f args =>
            rw [hop] at h1
            simp only [rop] at h1 ⊢
            split at h1
            · exact h _ _ _ _ _ h1
            · simp at h1
          | callS f args => rw [hop] at h1; exact h _ _ _ _ _ h1
          | _ => rw [hop] at h1; exact h1
        rw [this]
        exact rops_grow h hr
      · simp at hr
    · rename_i hw
      rw [if_neg hw]
      exact rops_grow h hr

def ExecGrow (F : Nat → Option RFunc) (n : Nat) : Prop := ∀ fl c E H r, rexec F n fl c E H = some r → rexec F (n + 1) fl c E H = some r
def CallGrow (F : Nat → Option RFunc) (n : Nat) : Prop := ∀ fl g args H r, rcall F n fl g args H = some r → rcall F (n + 1) fl g args H = some r

theorem grow_all : ∀ n, ExecGrow F n ∧ CallGrow F n
  | 0 => ⟨fun fl c E H r h => by simp [rexec] at h, fun fl g args H r h => by simp [rcall] at h⟩
  | n + 1 => by
    obtain ⟨h1, h2⟩ := grow_all n
    constructor
    · intro fl c E H r h
      cases c <;> rw [rexec] at h <;> rw [rexec]
      case ops l =>
        simp only [Option.map_eq_some_iff] at h ⊢
        obtain ⟨x, hx, rfl⟩ := h
        exact ⟨x, rops_grow h2 hx, rfl⟩
      case seq a b =>
        cases hh : rexec F n fl a E H with
        | none => rw [hh] at h; simp at h
        | some r1 =>
          rw [hh] at h; rw [h1 _ _ _ _ _ hh]
          obtain ⟨o, E1, H1⟩ := r1
          cases o <;> simp only at h ⊢ <;> first | exact h1 _ _ _ _ _ h | exact h
      case cond x a b =>
        cases hx : x.ev [] E <;> simp only [hx] at h ⊢ <;> try (simp at h; done)
        rename_i bb
        cases bb <;> exact h1 _ _ _ _ _ h
      case block id a =>
        cases hh : rexec F n fl a E H with
        | none => rw [hh] at h; simp at h
        | some r1 =>
          rw [hh] at h; rw [h1 _ _ _ _ _ hh]; exact h
      case loop a =>
        cases hh : rexec F n fl a E H with
        | none => rw [hh] at h; simp at h
        | some r1 =>
          rw [hh] at h; rw [h1 _ _ _ _ _ hh]
          obtain ⟨o, E1, H1⟩ := r1
          cases o <;> simp only at h ⊢ <;> first | exact h1 _ _ _ _ _ h | exact h
      all_goals (first | exact h | simp at h)
    · intro fl g args H r h
      rw [rcall] at h
      rw [rcall]
      cases hf : F g with
      | none => simp [hf] at h
      | some rf =>
        simp only [hf] at h ⊢
        split at h
        · rename_i hl
          rw [if_pos hl]
          cases hh : rexec F n fl rf.body (args ++ List.replicate (rf.nvars - rf.nargs) .undef) H with
          | none => rw [hh] at h; simp at h
          | some r1 => rw [hh] at h; rw [h1 _ _ _ _ _ hh]; exact h
        · simp at h

theorem exec_grow {n m : Nat} (hnm : n ≤ m) {fl : Nat} {c : RCode} {E : List AV} {H : Heap} {r} (h : rexec F n fl c E H = some r) : rexec F m fl c E H = some r := by
  induction m with
  | zero => have : n = 0 := by omega
            subst this; exact h
  | succ m ih =>
    by_cases e : n = m + 1
    · subst e; exact h
    · exact (grow_all m).1 _ _ _ _ _ (ih (by omega))

theorem call_grow {n m : Nat} (hnm : n ≤ m) {fl g : Nat} {args : List AV} {H : Heap} {r} (h : rcall F n fl g args H = some r) : rcall F m fl g args H = some r := by
  induction m with
  | zero => have : n = 0 := by omega
            subst this; exact h
  | succ m ih =>
    by_cases e : n = m + 1
    · subst e; exact h
    · exact (grow_all m).2 _ _ _ _ _ (ih (by omega))

/-! ### What a call returns, what code leaves -/

def Ret (F : Nat → Option RFunc) (fl f : Nat) (args : List AV) (H : Heap) (Q : AV → Heap → Prop) : Prop := ∃ n v H', rcall F n fl f args H = some (v, H') ∧ Q v H'
def Wp (F : Nat → Option RFunc) (fl : Nat) (c : RCode) (E : List AV) (H : Heap) (Q : Out → List AV → Heap → Prop) : Prop := ∃ n o E' H', rexec F n fl c E H = some (o, E', H') ∧ Q o E' H'
def WpR (F : Nat → Option RFunc) (fl : Nat) (E : List AV) (l : List ROper) (L : List AV) (H : Heap) (Q : List AV → Heap → Prop) : Prop := ∃ n L' H', rops (rcall F n) fl E l L H = some (L', H') ∧ Q L' H'

/-- A call in a list, and the operations behind it (data: they are looked at when the call's result is known). -/
def RetO (F : Nat → Option RFunc) (fl : Nat) (free : Bool) (f : Nat) (args : List AV) (H : Heap) (E : List AV) (l : List ROper) (L : List AV) (Q : List AV → Heap → Prop) : Prop :=
  Ret F (if free then fl else H.length) f args H fun v H' => WpR F fl E l (L ++ [v]) H' Q

def noCall : Nat → Nat → List AV → Heap → Option (AV × Heap) := fun _ _ _ _ => none

def isCall : ROp → Bool
  | .call .. => true
  | .callS .. => true
  | _ => false

theorem Ret.mono {fl f : Nat} {args : List AV} {H : Heap} {Q Q' : AV → Heap → Prop} (h : Ret F fl f args H Q) (hq : ∀ v H', Q v H' → Q' v H') : Ret F fl f args H Q' := let ⟨n, v, H', h1, h2⟩ := h; ⟨n, v, H', h1, hq v H' h2⟩
theorem Wp.mono {fl : Nat} {c : RCode} {E : List AV} {H : Heap} {Q Q' : Out → List AV → Heap → Prop} (h : Wp F fl c E H Q) (hq : ∀ o E' H', Q o E' H' → Q' o E' H') : Wp F fl c E H Q' := let ⟨n, o, E', H', h1, h2⟩ := h; ⟨n, o, E', H', h1, hq o E' H' h2⟩

/-- What holds of the call's heap besides holds. -/
theorem Ret.facts {fl f : Nat} {args : List AV} {H : Heap} {Q : AV → Heap → Prop} (h : Ret F fl f args H Q) : Ret F fl f args H fun v H' => Q v H' ∧ Facts fl H H' := let ⟨n, v, H', h1, h2⟩ := h; ⟨n, v, H', h1, h2, rcall_facts F n _ _ _ _ _ _ h1⟩

theorem w_skip {fl : Nat} {E : List AV} {H : Heap} {Q : Out → List AV → Heap → Prop} (h : Q .normal E H) : Wp F fl .skip E H Q := ⟨1, _, _, _, rfl, h⟩
theorem w_ret {fl : Nat} {E : List AV} {H : Heap} {Q : Out → List AV → Heap → Prop} (h : Q .ret E H) : Wp F fl .ret E H Q := ⟨1, _, _, _, rfl, h⟩
theorem w_exit {fl id : Nat} {E : List AV} {H : Heap} {Q : Out → List AV → Heap → Prop} (h : Q (.exit id) E H) : Wp F fl (.exit id) E H Q := ⟨1, _, _, _, rfl, h⟩

def thenQ (F : Nat → Option RFunc) (fl : Nat) (b : RCode) (Q : Out → List AV → Heap → Prop) : Out → List AV → Heap → Prop
  | .normal, E, H => Wp F fl b E H Q
  | o, E, H => Q o E H

theorem w_seq {fl : Nat} {a b : RCode} {E : List AV} {H : Heap} {Q : Out → List AV → Heap → Prop} (h : Wp F fl a E H (thenQ F fl b Q)) : Wp F fl (.seq a b) E H Q := by
  obtain ⟨n, o, E1, H1, h1, h2⟩ := h
  cases o with
  | normal =>
    obtain ⟨m, o, E2, H2, h3, h4⟩ := h2
    refine ⟨max n m + 1, o, E2, H2, ?_, h4⟩
    rw [rexec]
    simp only [exec_grow (Nat.le_max_left n m) h1]
    exact exec_grow (Nat.le_max_right n m) h3
  | exit id => exact ⟨n + 1, _, E1, H1, by rw [rexec]; simp only [h1], h2⟩
  | ret => exact ⟨n + 1, _, E1, H1, by rw [rexec]; simp only [h1], h2⟩

theorem w_cond {fl : Nat} {x : RX} {a b : RCode} {E : List AV} {H : Heap} {Q : Out → List AV → Heap → Prop} {t : Bool} (hx : x.ev [] E = .bool t) (ht : t = true → Wp F fl a E H Q) (hf : t = false → Wp F fl b E H Q) : Wp F fl (.cond x a b) E H Q := by
  cases t with
  | true => obtain ⟨n, o, E1, H1, h1, h2⟩ := ht rfl; exact ⟨n + 1, o, E1, H1, by rw [rexec]; simp only [hx]; exact h1, h2⟩
  | false => obtain ⟨n, o, E1, H1, h1, h2⟩ := hf rfl; exact ⟨n + 1, o, E1, H1, by rw [rexec]; simp only [hx]; exact h1, h2⟩

def blockQ (id : Nat) (Q : Out → List AV → Heap → Prop) : Out → List AV → Heap → Prop
  | .exit id', E, H => if id' = id then Q .normal E H else Q (.exit id') E H
  | o, E, H => Q o E H

theorem w_block {fl id : Nat} {c : RCode} {E : List AV} {H : Heap} {Q : Out → List AV → Heap → Prop} (h : Wp F fl c E H (blockQ id Q)) : Wp F fl (.block id c) E H Q := by
  obtain ⟨n, o, E1, H1, h1, h2⟩ := h
  cases o with
  | exit id' =>
    simp only [blockQ] at h2
    by_cases e : id' = id
    · rw [if_pos e] at h2; exact ⟨n + 1, _, E1, H1, by rw [rexec]; simp only [h1, if_pos e], h2⟩
    · rw [if_neg e] at h2; exact ⟨n + 1, _, E1, H1, by rw [rexec]; simp only [h1, if_neg e], h2⟩
  | normal => exact ⟨n + 1, _, E1, H1, by rw [rexec]; simp only [h1], h2⟩
  | ret => exact ⟨n + 1, _, E1, H1, by rw [rexec]; simp only [h1], h2⟩

def loopQ (I : Nat → List AV → Heap → Prop) (k : Nat) (Q : Out → List AV → Heap → Prop) : Out → List AV → Heap → Prop
  | .normal, E, H => ∃ k', k' < k ∧ I k' E H
  | o, E, H => Q o E H

/-- A loop, by an invariant with a number that falls. -/
theorem w_loop {fl : Nat} {c : RCode} {Q : Out → List AV → Heap → Prop} (I : Nat → List AV → Heap → Prop) (round : ∀ k E H, I k E H → Wp F fl c E H (loopQ I k Q)) : ∀ (k : Nat) {E : List AV} {H : Heap}, I k E H → Wp F fl (.loop c) E H Q := by
  intro k
  induction k using Nat.strongRecOn with
  | _ k ih =>
    intro E H hI
    obtain ⟨n, o, E1, H1, h1, h2⟩ := round k E H hI
    cases o with
    | normal =>
      obtain ⟨k', hk, hI'⟩ := h2
      obtain ⟨m, o, E2, H2, h3, h4⟩ := ih k' hk hI'
      refine ⟨max n m + 1, o, E2, H2, ?_, h4⟩
      rw [rexec]
      simp only [exec_grow (Nat.le_max_left n m) h1]
      exact exec_grow (Nat.le_max_right n m) h3
    | exit id => exact ⟨n + 1, _, E1, H1, by rw [rexec]; simp only [h1], h2⟩
    | ret => exact ⟨n + 1, _, E1, H1, by rw [rexec]; simp only [h1], h2⟩

theorem w_ops {fl : Nat} {l : List ROper} {E : List AV} {H : Heap} {Q : Out → List AV → Heap → Prop} (h : WpR F fl E l [] H fun L H' => Q .normal (putAll l L E) H') : Wp F fl (.ops l) E H Q := by
  obtain ⟨n, L, H', h1, h2⟩ := h
  exact ⟨n + 1, _, _, H', by rw [rexec]; simp only [h1, Option.map_some], h2⟩

theorem wpR_nil {fl : Nat} {E L : List AV} {H : Heap} {Q : List AV → Heap → Prop} : WpR F fl E [] L H Q ↔ Q L H :=
  ⟨fun ⟨_, _, _, h1, h2⟩ => by simp only [rops, Option.some.injEq, Prod.mk.injEq] at h1; obtain ⟨rfl, rfl⟩ := h1; exact h2, fun h => ⟨0, L, H, rfl, h⟩⟩

/-- An operation that is no call. -/
theorem wpR_op {fl : Nat} {E L : List AV} {H H' : Heap} {o : ROper} {l : List ROper} {v : AV} {Q : List AV → Heap → Prop} (hw : wantedB o.guard L = true) (hr : rop noCall fl o.free (RX.ev L E) H o.op = some (v, H')) (h : WpR F fl E l (L ++ [v]) H' Q) : WpR F fl E (o :: l) L H Q := by
  obtain ⟨n, L', H2, h1, h2⟩ := h
  refine ⟨n, L', H2, ?_, h2⟩
  simp only [rops, hw, if_true]
  have : rop (rcall F n) fl o.free (RX.ev L E) H o.op = some (v, H') := by
    cases hop : o.op with
    | call f args =>
      rw [hop] at hr
      simp only [rop] at hr
      split at hr <;> simp [noCall] at hr
    | callS f args => rw [hop] at hr; simp [rop, noCall] at hr
    | _ => rw [hop] at hr; exact hr
  rw [this]; exact h1

theorem wpR_skip {fl : Nat} {E L : List AV} {H : Heap} {o : ROper} {l : List ROper} {Q : List AV → Heap → Prop} (hw : wantedB o.guard L = false) (h : WpR F fl E l (L ++ [.undef]) H Q) : WpR F fl E (o :: l) L H Q := by
  obtain ⟨n, L', H2, h1, h2⟩ := h
  exact ⟨n, L', H2, by simp only [rops, hw, Bool.false_eq_true, if_false]; exact h1, h2⟩

theorem wpR_call {fl : Nat} {E L : List AV} {H : Heap} {free : Bool} {g : Option (Nat × Bool)} {d : Option Nat} {f : Nat} {args : List RX} {l : List ROper} {Q : List AV → Heap → Prop} (hw : wantedB g L = true) (h : RetO F fl free f (args.map (RX.ev L E)) H E l L Q) : WpR F fl E (⟨.callS f args, g, d, free⟩ :: l) L H Q := by
  obtain ⟨n, v, H1, h1, m, L', H2, h2, h3⟩ := h
  refine ⟨max n m, L', H2, ?_, h3⟩
  simp only [rops, hw, if_true, rop, call_grow (Nat.le_max_left n m) h1]
  exact rops_grow (fun _ _ _ _ _ h => call_grow (Nat.le_max_right n m) h) h2

theorem wpR_callV {fl : Nat} {E L : List AV} {H : Heap} {free : Bool} {g : Option (Nat × Bool)} {d : Option Nat} {f : Nat} {caps : List AV} {x : RX} {args : List RX} {l : List ROper} {Q : List AV → Heap → Prop} (hw : wantedB g L = true) (hx : RX.ev L E x = .func f caps)
    (h : RetO F fl free f (args.map (RX.ev L E) ++ caps) H E l L Q) : WpR F fl E (⟨.call x args, g, d, free⟩ :: l) L H Q := by
  obtain ⟨n, v, H1, h1, m, L', H2, h2, h3⟩ := h
  refine ⟨max n m, L', H2, ?_, h3⟩
  simp only [rops, hw, if_true, rop, hx, call_grow (Nat.le_max_left n m) h1]
  exact rops_grow (fun _ _ _ _ _ h => call_grow (Nat.le_max_right n m) h) h2

/-- What a list of operations comes to, up to its first call. -/
def WpO (F : Nat → Option RFunc) (fl : Nat) (E : List AV) : List ROper → List AV → Heap → (List AV → Heap → Prop) → Prop
  | [], L, H, Q => Q L H
  | o :: l, L, H, Q =>
    if wantedB o.guard L = true then
      match o.op with
      | .callS f args => RetO F fl o.free f (args.map (RX.ev L E)) H E l L Q
      | .call x args => (match RX.ev L E x with | .func f caps => RetO F fl o.free f (args.map (RX.ev L E) ++ caps) H E l L Q | _ => False)
      | op => (match rop noCall fl o.free (RX.ev L E) H op with | some (v, H') => WpO F fl E l (L ++ [v]) H' Q | none => False)
    else WpO F fl E l (L ++ [.undef]) H Q

theorem wpR_of {fl : Nat} {E : List AV} : ∀ {l : List ROper} {L : List AV} {H : Heap} {Q : List AV → Heap → Prop}, WpO F fl E l L H Q → WpR F fl E l L H Q
  | [], L, H, Q, h => wpR_nil.2 h
  | o :: l, L, H, Q, h => by
    unfold WpO at h
    split at h
    · rename_i hw
      obtain ⟨op, g, d, free⟩ := o
      simp only at h hw
      split at h
      · exact wpR_call hw h
      · split at h
        · rename_i hx; exact wpR_callV hw hx h
        · exact h.elim
      · split at h
        · rename_i hr; exact wpR_op hw hr (wpR_of h)
        · exact h.elim
    · rename_i hw
      exact wpR_skip (by simpa using hw) (wpR_of h)

theorem retO_intro {fl : Nat} {free : Bool} {f : Nat} {args : List AV} {H : Heap} {E : List AV} {l : List ROper} {L : List AV} {Q : List AV → Heap → Prop} {R : AV → Heap → Prop} (h : Ret F (if free then fl else H.length) f args H R)
    (hk : ∀ v H', R v H' → WpO F fl E l (L ++ [v]) H' Q) : RetO F fl free f args H E l L Q := h.mono fun v H' hr => wpR_of (hk v H' hr)

theorem w_opsO {fl : Nat} {l : List ROper} {E : List AV} {H : Heap} {Q : Out → List AV → Heap → Prop} (h : WpO F fl E l [] H fun L H' => Q .normal (putAll l L E) H') : Wp F fl (.ops l) E H Q := w_ops (wpR_of h)

def bodyQ (rf : RFunc) (Q : AV → Heap → Prop) : Out → List AV → Heap → Prop
  | .exit _, _, _ => False
  | _, E, H => ∃ vs, resAll E H rf.res = some vs ∧ Q (resVal vs) H

theorem ret_intro {fl f : Nat} {args : List AV} {H : Heap} {Q : AV → Heap → Prop} {rf : RFunc} (hf : F f = some rf) (hl : args.length = rf.nargs) (h : Wp F fl rf.body (args ++ List.replicate (rf.nvars - rf.nargs) .undef) H (bodyQ rf Q)) : Ret F fl f args H Q := by
  obtain ⟨n, o, E1, H1, h1, h2⟩ := h
  cases o with
  | exit id => exact h2.elim
  | normal =>
    obtain ⟨vs, g1, g2⟩ := h2
    exact ⟨n + 1, _, H1, by simp only [rcall, hf, hl, if_true, h1, g1, Option.map_some], g2⟩
  | ret =>
    obtain ⟨vs, g1, g2⟩ := h2
    exact ⟨n + 1, _, H1, by simp only [rcall, hf, hl, if_true, h1, g1, Option.map_some], g2⟩

end
end Go.RM
