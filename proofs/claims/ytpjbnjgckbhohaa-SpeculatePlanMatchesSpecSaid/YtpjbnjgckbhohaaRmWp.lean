import Derived.Test.YtpjbnjgckbhohaaRmOpt
/-
  How to reason about the abstract machine's code: what a call returns, and what code leaves behind.
-/
namespace Go.RM
set_option linter.unusedSimpArgs false
set_option linter.unusedVariables false

section
variable {F : Nat → Option RFunc}

/-! ### More fuel does no harm -/

theorem rops_grow {call call' : Nat → Nat → List AV → Heap → Option (AV × Heap)} (h : ∀ fl g args H r, call fl g args H = some r → call' fl g args H = some r) {fl : Nat} {E : List AV} : ∀ {l : List ROper} {L : List AV} {H : Heap} {r : List AV × Heap},
    rops call fl E l L H = some r → rops call' fl E l L H = some r
  | [], L, H, r, hr => hr
  | o :: l, L, H, r, hr => by
    simp only [rops] at hr ⊢
    split at hr
    · rename_i hw
      rw [if_pos hw]
      split at hr
      · rename_i v H1 h1
        have : rop call' fl o.free (RX.ev L E) H o.op = some (v, H1) := by
          cases hop : o.op with
          | call f args =>
            rw [hop] at h1
            simp only [rop] at h1 ⊢
            split at h1
            · exact h _ _ _ _ _ h1
            · simp at h1
          | callS f args => rw [hop] at h1; exact h _ _ _ _ _ h1
          | _ => rw [hop] at h1; exact h1
        rw [this]
        exact rops_grow h hr
      · simp at hr
    · rename_i hw
      rw [if_neg hw]
      exact rops_grow h hr

def ExecGrow (F : Nat → Option RFunc) (n : Nat) : Prop := ∀ fl c E H r, rexec F n fl c E H = some r → rexec F (n + 1) fl c E H = some r
def CallGrow (F : Nat → Option RFunc) (n : Nat) : Prop := ∀ fl g args H r, rcall F n fl g args H = some r → rcall F (n + 1) fl g args H = some r

theorem grow_all : ∀ n, ExecGrow F n ∧ CallGrow F n
  | 0 => ⟨fun fl c E H r h => by simp [rexec] at h, fun fl g args H r h => by simp [rcall] at h⟩
  | n + 1 => by
    obtain ⟨h1, h2⟩ := grow_all n
    constructor
    · intro fl c E H r h
      cases c <;> rw [rexec] at h <;> rw [rexec]
      case ops l =>
        simp only [Option.map_eq_some_iff] at h ⊢
        obtain ⟨x, hx, rfl⟩ := h
        exact ⟨x, rops_grow h2 hx, rfl⟩
      case seq a b =>
        cases hh : rexec F n fl a E H with
        | none => rw [hh] at h; simp at h
        | some r1 =>
          rw [hh] at h; rw [h1 _ _ _ _ _ hh]
          obtain ⟨o, E1, H1⟩ := r1
          cases o <;> simp only at h ⊢ <;> first | exact h1 _ _ _ _ _ h | exact h
      case cond x a b =>
        cases hx : x.ev [] E <;> simp only [hx] at h ⊢ <;> try (simp at h; done)
        rename_i bb
        cases bb <;> exact h1 _ _ _ _ _ h
      case block id a =>
        cases hh : rexec F n fl a E H with
        | none => rw [hh] at h; simp at h
        | some r1 =>
          rw [hh] at h; rw [h1 _ _ _ _ _ hh]; exact h
      case loop a =>
        cases hh : rexec F n fl a E H with
        | none => rw [hh] at h; simp at h
        | some r1 =>
          rw [hh] at h; rw [h1 _ _ _ _ _ hh]
          obtain ⟨o, E1, H1⟩ := r1
          cases o <;> simp only at h ⊢ <;> first | exact h1 _ _ _ _ _ h | exact h
      all_goals (first | exact h | simp at h)
    · intro fl g args H r h
      rw [rcall] at h
      rw [rcall]
      cases hf : F g with
      | none => simp [hf] at h
      | some rf =>
        simp only [hf] at h ⊢
        cases hp : rf.prim with
        | some p => rw [hp] at h; exact h
        | none =>
        rw [hp] at h
        simp only at h ⊢
        split at h
        · rename_i hl
          rw [if_pos hl]
          cases hh : rexec F n fl rf.body (args ++ List.replicate (rf.nvars - rf.nargs) .undef) H with
          | none => rw [hh] at h; simp at h
          | some r1 => rw [hh] at h; rw [h1 _ _ _ _ _ hh]; exact h
        · simp at h

theorem exec_grow {n m : Nat} (hnm : n ≤ m) {fl : Nat} {c : RCode} {E : List AV} {H : Heap} {r} (h : rexec F n fl c E H = some r) : rexec F m fl c E H = some r := by
  induction m with
  | zero => have : n = 0 := by omega
            subst this; exact h
  | succ m ih =>
    by_cases e : n = m + 1
    · subst e; exact h
    · exact (grow_all m).1 _ _ _ _ _ (ih (by omega))

theorem call_grow {n m : Nat} (hnm : n ≤ m) {fl g : Nat} {args : List AV} {H : Heap} {r} (h : rcall F n fl g args H = some r) : rcall F m fl g args H = some r := by
  induction m with
  | zero => have : n = 0 := by omega
            subst this; exact h
  | succ m ih =>
    by_cases e : n = m + 1
    · subst e; exact h
    · exact (grow_all m).2 _ _ _ _ _ (ih (by omega))

/-! ### What a call returns, what code leaves -/

def Ret (F : Nat → Option RFunc) (fl f : Nat) (args : List AV) (H : Heap) (Q : AV → Heap → Prop) : Prop := ∃ n v H', rcall F n fl f args H = some (v, H') ∧ Q v H'
def Wp (F : Nat → Option RFunc) (fl : Nat) (c : RCode) (E : List AV) (H : Heap) (Q : Out → List AV → Heap → Prop) : Prop := ∃ n o E' H', rexec F n fl c E H = some (o, E', H') ∧ Q o E' H'
def WpR (F : Nat → Option RFunc) (fl : Nat) (E : List AV) (l : List ROper) (L : List AV) (H : Heap) (Q : List AV → Heap → Prop) : Prop := ∃ n L' H', rops (rcall F n) fl E l L H = some (L', H') ∧ Q L' H'

/-- A call in a list, and the operations behind it (data: they are looked at when the call's result is known). -/
def RetO (F : Nat → Option RFunc) (fl : Nat) (free : Bool) (f : Nat) (args : List AV) (H : Heap) (E : List AV) (l : List ROper) (L : List AV) (Q : List AV → Heap → Prop) : Prop :=
  Ret F (if free then fl else H.length) f args H fun v H' => WpR F fl E l (L ++ [v]) H' Q

def noCall : Nat → Nat → List AV → Heap → Option (AV × Heap) := fun _ _ _ _ => none

theorem Ret.mono {fl f : Nat} {args : List AV} {H : Heap} {Q Q' : AV → Heap → Prop} (h : Ret F fl f args H Q) (hq : ∀ v H', Q v H' → Q' v H') : Ret F fl f args H Q' := let ⟨n, v, H', h1, h2⟩ := h; ⟨n, v, H', h1, hq v H' h2⟩
theorem Wp.mono {fl : Nat} {c : RCode} {E : List AV} {H : Heap} {Q Q' : Out → List AV → Heap → Prop} (h : Wp F fl c E H Q) (hq : ∀ o E' H', Q o E' H' → Q' o E' H') : Wp F fl c E H Q' := let ⟨n, o, E', H', h1, h2⟩ := h; ⟨n, o, E', H', h1, hq o E' H' h2⟩

/-- What holds of the call's heap besides holds. -/
theorem Ret.facts {fl f : Nat} {args : List AV} {H : Heap} {Q : AV → Heap → Prop} (h : Ret F fl f args H Q) : Ret F fl f args H fun v H' => Q v H' ∧ Facts fl H H' := let ⟨n, v, H', h1, h2⟩ := h; ⟨n, v, H', h1, h2, rcall_facts F n _ _ _ _ _ _ h1⟩

theorem w_skip {fl : Nat} {E : List AV} {H : Heap} {Q : Out → List AV → Heap → Prop} (h : Q .normal E H) : Wp F fl .skip E H Q := ⟨1, _, _, _, rfl, h⟩
theorem w_ret {fl : Nat} {E : List AV} {H : Heap} {Q : Out → List AV → Heap → Prop} (h : Q .ret E H) : Wp F fl .ret E H Q := ⟨1, _, _, _, rfl, h⟩
theorem w_exit {fl id : Nat} {E : List AV} {H : Heap} {Q : Out → List AV → Heap → Prop} (h : Q (.exit id) E H) : Wp F fl (.exit id) E H Q := ⟨1, _, _, _, rfl, h⟩

def thenQ (F : Nat → Option RFunc) (fl : Nat) (b : RCode) (Q : Out → List AV → Heap → Prop) : Out → List AV → Heap → Prop
  | .normal, E, H => Wp F fl b E H Q
  | o, E, H => Q o E H

theorem w_seq {fl : Nat} {a b : RCode} {E : List AV} {H : Heap} {Q : Out → List AV → Heap → Prop} (h : Wp F fl a E H (thenQ F fl b Q)) : Wp F fl (.seq a b) E H Q := by
  obtain ⟨n, o, E1, H1, h1, h2⟩ := h
  cases o with
  | normal =>
    obtain ⟨m, o, E2, H2, h3, h4⟩ := h2
    refine ⟨max n m + 1, o, E2, H2, ?_, h4⟩
    rw [rexec]
    simp only [exec_grow (Nat.le_max_left n m) h1]
    exact exec_grow (Nat.le_max_right n m) h3
  | exit id => exact ⟨n + 1, _, E1, H1, by rw [rexec]; simp only [h1], h2⟩
  | ret => exact ⟨n + 1, _, E1, H1, by rw [rexec]; simp only [h1], h2⟩

theorem w_cond {fl : Nat} {x : RX} {a b : RCode} {E : List AV} {H : Heap} {Q : Out → List AV → Heap → Prop} {t : Bool} (hx : x.ev [] E = .bool t) (ht : t = true → Wp F fl a E H Q) (hf : t = false → Wp F fl b E H Q) : Wp F fl (.cond x a b) E H Q := by
  cases t with
  | true => obtain ⟨n, o, E1, H1, h1, h2⟩ := ht rfl; exact ⟨n + 1, o, E1, H1, by rw [rexec]; simp only [hx]; exact h1, h2⟩
  | false => obtain ⟨n, o, E1, H1, h1, h2⟩ := hf rfl; exact ⟨n + 1, o, E1, H1, by rw [rexec]; simp only [hx]; exact h1, h2⟩

def blockQ (id : Nat) (Q : Out → List AV → Heap → Prop) : Out → List AV → Heap → Prop
  | .exit id', E, H => if id' = id then Q .normal E H else Q (.exit id') E H
  | o, E, H => Q o E H

theorem w_block {fl id : Nat} {c : RCode} {E : List AV} {H : Heap} {Q : Out → List AV → Heap → Prop} (h : Wp F fl c E H (blockQ id Q)) : Wp F fl (.block id c) E H Q := by
  obtain ⟨n, o, E1, H1, h1, h2⟩ := h
  cases o with
  | exit id' =>
    simp only [blockQ] at h2
    by_cases e : id' = id
    · rw [if_pos e] at h2; exact ⟨n + 1, _, E1, H1, by rw [rexec]; simp only [h1, if_pos e], h2⟩
    · rw [if_neg e] at h2; exact ⟨n + 1, _, E1, H1, by rw [rexec]; simp only [h1, if_neg e], h2⟩
  | normal => exact ⟨n + 1, _, E1, H1, by rw [rexec]; simp only [h1], h2⟩
  | ret => exact ⟨n + 1, _, E1, H1, by rw [rexec]; simp only [h1], h2⟩

def loopQ (I : Nat → List AV → Heap → Prop) (k : Nat) (Q : Out → List AV → Heap → Prop) : Out → List AV → Heap → Prop
  | .normal, E, H => ∃ k', k' < k ∧ I k' E H
  | o, E, H => Q o E H

/-- A loop, by an invariant with a number that falls. -/
theorem w_loop {fl : Nat} {c : RCode} {Q : Out → List AV → Heap → Prop} (I : Nat → List AV → Heap → Prop) (round : ∀ k E H, I k E H → Wp F fl c E H (loopQ I k Q)) : ∀ (k : Nat) {E : List AV} {H : Heap}, I k E H → Wp F fl (.loop c) E H Q := by
  intro k
  induction k using Nat.strongRecOn with
  | _ k ih =>
    intro E H hI
    obtain ⟨n, o, E1, H1, h1, h2⟩ := round k E H hI
    cases o with
    | normal =>
      obtain ⟨k', hk, hI'⟩ := h2
      obtain ⟨m, o, E2, H2, h3, h4⟩ := ih k' hk hI'
      refine ⟨max n m + 1, o, E2, H2, ?_, h4⟩
      rw [rexec]
      simp only [exec_grow (Nat.le_max_left n m) h1]
      exact exec_grow (Nat.le_max_right n m) h3
    | exit id => exact ⟨n + 1, _, E1, H1, by rw [rexec]; simp only [h1], h2⟩
    | ret => exact ⟨n + 1, _, E1, H1, by rw [rexec]; simp only [h1], h2⟩

theorem w_ops {fl : Nat} {l : List ROper} {E : List AV} {H : Heap} {Q : Out → List AV → Heap → Prop} (h : WpR F fl E l [] H fun L H' => Q .normal (putAll l L E) H') : Wp F fl (.ops l) E H Q := by
  obtain ⟨n, L, H', h1, h2⟩ := h
  exact ⟨n + 1, _, _, H', by rw [rexec]; simp only [h1, Option.map_some], h2⟩

theorem wpR_nil {fl : Nat} {E L : List AV} {H : Heap} {Q : List AV → Heap → Prop} : WpR F fl E [] L H Q ↔ Q L H :=
  ⟨fun ⟨_, _, _, h1, h2⟩ => by simp only [rops, Option.some.injEq, Prod.mk.injEq] at h1; obtain ⟨rfl, rfl⟩ := h1; exact h2, fun h => ⟨0, L, H, rfl, h⟩⟩

/-- An operation that is no call. -/
theorem wpR_op {fl : Nat} {E L : List AV} {H H' : Heap} {o : ROper} {l : List ROper} {v : AV} {Q : List AV → Heap → Prop} (hw : wantedB o.guard L = true) (hr : rop noCall fl o.free (RX.ev L E) H o.op = some (v, H')) (h : WpR F fl E l (L ++ [v]) H' Q) : WpR F fl E (o :: l) L H Q := by
  obtain ⟨n, L', H2, h1, h2⟩ := h
  refine ⟨n, L', H2, ?_, h2⟩
  simp only [rops, hw, if_true]
  have : rop (rcall F n) fl o.free (RX.ev L E) H o.op = some (v, H') := by
    cases hop : o.op with
    | call f args =>
      rw [hop] at hr
      simp only [rop] at hr
      split at hr <;> simp [noCall] at hr
    | callS f args => rw [hop] at hr; simp [rop, noCall] at hr
    | _ => rw [hop] at hr; exact hr
  rw [this]; exact h1

theorem wpR_skip {fl : Nat} {E L : List AV} {H : Heap} {o : ROper} {l : List ROper} {Q : List AV → Heap → Prop} (hw : wantedB o.guard L = false) (h : WpR F fl E l (L ++ [.undef]) H Q) : WpR F fl E (o :: l) L H Q := by
  obtain ⟨n, L', H2, h1, h2⟩ := h
  exact ⟨n, L', H2, by simp only [rops, hw, Bool.false_eq_true, if_false]; exact h1, h2⟩

theorem wpR_call {fl : Nat} {E L : List AV} {H : Heap} {free : Bool} {g : Option (Nat × Bool)} {d : Option Nat} {f : Nat} {args : List RX} {l : List ROper} {Q : List AV → Heap → Prop} (hw : wantedB g L = true) (h : RetO F fl free f (args.map (RX.ev L E)) H E l L Q) : WpR F fl E (⟨.callS f args, g, d, free⟩ :: l) L H Q := by
  obtain ⟨n, v, H1, h1, m, L', H2, h2, h3⟩ := h
  refine ⟨max n m, L', H2, ?_, h3⟩
  simp only [rops, hw, if_true, rop, call_grow (Nat.le_max_left n m) h1]
  exact rops_grow (fun _ _ _ _ _ h => call_grow (Nat.le_max_right n m) h) h2

theorem wpR_callV {fl : Nat} {E L : List AV} {H : Heap} {free : Bool} {g : Option (Nat × Bool)} {d : Option Nat} {f : Nat} {caps : List AV} {x : RX} {args : List RX} {l : List ROper} {Q : List AV → Heap → Prop} (hw : wantedB g L = true) (hx : RX.ev L E x = .func f caps)
    (h : RetO F fl free f (args.map (RX.ev L E) ++ caps) H E l L Q) : WpR F fl E (⟨.call x args, g, d, free⟩ :: l) L H Q := by
  obtain ⟨n, v, H1, h1, m, L', H2, h2, h3⟩ := h
  refine ⟨max n m, L', H2, ?_, h3⟩
  simp only [rops, hw, if_true, rop, hx, call_grow (Nat.le_max_left n m) h1]
  exact rops_grow (fun _ _ _ _ _ h => call_grow (Nat.le_max_right n m) h) h2

def bodyQ (rf : RFunc) (Q : AV → Heap → Prop) : Out → List AV → Heap → Prop
  | .exit _, _, _ => False
  | _, E, H => ∃ vs, resAll E H rf.res = some vs ∧ Q (resVal vs) H

theorem ret_intro {fl f : Nat} {args : List AV} {H : Heap} {Q : AV → Heap → Prop} {rf : RFunc} (hf : F f = some rf) (hl : args.length = rf.nargs) (h : Wp F fl rf.body (args ++ List.replicate (rf.nvars - rf.nargs) .undef) H (bodyQ rf Q)) (hp : rf.prim = none := by rfl) : Ret F fl f args H Q := by
  obtain ⟨n, o, E1, H1, h1, h2⟩ := h
  cases o with
  | exit id => exact h2.elim
  | normal =>
    obtain ⟨vs, g1, g2⟩ := h2
    exact ⟨n + 1, _, H1, by simp only [rcall, hf, hp, hl, if_true, h1, g1, Option.map_some], g2⟩
  | ret =>
    obtain ⟨vs, g1, g2⟩ := h2
    exact ⟨n + 1, _, H1, by simp only [rcall, hf, hp, hl, if_true, h1, g1, Option.map_some], g2⟩

end
end Go.RM

/-
  Lists of operations, run by the kernel up to their calls and to what has conditions.
-/
namespace Go.RM
set_option linter.unusedSimpArgs false
set_option linter.unusedVariables false

inductive Stop where
  | done (L : List AV) (H : Heap)
  | call (free : Bool) (f : Nat) (args : List AV) (H : Heap) (l : List ROper) (L : List AV)
  | op (free : Bool) (r : ROp) (vals : List AV) (H : Heap) (l : List ROper) (L : List AV)
  | fail

/-- Operations that have conditions, with their operands named by number. -/
def stops : ROp → Option (ROp × List RX)
  | .bin op c x y => (match op with | .quo => some (.bin op c (.loc 0) (.loc 1), [x, y]) | .rem => some (.bin op c (.loc 0) (.loc 1), [x, y]) | .shl => some (.bin op c (.loc 0) (.loc 1), [x, y]) | .shr => some (.bin op c (.loc 0) (.loc 1), [x, y]) | _ => none)
  | .makeSlice e b z x y => some (.makeSlice e b z (.loc 0) (.loc 1), [x, y])
  | .indexAddr e x i => some (.indexAddr e (.loc 0) (.loc 1), [x, i])
  | .indexArr n e x i => some (.indexArr n e (.loc 0) (.loc 1), [x, i])
  | .indexStr x i => some (.indexStr (.loc 0) (.loc 1), [x, i])
  | .indexAgg l n sz x i => some (.indexAgg l n sz (.loc 0) (.loc 1), [x, i])
  | .load sz x => some (.load sz (.loc 0), [x])
  | .store n x v [] => some (.store n (.loc 0) (.loc 1) [], [x, v])
  | .store n x v [a] => some (.store n (.loc 0) (.loc 1) [.loc 2], [x, v, a])
  | .slice e x none none none => some (.slice e (.loc 0) none none none, [x])
  | .slice e x (some a) none none => some (.slice e (.loc 0) (some (.loc 1)) none none, [x, a])
  | .slice e x none (some b) none => some (.slice e (.loc 0) none (some (.loc 1)) none, [x, b])
  | .slice e x (some a) (some b) none => some (.slice e (.loc 0) (some (.loc 1)) (some (.loc 2)) none, [x, a, b])
  | .slice e x none (some b) (some c) => some (.slice e (.loc 0) none (some (.loc 1)) (some (.loc 2)), [x, b, c])
  | .sliceStr x none none => some (.sliceStr (.loc 0) none none, [x])
  | .sliceStr x (some a) none => some (.sliceStr (.loc 0) (some (.loc 1)) none, [x, a])
  | .sliceStr x none (some b) => some (.sliceStr (.loc 0) none (some (.loc 1)), [x, b])
  | .sliceStr x (some a) (some b) => some (.sliceStr (.loc 0) (some (.loc 1)) (some (.loc 2)), [x, a, b])
  | .append e b x y => some (.append e b (.loc 0) (.loc 1), [x, y])
  | .copy e x y => some (.copy e (.loc 0) (.loc 1), [x, y])
  | .clear e z x => some (.clear e z (.loc 0), [x])
  | .fieldAddr off x => some (.fieldAddr off (.loc 0), [x])
  | _ => none

def upto (fl : Nat) (E : List AV) : List ROper → List AV → Heap → Stop
  | [], L, H => .done L H
  | o :: l, L, H =>
    match wantedB o.guard L with
    | true =>
      match o.op with
      | .callS f args => .call o.free f (args.map (RX.ev L E)) H l L
      | .call x args => (match RX.ev L E x with | .func f caps => .call o.free f (args.map (RX.ev L E) ++ caps) H l L | _ => .fail)
      | op =>
        match stops op with
        | some (r, xs) => .op o.free r (xs.map (RX.ev L E)) H l L
        | none => (match rop noCall fl o.free (RX.ev L E) H op with | some (v, H') => upto fl E l (L ++ [v]) H' | none => .fail)
    | false => upto fl E l (L ++ [.undef]) H

def Stop.env (l0 : List ROper) (E : List AV) : Stop → Option (List AV × Heap)
  | .done L H => some (putAll l0 L E, H)
  | _ => none
def Stop.head : Stop → Option (Bool × Nat × List AV × Heap)
  | .call free f args H _ _ => some (free, f, args, H)
  | _ => none
def Stop.ask : Stop → Option (ROp × List AV × Heap)
  | .op _ r vals H _ _ => some (r, vals, H)
  | _ => none
def Stop.free : Stop → Bool
  | .op free _ _ _ _ _ => free
  | _ => false
def Stop.next (fl : Nat) (E : List AV) (s : Stop) (v : AV) (H' : Heap) : Stop :=
  match s with
  | .call _ _ _ _ l L => upto fl E l (L ++ [v]) H'
  | .op _ _ _ _ l L => upto fl E l (L ++ [v]) H'
  | _ => .fail

section
variable {F : Nat → Option RFunc} {fl : Nat} {E : List AV}

/-! ### The operations that have conditions -/

end
end Go.RM

/-
  Small facts about numbers and about the last block of a heap.
-/
namespace Go.RM
set_option linter.unusedSimpArgs false

theorem wrap64 {n : Int} (h1 : -9223372036854775808 ≤ n) (h2 : n ≤ 9223372036854775807) : IntKind.i64.wrap n = n := by
  have hb : (2 ^ IntKind.i64.bits : Int) = 18446744073709551616 := rfl
  have hb2 : (2 ^ (IntKind.i64.bits - 1) : Int) = 9223372036854775808 := rfl
  have hs : IntKind.i64.signed = true := rfl
  unfold IntKind.wrap
  simp only [hb, hb2, hs, Bool.true_and, decide_eq_true_eq, ge_iff_le]
  split <;> omega

end Go.RM

/-
  Lists of operations, run by the kernel between stops that a printed proof names; rules for each kind of stop.
-/
namespace Go.RM
set_option linter.unusedSimpArgs false
set_option linter.unusedVariables false

inductive Stp where
  | done (L : List AV) (H : Heap)
  | call (free : Bool) (f : Nat) (args : List AV) (H : Heap) (S : List Nat) (l : List ROper) (L : List AV)
  | op (free : Bool) (r : ROp) (vals : List AV) (H : Heap) (S : List Nat) (l : List ROper) (L : List AV)
  | gd (t : AV) (j : Nat) (b : Bool) (o : ROper) (n : Nat) (H : Heap) (S : List Nat) (l : List ROper) (L : List AV)
  | fail

def numP (k : Nat) : List (Nat × Nat × RX) → List (Nat × Nat × RX)
  | [] => []
  | p :: l => (p.1, p.2.1, .loc k) :: numP (k + 1) l

theorem numP_eq {X : RX → AV} : ∀ (ps : List (Nat × Nat × RX)) (pre : List AV), (numP pre.length ps).map (fun p => (p.1, p.2.1, RX.ev (pre ++ (ps.map (·.2.2)).map X) [] p.2.2)) = ps.map fun p => (p.1, p.2.1, X p.2.2)
  | [], _ => rfl
  | p :: l, pre => by
    simp only [numP, List.map_cons]
    have h := numP_eq (X := X) l (pre ++ [X p.2.2])
    rw [List.length_append, List.length_singleton, List.append_assoc] at h
    rw [show (pre ++ X p.2.2 :: (l.map (·.2.2)).map X) = pre ++ ([X p.2.2] ++ (l.map (·.2.2)).map X) from rfl, h]
    congr 1
    simp only [RX.ev]
    rw [List.getD_eq_getElem?_getD, List.getElem?_append_right (Nat.le_refl _), Nat.sub_self]
    rfl

def isB (t : AV) (b : Bool) : Bool :=
  match t with
  | .bool c => c == b
  | _ => false

theorem wanted_isB {j : Nat} {b : Bool} {L : List AV} : wantedB (some (j, b)) L = isB (L.getD j .undef) b := by
  rw [List.getD_eq_getElem?_getD]
  cases hj : L[j]? with
  | none => simp only [wantedB, hj, Option.getD_none, AV.undef, isB]
  | some x =>
    simp only [wantedB, hj, Option.getD_some, isB]
    cases x <;> rfl

/-- An operation with its operands named by number. -/
def askOf : ROp → Option (ROp × List RX)
  | .alloc e z => some (.alloc e z, [])
  | .box e x => some (.box e (.loc 0), [x])
  | .tomb e x => some (.tomb e (.loc 0), [x])
  | .upd n off x v => some (.upd n off (.loc 0) (.loc 1), [x, v])
  | .build z ps => some (.build z (numP 0 ps), ps.map (·.2.2))
  | .buildSlice e z ps n => some (.buildSlice e z (numP 0 ps) n, ps.map (·.2.2))
  | .bin op c x y => some (.bin op c (.loc 0) (.loc 1), [x, y])
  | .makeSlice e b z x y => some (.makeSlice e b z (.loc 0) (.loc 1), [x, y])
  | .indexAddr e x i => some (.indexAddr e (.loc 0) (.loc 1), [x, i])
  | .indexArr n e x i => some (.indexArr n e (.loc 0) (.loc 1), [x, i])
  | .indexStr x i => some (.indexStr (.loc 0) (.loc 1), [x, i])
  | .indexAgg l n sz x i => some (.indexAgg l n sz (.loc 0) (.loc 1), [x, i])
  | .load sz x => some (.load sz (.loc 0), [x])
  | .store n x v [] => some (.store n (.loc 0) (.loc 1) [], [x, v])
  | .store n x v [a] => some (.store n (.loc 0) (.loc 1) [.loc 2], [x, v, a])
  | .store n x v [a, b] => some (.store n (.loc 0) (.loc 1) [.loc 2, .loc 3], [x, v, a, b])
  | .slice e x none none none => some (.slice e (.loc 0) none none none, [x])
  | .slice e x (some a) none none => some (.slice e (.loc 0) (some (.loc 1)) none none, [x, a])
  | .slice e x none (some b) none => some (.slice e (.loc 0) none (some (.loc 1)) none, [x, b])
  | .slice e x (some a) (some b) none => some (.slice e (.loc 0) (some (.loc 1)) (some (.loc 2)) none, [x, a, b])
  | .slice e x none (some b) (some c) => some (.slice e (.loc 0) none (some (.loc 1)) (some (.loc 2)), [x, b, c])
  | .slice e x (some a) (some b) (some c) => some (.slice e (.loc 0) (some (.loc 1)) (some (.loc 2)) (some (.loc 3)), [x, a, b, c])
  | .sliceStr x none none => some (.sliceStr (.loc 0) none none, [x])
  | .sliceStr x (some a) none => some (.sliceStr (.loc 0) (some (.loc 1)) none, [x, a])
  | .sliceStr x none (some b) => some (.sliceStr (.loc 0) none (some (.loc 1)), [x, b])
  | .sliceStr x (some a) (some b) => some (.sliceStr (.loc 0) (some (.loc 1)) (some (.loc 2)), [x, a, b])
  | .append e b x y => some (.append e b (.loc 0) (.loc 1), [x, y])
  | .copy e x y => some (.copy e (.loc 0) (.loc 1), [x, y])
  | .clear e z x => some (.clear e z (.loc 0), [x])
  | .fieldAddr off x => some (.fieldAddr off (.loc 0), [x])
  | .len x => some (.len (.loc 0), [x])
  | .nilCheck x => some (.nilCheck (.loc 0), [x])
  | _ => none

theorem askOf_eq {call : Nat → Nat → List AV → Heap → Option (AV × Heap)} {fl : Nat} {free : Bool} {X : RX → AV} {H : Heap} {r r' : ROp} {xs : List RX} (h : askOf r = some (r', xs)) :
    rop call fl free X H r = rop call fl free (RX.ev (xs.map X) []) H r' := by
  unfold askOf at h
  split at h
  all_goals simp only [Option.some.injEq, Prod.mk.injEq, reduceCtorEq] at h
  all_goals obtain ⟨rfl, rfl⟩ := h
  all_goals first
    | rfl
    | (rename_i z ps; have e := numP_eq (X := X) ps []; simp only [List.length_nil, List.nil_append] at e; simp only [rop, e])
    | (rename_i z ps n; have e := numP_eq (X := X) ps []; simp only [List.length_nil, List.nil_append] at e; simp only [rop, e])
    | (rename_i z ps n; have e := numP_eq (X := X) z []; simp only [List.length_nil, List.nil_append] at e; simp only [rop, e])

def runTo (fl : Nat) (E : List AV) : List ROper → List Nat → List AV → Heap → Stp
  | [], _, L, H => .done L H
  | o :: l, S, L, H =>
    match S.headD 0 with
    | 0 =>
      match wantedB o.guard L with
      | true => (match rop noCall fl o.free (RX.ev L E) H o.op with | some (v, H') => runTo fl E l S.tail (L ++ [v]) H' | none => .fail)
      | false => runTo fl E l S.tail (L ++ [.undef]) H
    | 1 =>
      match wantedB o.guard L with
      | true =>
        match o.op with
        | .callS f args => .call o.free f (args.map (RX.ev L E)) H S.tail l L
        | .call x args => (match RX.ev L E x with | .func f caps => .call o.free f (args.map (RX.ev L E) ++ caps) H S.tail l L | _ => .fail)
        | op =>
          match askOf op with
          | some (r, xs) => .op o.free r (xs.map (RX.ev L E)) H S.tail l L
          | none => .fail
      | false => runTo fl E l S.tail (L ++ [.undef]) H
    | n + 2 =>
      match o.guard with
      | some (j, b) => .gd (L.getD j .undef) j b o n H S.tail l L
      | none => .fail

def Stp.env (l0 : List ROper) (E : List AV) : Stp → Option (List AV × Heap)
  | .done L H => some (putAll l0 L E, H)
  | _ => none
def Stp.head : Stp → Option (Bool × Nat × List AV × Heap)
  | .call free f args H _ _ _ => some (free, f, args, H)
  | _ => none
def Stp.ask : Stp → Option (Bool × ROp × List AV × Heap)
  | .op free r vals H _ _ _ => some (free, r, vals, H)
  | _ => none
def Stp.gask : Stp → Option (AV × Bool)
  | .gd t _ b _ _ _ _ _ _ => some (t, b)
  | _ => none
def Stp.next (fl : Nat) (E : List AV) (s : Stp) (v : AV) (H' : Heap) : Stp :=
  match s with
  | .call _ _ _ _ S l L => runTo fl E l S (L ++ [v]) H'
  | .op _ _ _ _ S l L => runTo fl E l S (L ++ [v]) H'
  | _ => .fail
def Stp.yes (fl : Nat) (E : List AV) (s : Stp) : Stp :=
  match s with
  | .gd _ j b o n H S l L => runTo fl E ({ o with guard := none } :: l) (n :: S) (L.set j (.bool b)) H
  | _ => .fail
def Stp.nou (fl : Nat) (E : List AV) (s : Stp) : Stp :=
  match s with
  | .gd _ _ _ _ _ H S l L => runTo fl E l S (L ++ [.undef]) H
  | _ => .fail
def Stp.no (fl : Nat) (E : List AV) (s : Stp) : Stp :=
  match s with
  | .gd _ j b _ _ H S l L => runTo fl E l S (L.set j (.bool !b) ++ [.undef]) H
  | _ => .fail

section
variable {F : Nat → Option RFunc} {fl : Nat} {E : List AV}

def WpT0 (F : Nat → Option RFunc) (fl : Nat) (E : List AV) (l0 : List ROper) (s : Stp) (Q : Out → List AV → Heap → Prop) : Prop :=
  match s with
  | .done L H => Q .normal (putAll l0 L E) H
  | .call free f args H S l L => RetO F fl free f args H E l L fun L H' => Q .normal (putAll l0 L E) H'
  | .op free r vals H S l L => ∃ v H', rop noCall fl free (RX.ev vals []) H r = some (v, H') ∧ WpR F fl E l (L ++ [v]) H' fun L H' => Q .normal (putAll l0 L E) H'
  | .gd t j b o n H S l L =>
    match t with
    | .bool c => (if c = b then WpR F fl E ({ o with guard := none } :: l) (L.set j (.bool b)) H fun L H' => Q .normal (putAll l0 L E) H' else WpR F fl E l (L.set j (.bool !b) ++ [.undef]) H fun L H' => Q .normal (putAll l0 L E) H')
    | _ => WpR F fl E l (L ++ [.undef]) H fun L H' => Q .normal (putAll l0 L E) H'
  | .fail => False

/-- Sealed, so that nobody but the kernel runs the list. -/
structure WpT (F : Nat → Option RFunc) (fl : Nat) (E : List AV) (l0 : List ROper) (s : Stp) (Q : Out → List AV → Heap → Prop) : Prop where
  out : WpT0 F fl E l0 s Q

theorem wpR_unguard {o : ROper} {l : List ROper} {L : List AV} {H : Heap} {Q : List AV → Heap → Prop} (hw : wantedB o.guard L = true) (h : WpR F fl E ({ o with guard := none } :: l) L H Q) : WpR F fl E (o :: l) L H Q := by
  obtain ⟨n, L', H', h1, h2⟩ := h
  refine ⟨n, L', H', ?_, h2⟩
  rw [← h1, rops, rops, if_pos hw]
  exact (if_pos rfl).symm

theorem wpT_of' {l0 : List ROper} {Q : Out → List AV → Heap → Prop} : ∀ {l : List ROper} {S : List Nat} {L : List AV} {H : Heap}, WpT0 F fl E l0 (runTo fl E l S L H) Q → WpR F fl E l L H fun L H' => Q .normal (putAll l0 L E) H'
  | [], S, L, H, h => wpR_nil.2 h
  | o :: l, S, L, H, h => by
    obtain ⟨op, g, d, free⟩ := o
    unfold runTo at h
    simp only at h
    split at h
    · split at h
      · rename_i hw
        split at h
        · rename_i hr; exact wpR_op hw hr (wpT_of' h)
        · exact h.elim
      · rename_i hw
        exact wpR_skip hw (wpT_of' h)
    · split at h
      · rename_i hw
        split at h
        · exact wpR_call hw h
        · split at h
          · rename_i hx; exact wpR_callV hw hx h
          · exact h.elim
        · split at h
          · rename_i hst
            obtain ⟨v, H', h1, h2⟩ := h
            exact wpR_op hw (by rw [askOf_eq hst]; exact h1) h2
          · exact h.elim
      · rename_i hw
        exact wpR_skip hw (wpT_of' h)
    · split at h
      · rename_i j b
        simp only [WpT0] at h
        split at h
        · rename_i c hc
          have hset : L.set j (.bool c) = L := by
            rw [List.getD_eq_getElem?_getD] at hc
            cases hj : L[j]? with
            | none => rw [hj] at hc; cases hc
            | some x =>
              rw [hj] at hc
              have hc : x = .bool c := hc
              subst hc
              apply List.ext_getElem?
              intro i
              rw [List.getElem?_set]
              split
              · rename_i hi; subst hi
                rw [hj]
                have : j < L.length := by
                  rcases Nat.lt_or_ge j L.length with h | h
                  · exact h
                  · rw [List.getElem?_eq_none h] at hj; cases hj
                simp [this]
              · rfl
          split at h
          · rename_i e
            subst e
            rw [hset] at h
            exact wpR_unguard (wanted_isB.trans (by rw [hc]; simp [isB])) h
          · rename_i e
            have e2 : (!b) = c := by cases b <;> cases c <;> simp_all
            rw [e2, hset] at h
            exact wpR_skip (wanted_isB.trans (by rw [hc]; simp [isB, e])) h
        · rename_i hnb
          refine wpR_skip (wanted_isB.trans ?_) h
          cases hx : L.getD j .undef <;> first | rfl | exact absurd hx (hnb _)
      · exact h.elim

theorem w_run {l : List ROper} (S : List Nat) {H : Heap} {Q : Out → List AV → Heap → Prop} (h : WpT F fl E l (runTo fl E l S [] H) Q) : Wp F fl (.ops l) E H Q := w_ops (wpT_of' h.out)

theorem t_done {l0 : List ROper} {s : Stp} {Q : Out → List AV → Heap → Prop} (E' : List AV) (H' : Heap) (h : s.env l0 E = some (E', H')) (hq : Q .normal E' H') : WpT F fl E l0 s Q := by
  cases s <;> simp only [Stp.env, Option.some.injEq, Prod.mk.injEq, reduceCtorEq] at h
  obtain ⟨rfl, rfl⟩ := h
  exact ⟨hq⟩

theorem t_call {l0 : List ROper} {s : Stp} {Q : Out → List AV → Heap → Prop} {R : AV → Heap → Prop} (free : Bool) (f : Nat) (args : List AV) (Hc : Heap) (h : s.head = some (free, f, args, Hc)) (hr : Ret F (if free then fl else Hc.length) f args Hc R)
    (hk : ∀ v H', R v H' → WpT F fl E l0 (s.next fl E v H') Q) : WpT F fl E l0 s Q := by
  cases s <;> simp only [Stp.head, Option.some.injEq, Prod.mk.injEq, reduceCtorEq] at h
  obtain ⟨rfl, rfl, rfl, rfl⟩ := h
  exact ⟨hr.mono fun v H' h => wpT_of' (hk v H' h).out⟩

theorem t_op {l0 : List ROper} {s : Stp} {Q : Out → List AV → Heap → Prop} (free : Bool) (r : ROp) (vals : List AV) (Hc : Heap) (v : AV) (H' : Heap) (h : s.ask = some (free, r, vals, Hc)) (hr : rop noCall fl free (RX.ev vals []) Hc r = some (v, H'))
    (hk : WpT F fl E l0 (s.next fl E v H') Q) : WpT F fl E l0 s Q := by
  cases s <;> simp only [Stp.ask, Option.some.injEq, Prod.mk.injEq, reduceCtorEq] at h
  obtain ⟨rfl, rfl, rfl, rfl⟩ := h
  exact ⟨⟨v, H', hr, wpT_of' hk.out⟩⟩

theorem t_gd {l0 : List ROper} {s : Stp} {Q : Out → List AV → Heap → Prop} (t b : Bool) (h : s.gask = some (.bool t, b)) (hy : t = b → WpT F fl E l0 (s.yes fl E) Q) (hn : t = !b → WpT F fl E l0 (s.no fl E) Q) : WpT F fl E l0 s Q := by
  cases s <;> simp only [Stp.gask, Option.some.injEq, Prod.mk.injEq, reduceCtorEq] at h
  rename_i t' j' b' o n H S l L
  obtain ⟨rfl, rfl⟩ := h
  by_cases e : t = b'
  · refine ⟨?_⟩
    simp only [WpT0, if_pos e]
    exact wpT_of' (hy e).out
  · refine ⟨?_⟩
    simp only [WpT0, if_neg e]
    exact wpT_of' (hn (by cases t <;> cases b' <;> simp_all)).out

/-- A guard that was itself not wanted. -/
theorem t_gdU {l0 : List ROper} {s : Stp} {Q : Out → List AV → Heap → Prop} (b : Bool) (h : s.gask = some (.undef, b)) (hn : WpT F fl E l0 (s.nou fl E) Q) : WpT F fl E l0 s Q := by
  cases s <;> simp only [Stp.gask, Option.some.injEq, Prod.mk.injEq, reduceCtorEq] at h
  rename_i t' j' b' o n H S l L
  obtain ⟨rfl, rfl⟩ := h
  refine ⟨?_⟩
  show WpR F fl E l (L ++ [.undef]) H fun L H' => Q .normal (putAll l0 L E) H'
  exact wpT_of' hn.out

/-! ### What the stops ask -/

def lenA : AV → Option Nat := sliceLen
def ptrA (e : Nat) (v : AV) (j : Int) : Option (Nat × Nat) :=
  match v with
  | .slice b off n _ => if 0 ≤ j ∧ j < n then some (b, off + j.toNat * e) else none
  | _ => none
/-- Element j of a slice, from its cell o on. -/
def getA (H : Heap) (e : Nat) (sz : Option Nat) (v : AV) (j : Int) (o : Nat) : Option AV :=
  match v with
  | .slice b off n _ => if 0 ≤ j ∧ j < n then rload H sz b (off + j.toNat * e + o) else none
  | _ => none
def idxP (e : Nat) (v : AV) (j : Int) (o : Nat) : AV :=
  match v with
  | .slice b off _ _ => .ptr b (off + j.toNat * e + o)
  | _ => .undef
def putA (fl : Nat) (H : Heap) (b off n : Nat) (v : AV) : Option Heap := if v.cells.length = n then rput fl H b off v.cells else none
def appA (fl : Nat) (free : Bool) (e bytes : Nat) (H : Heap) (x y : AV) : Option (AV × Heap) := rop noCall fl free (RX.ev [x, y] []) H (.append e bytes (.loc 0) (.loc 1))
def Scal (v : AV) : Prop := v.cells = [v] ∧ v.scalar = true
/-- A new block. -/
structure NewB (H : Heap) (e : Nat) (cells : List AV) (b : Nat) (H' : Heap) : Prop where
  b_eq : b = H.length
  H_eq : H' = H ++ [{ cells := cells, e := e }]
/-- A dead block in the place of a variable. -/
structure Dead1 (H : Heap) (e : Nat) (H' : Heap) : Prop where
  H_eq : H' = H ++ [{ cells := [], e, live := false, clean := false }]
section
variable {l0 : List ROper} {s : Stp} {Q : Out → List AV → Heap → Prop}

theorem t_len (free : Bool) (v : AV) (n : Nat) (Hc : Heap) (h : s.ask = some (free, .len (.loc 0), [v], Hc)) (hl : lenA v = some n) (hk : WpT F fl E l0 (s.next fl E (.int .i64 n) Hc) Q) : WpT F fl E l0 s Q :=
  t_op free _ _ Hc _ _ h (by
    show (match v with | .slice _ _ n _ => some (AV.int .i64 n, Hc) | .empty => some (AV.int .i64 0, Hc) | _ => none) = _
    cases v <;> simp only [lenA, sliceLen, Option.some.injEq, reduceCtorEq] at hl
    · subst hl; rfl
    · subst hl; rfl) hk

theorem t_load (free : Bool) (sz : Option Nat) (b off : Nat) (v : AV) (Hc : Heap) (h : s.ask = some (free, .load sz (.loc 0), [.ptr b off], Hc)) (hl : rload Hc sz b off = some v) (hk : WpT F fl E l0 (s.next fl E v Hc) Q) : WpT F fl E l0 s Q :=
  t_op free _ _ Hc v Hc h (by show (rload Hc sz b off).map _ = _; rw [hl]; rfl) hk

theorem t_idx (free : Bool) (e : Nat) (v : AV) (k : IntKind) (j : Int) (b o : Nat) (Hc : Heap) (h : s.ask = some (free, .indexAddr e (.loc 0) (.loc 1), [v, .int k j], Hc)) (hp : ptrA e v j = some (b, o)) (hk : WpT F fl E l0 (s.next fl E (.ptr b o) Hc) Q) : WpT F fl E l0 s Q :=
  t_op free _ _ Hc _ _ h (by
    cases v <;> simp only [ptrA, reduceCtorEq] at hp
    split at hp
    · rename_i hc
      simp only [Option.some.injEq, Prod.mk.injEq] at hp
      obtain ⟨rfl, rfl⟩ := hp
      exact if_pos hc
    · cases hp) hk

theorem getA_in {H : Heap} {e : Nat} {sz : Option Nat} {v : AV} {j : Int} {o : Nat} {x : AV} (h : getA H e sz v j o = some x) : ∃ b off n lim, v = .slice b off n lim ∧ (0 ≤ j ∧ j < n) ∧ rload H sz b (off + j.toNat * e + o) = some x := by
  cases v <;> simp only [getA, reduceCtorEq] at h
  split at h
  · rename_i hc; exact ⟨_, _, _, _, rfl, hc, h⟩
  · cases h

theorem t_idxG (free : Bool) (e : Nat) (v : AV) (k : IntKind) (j : Int) {sz : Option Nat} {o : Nat} {x : AV} (Hc : Heap) (h : s.ask = some (free, .indexAddr e (.loc 0) (.loc 1), [v, .int k j], Hc)) (hp : getA Hc e sz v j o = some x) (hk : WpT F fl E l0 (s.next fl E (idxP e v j 0) Hc) Q) : WpT F fl E l0 s Q :=
  t_op free _ _ Hc _ _ h (by
    obtain ⟨b, off, n, lim, rfl, hc, _⟩ := getA_in hp
    exact if_pos hc) hk

theorem t_fldG (free : Bool) (off e : Nat) (v : AV) (j : Int) (o : Nat) {sz : Option Nat} {o' : Nat} {x : AV} (Hc : Heap) (h : s.ask = some (free, .fieldAddr off (.loc 0), [idxP e v j o], Hc)) (hp : getA Hc e sz v j o' = some x) (hk : WpT F fl E l0 (s.next fl E (idxP e v j (o + off)) Hc) Q) : WpT F fl E l0 s Q :=
  t_op free _ _ Hc _ _ h (by
    obtain ⟨b, of', n, lim, rfl, hc, _⟩ := getA_in hp
    show some (AV.ptr b (of' + j.toNat * e + o + off), Hc) = some (AV.ptr b (of' + j.toNat * e + (o + off)), Hc)
    rw [Nat.add_assoc]) hk

theorem t_loadG (free : Bool) (sz : Option Nat) (e : Nat) (v : AV) (j : Int) (o : Nat) (x : AV) (Hc : Heap) (h : s.ask = some (free, .load sz (.loc 0), [idxP e v j o], Hc)) (hp : getA Hc e sz v j o = some x) (hk : WpT F fl E l0 (s.next fl E x Hc) Q) : WpT F fl E l0 s Q :=
  t_op free _ _ Hc _ _ h (by
    obtain ⟨b, off, n, lim, rfl, hc, hl⟩ := getA_in hp
    show (rload Hc sz b (off + j.toNat * e + o)).map _ = _
    rw [hl]; rfl) hk

theorem t_store (free : Bool) (n b off : Nat) (v : AV) (H' : Heap) (Hc : Heap) (h : s.ask = some (free, .store n (.loc 0) (.loc 1) [], [.ptr b off, v], Hc)) (hp : putA fl Hc b off n v = some H') (hk : WpT F fl E l0 (s.next fl E .undef H') Q) : WpT F fl E l0 s Q :=
  t_op free _ _ Hc .undef H' h (by
    unfold putA at hp
    show (if v.cells.length = n ∧ true = true then (rput fl Hc b off v.cells).map _ else none) = _
    split at hp
    · rename_i hn
      rw [if_pos ⟨hn, rfl⟩, hp]; rfl
    · cases hp) hk

theorem t_store1 (free : Bool) (n b off : Nat) (v a : AV) (H' : Heap) (Hc : Heap) (h : s.ask = some (free, .store n (.loc 0) (.loc 1) [.loc 2], [.ptr b off, v, a], Hc)) (ha : apartB Hc b [a] = true) (hp : putA fl Hc b off n v = some H') (hk : WpT F fl E l0 (s.next fl E .undef H') Q) : WpT F fl E l0 s Q :=
  t_op free _ _ Hc .undef H' h (by
    unfold putA at hp
    show (if v.cells.length = n ∧ apartB Hc b [a] = true then (rput fl Hc b off v.cells).map _ else none) = _
    split at hp
    · rename_i hn
      rw [if_pos ⟨hn, ha⟩, hp]; rfl
    · cases hp) hk

theorem t_app (free : Bool) (e bytes : Nat) (x y : AV) (v : AV) (H' : Heap) (Hc : Heap) (h : s.ask = some (free, .append e bytes (.loc 0) (.loc 1), [x, y], Hc)) (hp : appA fl free e bytes Hc x y = some (v, H')) (hk : WpT F fl E l0 (s.next fl E v H') Q) : WpT F fl E l0 s Q :=
  t_op free _ _ Hc v H' h hp hk

theorem t_slcH (free : Bool) (e : Nat) (x hi : AV) (v : AV) (Hc : Heap) (h : s.ask = some (free, .slice e (.loc 0) none (some (.loc 1)) none, [x, hi], Hc)) (hp : rslice Hc e x none (some hi) none = some v) (hk : WpT F fl E l0 (s.next fl E v Hc) Q) : WpT F fl E l0 s Q :=
  t_op free _ _ Hc v Hc h (by show (rslice Hc e x none (some hi) none).map _ = _; rw [hp]; rfl) hk
theorem t_quo (free : Bool) (c : EqCls) (k : IntKind) (x y : Int) (Hc : Heap) (h : s.ask = some (free, .bin .quo c (.loc 0) (.loc 1), [.int k x, .int k y], Hc)) (hy : y ≠ 0) (hk : WpT F fl E l0 (s.next fl E (.int k (k.wrap (x.tdiv y))) Hc) Q) : WpT F fl E l0 s Q :=
  t_op free _ _ Hc _ _ h (by
    show ((if isShift .quo then shiftI .quo k x y else if k = k then binI .quo k x y else none).map _) = _
    rw [if_pos rfl]; show (if y = 0 then none else some _).map _ = _; rw [if_neg hy]; rfl) hk
theorem t_rem (free : Bool) (c : EqCls) (k : IntKind) (x y : Int) (Hc : Heap) (h : s.ask = some (free, .bin .rem c (.loc 0) (.loc 1), [.int k x, .int k y], Hc)) (hy : y ≠ 0) (hk : WpT F fl E l0 (s.next fl E (.int k (x.tmod y)) Hc) Q) : WpT F fl E l0 s Q :=
  t_op free _ _ Hc _ _ h (by
    show ((if isShift .rem then shiftI .rem k x y else if k = k then binI .rem k x y else none).map _) = _
    rw [if_pos rfl]; show (if y = 0 then none else some _).map _ = _; rw [if_neg hy]; rfl) hk
theorem t_shl (free : Bool) (c : EqCls) (k k' : IntKind) (x y : Int) (Hc : Heap) (h : s.ask = some (free, .bin .shl c (.loc 0) (.loc 1), [.int k x, .int k' y], Hc)) (hy : 0 ≤ y) (hk : WpT F fl E l0 (s.next fl E (.int k (k.wrap (x * 2 ^ (Min.min y.toNat k.bits)))) Hc) Q) : WpT F fl E l0 s Q :=
  t_op free _ _ Hc _ _ h (by
    show ((shiftI .shl k x y).map _) = _
    unfold shiftI; rw [if_neg (by omega)]; rfl) hk
theorem t_shr (free : Bool) (c : EqCls) (k k' : IntKind) (x y : Int) (Hc : Heap) (h : s.ask = some (free, .bin .shr c (.loc 0) (.loc 1), [.int k x, .int k' y], Hc)) (hy : 0 ≤ y) (hk : WpT F fl E l0 (s.next fl E (.int k (x.fdiv (2 ^ (Min.min y.toNat k.bits)))) Hc) Q) : WpT F fl E l0 s Q :=
  t_op free _ _ Hc _ _ h (by
    show ((shiftI .shr k x y).map _) = _
    unfold shiftI; rw [if_neg (by omega)]; rfl) hk

theorem t_alloc (free : Bool) (e : Nat) (z : List AV) (b : Nat) (H' : Heap) (Hc : Heap) (h : s.ask = some (free, .alloc e z, [], Hc)) (hb : NewB Hc e z b H') (hk : WpT F fl E l0 (s.next fl E (.ptr b 0) H') Q) : WpT F fl E l0 s Q := by
  obtain ⟨rfl, rfl⟩ := hb
  exact t_op free _ _ Hc _ _ h rfl hk

theorem t_tomb (free : Bool) (e : Nat) (x : AV) (cs : List AV) (H' : Heap) (Hc : Heap) (h : s.ask = some (free, .tomb e (.loc 0), [x], Hc)) (hx : x.cells = cs) (hb : Dead1 Hc e H') (hk : WpT F fl E l0 (s.next fl E (.agg cs) H') Q) : WpT F fl E l0 s Q := by
  obtain ⟨rfl⟩ := hb
  subst hx
  exact t_op free _ _ Hc _ _ h rfl hk

theorem t_upd (free : Bool) (n off : Nat) (cs : List AV) (v : AV) (vs cs' : List AV) (Hc : Heap) (h : s.ask = some (free, .upd n off (.loc 0) (.loc 1), [.agg cs, v], Hc)) (hv : v.cells = vs) (hs : vs.all AV.scalar = true) (hn : vs.length = n ∧ off + vs.length ≤ cs.length ∧ splice cs off vs = cs')
    (hk : WpT F fl E l0 (s.next fl E (.agg cs') Hc) Q) : WpT F fl E l0 s Q :=
  t_op free _ _ Hc _ _ h (by
    show (if v.cells.length = n ∧ off + v.cells.length ≤ cs.length ∧ v.cells.all AV.scalar = true then some (AV.agg (splice cs off v.cells), Hc) else none) = _
    rw [hv, if_pos ⟨hn.1, hn.2.1, hs⟩, hn.2.2]) hk

theorem t_build (free : Bool) (z : List AV) (ps : List (Nat × Nat × RX)) (vals : List AV) (cs : List AV) (Hc : Heap) (h : s.ask = some (free, .build z ps, vals, Hc)) (hf : fillV z (ps.map fun p => (p.1, p.2.1, RX.ev vals [] p.2.2)) = some cs) (hk : WpT F fl E l0 (s.next fl E (.agg cs) Hc) Q) : WpT F fl E l0 s Q :=
  t_op free _ _ Hc _ _ h (by simp only [rop, hf, Option.map_some]) hk

theorem t_bs (free : Bool) (e : Nat) (z : List AV) (ps : List (Nat × Nat × RX)) (n : Nat) (vals : List AV) (cs : List AV) (b : Nat) (H' : Heap) (Hc : Heap) (h : s.ask = some (free, .buildSlice e z ps n, vals, Hc)) (hf : fillV (zeros n z) (ps.map fun p => (p.1, p.2.1, RX.ev vals [] p.2.2)) = some cs)
    (hb : NewB Hc e cs b H') (hk : WpT F fl E l0 (s.next fl E (.slice b 0 n (some n)) H') Q) : WpT F fl E l0 s Q := by
  obtain ⟨rfl, rfl⟩ := hb
  exact t_op free _ _ Hc _ _ h (by simp only [rop, hf, Option.map_some]) hk

theorem fill_c {cells : List AV} {off size : Nat} {v : AV} {vs : List AV} {rest : List (Nat × Nat × AV)} {r : Option (List AV)} (hv : v.cells = vs) (hs : vs.length = size) (ho : Nat.ble (off + size) cells.length = true) (h : fillV (splice cells off vs) rest = r) : fillV cells ((off, size, v) :: rest) = r := by
  rw [fillV, hv, if_pos ⟨hs, Nat.le_of_ble_eq_true ho⟩, h]

theorem all_n : ([] : List AV).all AV.scalar = true := rfl
theorem all_c {a : AV} {l : List AV} (h : a.scalar = true) (hl : l.all AV.scalar = true) : (a :: l).all AV.scalar = true := by rw [List.all_cons, h, hl]; rfl

/-- A truth value says a proposition. -/
structure Is (t : Bool) (P : Prop) : Prop where
  iff : t = true ↔ P
theorem Is.t {t : Bool} {P : Prop} (h : Is t P) (ht : t = true) : P := h.iff.1 ht
theorem Is.f {t : Bool} {P : Prop} (h : Is t P) (ht : t = false) : ¬P := fun hp => by rw [h.iff.2 hp] at ht; cases ht
theorem is_dec {P : Prop} [Decidable P] : Is (decide P) P := ⟨decide_eq_true_iff⟩
theorem is_not {t : Bool} {P : Prop} (h : Is t P) : Is (!t) (¬P) := ⟨by cases t <;> simp [← h.iff]⟩
theorem is_and {t u : Bool} {P R : Prop} (h : Is t P) (g : Is u R) : Is (t && u) (P ∧ R) := ⟨by simp [← h.iff, ← g.iff]⟩
theorem is_or {t u : Bool} {P R : Prop} (h : Is t P) (g : Is u R) : Is (t || u) (P ∨ R) := ⟨by simp [← h.iff, ← g.iff]⟩
theorem is_eq {a b : Int} : Is (a == b) (a = b) := ⟨by simp⟩
theorem is_ne {a b : Int} : Is (a != b) (a ≠ b) := ⟨by simp⟩
theorem is_raw {t : Bool} : Is t (t = true) := ⟨Iff.rfl⟩
theorem is_true : Is true True := ⟨by simp⟩
def imin (a b : Int) : Int := if b < a then b else a
theorem imin_eq (a b : Int) : imin a b = min a b := by unfold imin; omega
/-- Where a list ends, on its way through loops and blocks. -/
theorem then_norm {b : RCode} {E : List AV} {H : Heap} (h : Wp F fl b E H Q) : thenQ F fl b Q .normal E H := h
theorem then_exit {b : RCode} {id : Nat} {E : List AV} {H : Heap} (h : Q (.exit id) E H) : thenQ F fl b Q (.exit id) E H := h
theorem then_ret {b : RCode} {E : List AV} {H : Heap} (h : Q .ret E H) : thenQ F fl b Q .ret E H := h
theorem block_norm {id : Nat} {E : List AV} {H : Heap} (h : Q .normal E H) : blockQ id Q .normal E H := h
theorem block_ret {id : Nat} {E : List AV} {H : Heap} (h : Q .ret E H) : blockQ id Q .ret E H := h
theorem block_exit {id : Nat} {E : List AV} {H : Heap} (h : Q .normal E H) : blockQ id Q (.exit id) E H := by simp only [blockQ, if_true]; exact h
theorem loop_norm {I : Nat → List AV → Heap → Prop} {k : Nat} {E : List AV} {H : Heap} (h : ∃ k', k' < k ∧ I k' E H) : loopQ I k Q .normal E H := h
theorem loop_exit {I : Nat → List AV → Heap → Prop} {k id : Nat} {E : List AV} {H : Heap} (h : Q (.exit id) E H) : loopQ I k Q (.exit id) E H := h
theorem loop_ret {I : Nat → List AV → Heap → Prop} {k : Nat} {E : List AV} {H : Heap} (h : Q .ret E H) : loopQ I k Q .ret E H := h
/-- An assertion where several ways meet. -/
def joinQ (R : List AV → Heap → Prop) (Q : Out → List AV → Heap → Prop) : Out → List AV → Heap → Prop
  | .normal, E, H => R E H
  | o, E, H => Q o E H
theorem w_join (R : List AV → Heap → Prop) {c : RCode} {E : List AV} {H : Heap} (h1 : Wp F fl c E H (joinQ R Q)) (h2 : ∀ E H, R E H → Q .normal E H) : Wp F fl c E H Q :=
  h1.mono fun o E' H' h => by
    cases o with
    | normal => exact h2 _ _ h
    | exit id => exact h
    | ret => exact h
theorem join_norm {R : List AV → Heap → Prop} {E : List AV} {H : Heap} (h : R E H) : joinQ R Q .normal E H := h
theorem join_ret {R : List AV → Heap → Prop} {E : List AV} {H : Heap} (h : Q .ret E H) : joinQ R Q .ret E H := h
theorem body_ret {rf : RFunc} {E : List AV} {H : Heap} {Q : AV → Heap → Prop} {vs : List AV} (v : AV) (h : resAll E H rf.res = some vs) (hv : resVal vs = v) (hq : Q v H) : bodyQ rf Q .ret E H := ⟨vs, h, by rw [hv]; exact hq⟩
theorem body_norm {rf : RFunc} {E : List AV} {H : Heap} {Q : AV → Heap → Prop} {vs : List AV} (v : AV) (h : resAll E H rf.res = some vs) (hv : resVal vs = v) (hq : Q v H) : bodyQ rf Q .normal E H := ⟨vs, h, by rw [hv]; exact hq⟩

end
end
end Go.RM

/-
  A function's results, some of them out of the heap.
-/
namespace Go.RM
theorem res_n {E : List AV} {H : Heap} : resAll E H [] = some [] := rfl
theorem res_c {E : List AV} {H : Heap} {r : RRes} {l : List RRes} {v : AV} {vs : List AV} (h : resOf E H r = some v) (hl : resAll E H l = some vs) : resAll E H (r :: l) = some (v :: vs) := by
  rw [resAll, h, hl]; rfl
end Go.RM

