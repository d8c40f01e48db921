/-
  Lists of operations, run by the kernel up to their calls and to what has conditions.
-/
import Derived.Test.YtmiinaimpdbenaaRmWp
namespace Go.RM
set_option linter.unusedSimpArgs false
set_option linter.unusedVariables false

inductive Stop where
  | done (L : List AV) (H : Heap)
  | call (free : Bool) (f : Nat) (args : List AV) (H : Heap) (l : List ROper) (L : List AV)
  | op (free : Bool) (r : ROp) (vals : List AV) (H : Heap) (l : List ROper) (L : List AV)
  | fail

/-- Operations that have conditions, with their operands named by number. -/
def stops : ROp → Option (ROp × List RX)
  | .bin op c x y => (match op with | .quo => some (.bin op c (.loc 0) (.loc 1), [x, y]) | .rem => some (.bin op c (.loc 0) (.loc 1), [x, y]) | .shl => some (.bin op c (.loc 0) (.loc 1), [x, y]) | .shr => some (.bin op c (.loc 0) (.loc 1), [x, y]) | _ => none)
  | .makeSlice e b z x y => some (.makeSlice e b z (.loc 0) (.loc 1), [x, y])
  | .indexAddr e x i => some (.indexAddr e (.loc 0) (.loc 1), [x, i])
  | .indexArr n e x i => some (.indexArr n e (.loc 0) (.loc 1), [x, i])
  | .indexStr x i => some (.indexStr (.loc 0) (.loc 1), [x, i])
  | .load sz x => some (.load sz (.loc 0), [x])
  | .store n x v [] => some (.store n (.loc 0) (.loc 1) [], [x, v])
  | .store n x v [a] => some (.store n (.loc 0) (.loc 1) [.loc 2], [x, v, a])
  | .slice e x none none none => some (.slice e (.loc 0) none none none, [x])
  | .slice e x (some a) none none => some (.slice e (.loc 0) (some (.loc 1)) none none, [x, a])
  | .slice e x none (some b) none => some (.slice e (.loc 0) none (some (.loc 1)) none, [x, b])
  | .slice e x (some a) (some b) none => some (.slice e (.loc 0) (some (.loc 1)) (some (.loc 2)) none, [x, a, b])
  | .slice e x none (some b) (some c) => some (.slice e (.loc 0) none (some (.loc 1)) (some (.loc 2)), [x, b, c])
  | .sliceStr x none none => some (.sliceStr (.loc 0) none none, [x])
  | .sliceStr x (some a) none => some (.sliceStr (.loc 0) (some (.loc 1)) none, [x, a])
  | .sliceStr x none (some b) => some (.sliceStr (.loc 0) none (some (.loc 1)), [x, b])
  | .sliceStr x (some a) (some b) => some (.sliceStr (.loc 0) (some (.loc 1)) (some (.loc 2)), [x, a, b])
  | .append e b x y => some (.append e b (.loc 0) (.loc 1), [x, y])
  | .copy e x y => some (.copy e (.loc 0) (.loc 1), [x, y])
  | .clear e z x => some (.clear e z (.loc 0), [x])
  | .fieldAddr off x => some (.fieldAddr off (.loc 0), [x])
  | _ => none

theorem stops_eq {call : Nat → Nat → List AV → Heap → Option (AV × Heap)} {fl : Nat} {free : Bool} {X : RX → AV} {H : Heap} {r r' : ROp} {xs : List RX} (h : stops r = some (r', xs)) :
    rop call fl free X H r = rop call fl free (RX.ev (xs.map X) []) H r' := by
  unfold stops at h
  split at h
  case h_1 => split at h <;> simp only [Option.some.injEq, Prod.mk.injEq, reduceCtorEq] at h <;> (obtain ⟨rfl, rfl⟩ := h; rfl)
  all_goals simp only [Option.some.injEq, Prod.mk.injEq, reduceCtorEq] at h
  all_goals (obtain ⟨rfl, rfl⟩ := h; rfl)

def upto (fl : Nat) (E : List AV) : List ROper → List AV → Heap → Stop
  | [], L, H => .done L H
  | o :: l, L, H =>
    match wantedB o.guard L with
    | true =>
      match o.op with
      | .callS f args => .call o.free f (args.map (RX.ev L E)) H l L
      | .call x args => (match RX.ev L E x with | .func f caps => .call o.free f (args.map (RX.ev L E) ++ caps) H l L | _ => .fail)
      | op =>
        match stops op with
        | some (r, xs) => .op o.free r (xs.map (RX.ev L E)) H l L
        | none => (match rop noCall fl o.free (RX.ev L E) H op with | some (v, H') => upto fl E l (L ++ [v]) H' | none => .fail)
    | false => upto fl E l (L ++ [.undef]) H

def Stop.env (l0 : List ROper) (E : List AV) : Stop → Option (List AV × Heap)
  | .done L H => some (putAll l0 L E, H)
  | _ => none
def Stop.head : Stop → Option (Bool × Nat × List AV × Heap)
  | .call free f args H _ _ => some (free, f, args, H)
  | _ => none
def Stop.ask : Stop → Option (ROp × List AV × Heap)
  | .op _ r vals H _ _ => some (r, vals, H)
  | _ => none
def Stop.free : Stop → Bool
  | .op free _ _ _ _ _ => free
  | _ => false
def Stop.next (fl : Nat) (E : List AV) (s : Stop) (v : AV) (H' : Heap) : Stop :=
  match s with
  | .call _ _ _ _ l L => upto fl E l (L ++ [v]) H'
  | .op _ _ _ _ l L => upto fl E l (L ++ [v]) H'
  | _ => .fail

section
variable {F : Nat → Option RFunc} {fl : Nat} {E : List AV}

def WpS0 (F : Nat → Option RFunc) (fl : Nat) (E : List AV) (l0 : List ROper) (s : Stop) (Q : Out → List AV → Heap → Prop) : Prop :=
  match s with
  | .done L H => Q .normal (putAll l0 L E) H
  | .call free f args H l L => RetO F fl free f args H E l L fun L H' => Q .normal (putAll l0 L E) H'
  | .op free r vals H l L => ∃ v H', rop noCall fl free (RX.ev vals []) H r = some (v, H') ∧ WpR F fl E l (L ++ [v]) H' fun L H' => Q .normal (putAll l0 L E) H'
  | .fail => False

/-- Sealed, so that nobody but the kernel runs the list. -/
structure WpS (F : Nat → Option RFunc) (fl : Nat) (E : List AV) (l0 : List ROper) (s : Stop) (Q : Out → List AV → Heap → Prop) : Prop where
  out : WpS0 F fl E l0 s Q

theorem wpS_of' {l0 : List ROper} {Q : Out → List AV → Heap → Prop} : ∀ {l : List ROper} {L : List AV} {H : Heap}, WpS0 F fl E l0 (upto fl E l L H) Q → WpR F fl E l L H fun L H' => Q .normal (putAll l0 L E) H'
  | [], L, H, h => wpR_nil.2 h
  | o :: l, L, H, h => by
    obtain ⟨op, g, d, free⟩ := o
    unfold upto at h
    simp only at h
    split at h
    · rename_i hw
      split at h
      · exact wpR_call hw h
      · split at h
        · rename_i hx; exact wpR_callV hw hx h
        · exact h.elim
      · split at h
        · rename_i hst
          obtain ⟨v, H', h1, h2⟩ := h
          exact wpR_op hw (by rw [stops_eq hst]; exact h1) h2
        · split at h
          · rename_i hr; exact wpR_op hw hr (wpS_of' h)
          · exact h.elim
    · rename_i hw
      exact wpR_skip hw (wpS_of' h)

theorem wpS_of {l0 : List ROper} {Q : Out → List AV → Heap → Prop} {l : List ROper} {L : List AV} {H : Heap} (h : WpS F fl E l0 (upto fl E l L H) Q) : WpR F fl E l L H fun L H' => Q .normal (putAll l0 L E) H' := wpS_of' h.out

theorem wpS_next {l0 l : List ROper} {Q : Out → List AV → Heap → Prop} {L : List AV} {H : Heap} (h : WpS F fl E l0 (upto fl E l L H) Q) : WpR F fl E l L H fun L H' => Q .normal (putAll l0 L E) H' := wpS_of' h.out

theorem exit_here {id : Nat} {E : List AV} {H : Heap} {Q : Out → List AV → Heap → Prop} (h : Q .normal E H) : blockQ id Q (.exit id) E H := by simp only [blockQ, if_true]; exact h

theorem w_list {l : List ROper} {H : Heap} {Q : Out → List AV → Heap → Prop} (h : WpS F fl E l (upto fl E l [] H) Q) : Wp F fl (.ops l) E H Q := w_ops (wpS_of h)

theorem s_done {l0 : List ROper} {s : Stop} {Q : Out → List AV → Heap → Prop} (E' : List AV) (H' : Heap) (h : s.env l0 E = some (E', H')) (hq : Q .normal E' H') : WpS F fl E l0 s Q := by
  cases s <;> simp only [Stop.env, Option.some.injEq, Prod.mk.injEq, reduceCtorEq] at h
  obtain ⟨rfl, rfl⟩ := h
  exact ⟨hq⟩

theorem s_call {l0 : List ROper} {s : Stop} {Q : Out → List AV → Heap → Prop} {R : AV → Heap → Prop} (free : Bool) (f : Nat) (args : List AV) (Hc : Heap) (h : s.head = some (free, f, args, Hc)) (hr : Ret F (if free then fl else Hc.length) f args Hc R)
    (hk : ∀ v H', R v H' → WpS F fl E l0 (s.next fl E v H') Q) : WpS F fl E l0 s Q := by
  cases s <;> simp only [Stop.head, Option.some.injEq, Prod.mk.injEq, reduceCtorEq] at h
  obtain ⟨rfl, rfl, rfl, rfl⟩ := h
  exact ⟨hr.mono fun v H' h => wpS_of (hk v H' h)⟩

theorem s_op {l0 : List ROper} {s : Stop} {Q : Out → List AV → Heap → Prop} (r : ROp) (vals : List AV) (Hc : Heap) (v : AV) (H' : Heap) (h : s.ask = some (r, vals, Hc)) (hr : rop noCall fl s.free (RX.ev vals []) Hc r = some (v, H'))
    (hk : WpS F fl E l0 (s.next fl E v H') Q) : WpS F fl E l0 s Q := by
  cases s <;> simp only [Stop.ask, Option.some.injEq, Prod.mk.injEq, reduceCtorEq] at h
  obtain ⟨rfl, rfl, rfl⟩ := h
  exact ⟨⟨v, H', hr, wpS_of hk⟩⟩

theorem w_done {l : List ROper} {H : Heap} {Q : Out → List AV → Heap → Prop} (E' : List AV) (H' : Heap) (h : (upto fl E l [] H).env l E = some (E', H')) (hq : Q .normal E' H') : Wp F fl (.ops l) E H Q := w_list (s_done E' H' h hq)

/-! ### The operations that have conditions -/

theorem s_index {l0 : List ROper} {s : Stop} {Q : Out → List AV → Heap → Prop} (e b off n : Nat) (lim : Option Nat) (k : IntKind) (j : Int) (Hc : Heap) (h : s.ask = some (.indexAddr e (.loc 0) (.loc 1), [.slice b off n lim, .int k j], Hc)) (hj : 0 ≤ j ∧ j < n)
    (hk : WpS F fl E l0 (s.next fl E (.ptr b (off + j.toNat * e)) Hc) Q) : WpS F fl E l0 s Q := s_op _ _ Hc _ _ h (if_pos hj) hk

theorem s_load {l0 : List ROper} {s : Stop} {Q : Out → List AV → Heap → Prop} (sz : Option Nat) (b off : Nat) (v : AV) (Hc : Heap) (h : s.ask = some (.load sz (.loc 0), [.ptr b off], Hc)) (hl : rload Hc sz b off = some v)
    (hk : WpS F fl E l0 (s.next fl E v Hc) Q) : WpS F fl E l0 s Q := s_op _ _ Hc v Hc h (by show (rload Hc sz b off).map _ = _; rw [hl]; rfl) hk

theorem s_store {l0 : List ROper} {s : Stop} {Q : Out → List AV → Heap → Prop} (n b off : Nat) (v : AV) (H' : Heap) (Hc : Heap) (h : s.ask = some (.store n (.loc 0) (.loc 1) [], [.ptr b off, v], Hc)) (hn : v.cells.length = n) (hp : rput fl Hc b off v.cells = some H')
    (hk : WpS F fl E l0 (s.next fl E .undef H') Q) : WpS F fl E l0 s Q := s_op _ _ Hc .undef H' h (by show (if v.cells.length = n ∧ true = true then (rput fl Hc b off v.cells).map _ else none) = _; rw [if_pos ⟨hn, rfl⟩, hp]; rfl) hk

theorem s_quo {l0 : List ROper} {s : Stop} {Q : Out → List AV → Heap → Prop} (c : EqCls) (k : IntKind) (x y : Int) (Hc : Heap) (h : s.ask = some (.bin .quo c (.loc 0) (.loc 1), [.int k x, .int k y], Hc)) (hy : y ≠ 0)
    (hk : WpS F fl E l0 (s.next fl E (.int k (k.wrap (x.tdiv y))) Hc) Q) : WpS F fl E l0 s Q := s_op _ _ Hc _ _ h (by
      show ((if isShift .quo then shiftI .quo k x y else if k = k then binI .quo k x y else none).map _) = _
      rw [if_pos rfl]; show (if y = 0 then none else some _).map _ = _; rw [if_neg hy]; rfl) hk

theorem s_rem {l0 : List ROper} {s : Stop} {Q : Out → List AV → Heap → Prop} (c : EqCls) (k : IntKind) (x y : Int) (Hc : Heap) (h : s.ask = some (.bin .rem c (.loc 0) (.loc 1), [.int k x, .int k y], Hc)) (hy : y ≠ 0)
    (hk : WpS F fl E l0 (s.next fl E (.int k (x.tmod y)) Hc) Q) : WpS F fl E l0 s Q := s_op _ _ Hc _ _ h (by
      show ((if isShift .rem then shiftI .rem k x y else if k = k then binI .rem k x y else none).map _) = _
      rw [if_pos rfl]; show (if y = 0 then none else some _).map _ = _; rw [if_neg hy]; rfl) hk

theorem s_make {l0 : List ROper} {s : Stop} {Q : Out → List AV → Heap → Prop} (e bytes : Nat) (z : List AV) (l c : Int) (Hc : Heap) (h : s.ask = some (.makeSlice e bytes z (.loc 0) (.loc 1), [.int .i64 l, .int .i64 c], Hc)) (hc : 0 ≤ l ∧ l ≤ c ∧ bytes * c ≤ 2 ^ 47 ∧ c < 2 ^ 62)
    (hk : WpS F fl E l0 (s.next fl E (.slice Hc.length 0 l.toNat (some c.toNat)) (Hc ++ [{ cells := zeros c.toNat z, e }])) Q) : WpS F fl E l0 s Q := s_op _ _ Hc _ _ h (if_pos hc) hk

end
end Go.RM
