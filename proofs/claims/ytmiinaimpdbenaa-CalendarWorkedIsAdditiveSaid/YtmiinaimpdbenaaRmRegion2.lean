/-
  A region: what one operation that is not solid does to the heap.
-/
import Derived.Test.YtmiinaimpdbenaaRmRegion1
namespace Go.RM
set_option linter.unusedSimpArgs false

def kindOk (op : Op) : ROp → Bool
  | .store .. => isStore op
  | .copy .. => mustWrite op
  | .clear .. => mustWrite op
  | .call .. => isCallOp op
  | .callS .. => isCallOp op
  | .append .. => isAppendOp op
  | .load .. => isLoad op
  | _ => true

theorem compile_kind {P : Program} {res : Operand → Option RX} {ap : List RX} {op : Op} {r : ROp} (hc : compileOp P res ap op = some r) : kindOk op r = true := by
  cases op with
  | call c =>
    obtain ⟨cal, args, ts⟩ := c
    cases cal with
    | value f =>
      cases f <;> simp only [compileOp] at hc
      all_goals
        repeat' (first | (simp only [reduceCtorEq] at hc; done) | (simp only [Option.some.injEq] at hc; subst hc; rfl) | (simp only [Option.map_eq_some_iff] at hc; obtain ⟨_, _, rfl⟩ := hc; rfl) | (split at hc))
    | invoke a b => simp [compileOp] at hc
    | builtin b =>
      simp only [compileOp] at hc
      cases b <;> simp only [compileBuiltin] at hc
      all_goals
        repeat' (first | (simp only [reduceCtorEq] at hc; done) | (simp only [Option.some.injEq] at hc; subst hc; rfl) | (simp only [Option.map_eq_some_iff] at hc; obtain ⟨_, _, rfl⟩ := hc; rfl) | (split at hc))
      all_goals simp_all
  | makeFunc f a b =>
    cases f <;> simp only [compileOp, reduceCtorEq] at hc
    split at hc
    · simp only [Option.map_eq_some_iff] at hc; obtain ⟨_, _, rfl⟩ := hc; rfl
    · simp at hc
  | _ =>
    simp only [compileOp, reduceCtorEq] at hc
    all_goals
      repeat' (first | (simp only [reduceCtorEq] at hc; done) | (simp only [Option.some.injEq] at hc; subst hc; rfl) | (simp only [Option.map_eq_some_iff] at hc; obtain ⟨_, _, rfl⟩ := hc; rfl) | (split at hc))

theorem NS.refl (H : Heap) : NS H H := ⟨Nat.le_refl _, fun _ _ => .inl rfl⟩
theorem NS.push (H : Heap) (k : Blk) : NS H (H ++ [k]) := ⟨by simp, fun b hb => .inl (by rw [List.getElem?_append_left hb])⟩

theorem ns_append {fl e bytes : Nat} {H H' : Heap} {s v : AV} {k : Nat} {xs : List AV} (h : rappend fl false e bytes H s k xs = some (v, H')) : NS H H' := by
  unfold rappend at h
  split at h
  · split at h
    · simp only [Option.some.injEq, Prod.mk.injEq] at h; obtain ⟨_, rfl⟩ := h; exact NS.refl _
    · simp only [Option.some.injEq, Prod.mk.injEq] at h; obtain ⟨_, rfl⟩ := h; exact NS.refl _
    · simp at h
  · split at h
    · split at h
      · simp only [Option.some.injEq, Prod.mk.injEq] at h; obtain ⟨_, rfl⟩ := h; exact NS.push _ _
      · simp at h
    · rename_i bb off nn lim
      split at h
      · simp at h
      · rename_i blk hact
        have hg := act_get hact
        split at h
        · split at h
          · rename_i hlive
            split at h
            · split at h
              · simp at h
              · simp only [Option.some.injEq, Prod.mk.injEq] at h; obtain ⟨_, rfl⟩ := h; exact NS.push _ _
            · split at h
              · unfold rappendTop at h
                split at h
                · simp only [Option.some.injEq, Prod.mk.injEq] at h
                  obtain ⟨_, rfl⟩ := h
                  refine ⟨by simp, fun b hb => ?_⟩
                  rw [List.getElem?_append_left (by simpa using hb)]
                  by_cases e : b = bb
                  · subst e
                    right
                    rw [List.getElem?_set_self hb]
                    exact ⟨blk, hg, hlive, rfl⟩
                  · left; rw [List.getElem?_set_ne (by omega)]
                · simp at h
              · simp at h
          · split at h
            · simp at h
            · simp at h
        · simp at h
    · simp at h

theorem rop_ns {call : Nat → Nat → List AV → Heap → Option (AV × Heap)} (hcall : CallFacts call) {fl : Nat} {X : RX → AV} {H H' : Heap} {r : ROp} {v : AV} {op : Op} {free : Bool} (hk : kindOk op r = true)
    (hs : (isStore op || mustWrite op || ((isCallOp op || isAppendOp op) && free)) = false) (h : rop call fl free X H r = some (v, H')) : NS H H' := by
  simp only [Bool.or_eq_false_iff, Bool.and_eq_false_iff] at hs
  obtain ⟨⟨hs1, hs2⟩, hs3⟩ := hs
  by_cases hp : pureR r = true
  · rw [(rop_pure hp h).1]; exact NS.refl _
  · cases r <;> simp only [pureR, not_true_eq_false] at hp <;> simp only [kindOk] at hk
    case alloc => simp only [rop, Option.some.injEq, Prod.mk.injEq] at h; obtain ⟨_, rfl⟩ := h; exact NS.push _ _
    case box => simp only [rop, Option.some.injEq, Prod.mk.injEq] at h; obtain ⟨_, rfl⟩ := h; exact NS.push _ _
    case buildSlice => simp only [rop, Option.map_eq_some_iff, Prod.mk.injEq] at h; obtain ⟨_, _, _, rfl⟩ := h; exact NS.push _ _
    case load =>
      simp only [rop] at h
      split at h
      · simp only [Option.map_eq_some_iff, Prod.mk.injEq] at h; obtain ⟨_, _, _, rfl⟩ := h; exact NS.refl _
      · simp at h
    case store => rw [hk] at hs1; simp at hs1
    case makeSlice =>
      simp only [rop] at h
      split at h
      · split at h
        · simp only [Option.some.injEq, Prod.mk.injEq] at h; obtain ⟨_, rfl⟩ := h; exact NS.push _ _
        · simp at h
      · simp at h
    case call f args =>
      have hfree : free = false := by rcases hs3 with ⟨h1, _⟩ | h1; · rw [hk] at h1; simp at h1
                                      · exact h1
      subst hfree
      simp only [rop] at h
      split at h
      · have := hcall _ _ _ _ _ _ h
        exact ⟨this.len, fun b hb => .inl (this.low b (by simpa using hb) hb)⟩
      · simp at h
    case callS f args =>
      have hfree : free = false := by rcases hs3 with ⟨h1, _⟩ | h1; · rw [hk] at h1; simp at h1
                                      · exact h1
      subst hfree
      simp only [rop] at h
      have := hcall _ _ _ _ _ _ h
      exact ⟨this.len, fun b hb => .inl (this.low b (by simpa using hb) hb)⟩
    case append e by' x y =>
      have hfree : free = false := by rcases hs3 with ⟨_, h1⟩ | h1; · rw [hk] at h1; simp at h1
                                      · exact h1
      subst hfree
      simp only [rop] at h
      split at h
      · simp only [Option.bind_eq_some_iff] at h
        obtain ⟨_, _, h⟩ := h
        exact ns_append h
      · simp at h
    case tomb => simp only [rop, Option.some.injEq, Prod.mk.injEq] at h; obtain ⟨_, rfl⟩ := h; exact NS.push _ _
    case copy => rw [hk] at hs2; simp at hs2
    case clear => rw [hk] at hs2; simp at hs2

end Go.RM
