/-
  All operations: those that leave the heap alone, and the others; calls enter their function.
-/
import Derived.Test.YtmiinaimpdbenaaRmFacts
namespace Go.RM
set_option linter.unusedSimpArgs false

variable {P : Program}

section
variable {ρ : Operand → Value} {o : Oper} {n0 base fl : Nat} {m : BMap} {H H' : Heap} {w : World} {X : RX → AV} {res : Operand → Option RX} {r : ROp} {v : AV} {call : Nat → Nat → List AV → Heap → Option (AV × Heap)} {free : Bool} {ap : List RX}

def isCallOp : Op → Bool
  | .call { callee := .builtin _, .. } => false
  | .call _ => true
  | _ => false

def isAppendOp : Op → Bool
  | .call { callee := .builtin .append, .. } => true
  | _ => false

theorem op_sound (hc : compileOp P res ap o.op = some r) (hr : rop call fl free X H r = some (v, H')) (hX : ∀ x rx, res x = some rx → VRel m (X rx) (ρ x)) (hXk : ∀ v, X (.k v) = v)
    (hs : Sim n0 base m H w) (hfl : n0 ≤ fl) (hn : H.length < H'.length → m H.length = none) (hcl : isCallOp o.op = false) : OpOk P ρ o n0 base fl m H w v H' := by
  cases ho : o.op with
  | move x => rw [ho] at hc; exact op_move (.inl ho) hc hr hX hs
  | assign x => rw [ho] at hc; exact op_move (.inr ho) hc hr hX hs
  | pick a b c => rw [ho] at hc; exact op_pick ho hc hr hX hs
  | alloc t =>
    rw [ho] at hc
    simp only [compileOp, Option.map_eq_some_iff] at hc
    obtain ⟨z, hz, rfl⟩ := hc
    simp only [rop, Option.some.injEq, Prod.mk.injEq] at hr
    obtain ⟨rfl, rfl⟩ := hr
    exact op_alloc ho hz hs (hn (by simp)) _
  | box t x =>
    rw [ho] at hc
    simp only [compileOp, Option.map_eq_some_iff] at hc
    obtain ⟨rx, h1, rfl⟩ := hc
    simp only [rop, Option.some.injEq, Prod.mk.injEq] at hr
    obtain ⟨rfl, rfl⟩ := hr
    exact op_box ho (hX _ _ h1) hs (hn (by simp)) _
  | build t ps => rw [ho] at hc; exact op_build ho hc hr hX hs
  | buildSlice t n ps =>
    rw [ho] at hc
    have : H.length < H'.length := by
      simp only [compileOp] at hc
      split at hc
      · split at hc
        · split at hc
          · simp only [Option.some.injEq] at hc; subst hc
            simp only [rop, Option.map_eq_some_iff, Prod.mk.injEq] at hr
            obtain ⟨_, _, _, rfl⟩ := hr; simp
          · simp at hc
        · simp at hc
      · simp at hc
    exact op_buildSlice ho hc hr hX hs (hn this)
  | load t x => rw [ho] at hc; exact op_load ho hc hr hX hs
  | store t x y => rw [ho] at hc; exact op_store ho hc hr hX hs hfl
  | nilCheck x => rw [ho] at hc; exact op_nilCheck ho hc hr hX hs
  | binOp op t x y t2 => rw [ho] at hc; exact op_bin ho hc hr hX hs
  | unOp op t x => rw [ho] at hc; exact op_un ho hc hr hX hs
  | convert t u x => rw [ho] at hc; exact op_convert ho hc hr hX hs
  | makeFunc f a b => rw [ho] at hc; exact op_makeFunc ho hc hr hX hs
  | makeSlice t x y =>
    rw [ho] at hc
    have : H.length < H'.length := by
      simp only [compileOp] at hc
      split at hc
      · split at hc
        · split at hc
          · simp only [Option.some.injEq] at hc; subst hc
            simp only [rop] at hr
            split at hr
            · split at hr
              · simp only [Option.some.injEq, Prod.mk.injEq] at hr
                obtain ⟨_, rfl⟩ := hr; simp
              · simp at hr
            · simp at hr
          · simp at hc
        · simp at hc
      · simp at hc
    exact op_makeSlice ho hc hr hX hs (hn this)
  | slice t x a b c => rw [ho] at hc; exact op_slice ho hc hr hX hs
  | fieldAddr t x i => rw [ho] at hc; exact op_fieldAddr ho hc hr hX hs
  | field t x i => rw [ho] at hc; exact op_field ho hc hr hX hs
  | indexAddr t x i => rw [ho] at hc; exact op_indexAddr ho hc hr hX hs
  | index t x i => rw [ho] at hc; exact op_index ho hc hr hX hs
  | extract x i => rw [ho] at hc; exact op_extract ho hc hr hX hs
  | call c =>
    rw [ho] at hc hcl
    simp only [compileOp] at hc
    cases hcal : c.callee with
    | value f => obtain ⟨cal, args, ts⟩ := c; simp only at hcal; subst hcal; simp [isCallOp] at hcl
    | invoke a b => rw [hcal] at hc; simp at hc
    | builtin b =>
      rw [hcal] at hc
      simp only at hc
      cases b with
      | len => exact op_len ho hcal hc hr hX hXk hs
      | min => exact op_min ho hcal hc hr hX hs
      | max => exact op_max ho hcal hc hr hX hs
      | copy => exact op_copy ho hcal hc hr hX hs hfl
      | clear => exact op_clear ho hcal hc hr hX hs hfl
      | append =>
        obtain ⟨v', w', h1, h2⟩ := op_append ho hcal hc hr hX hs hfl
        obtain ⟨m', h3, h4⟩ := app_step h2 hs hfl hn
        exact ⟨v', w', m', .inl h1, h3, h4⟩
      | _ => simp [compileBuiltin] at hc
  | _ => rw [ho] at hc; simp [compileOp] at hc

/-- The operations of the abstract machine that only look at what is in the temporaries. -/
def pureR : ROp → Bool
  | .alloc .. => false
  | .box .. => false
  | .buildSlice .. => false
  | .load .. => false
  | .store .. => false
  | .makeSlice .. => false
  | .call .. => false
  | .callS .. => false
  | .append .. => false
  | .copy .. => false
  | .clear .. => false
  | .tomb .. => false
  | _ => true

theorem rop_pure (hp : pureR r = true) (h : rop call fl free X H r = some (v, H')) : H' = H ∧ ∀ H2 : Heap, (∀ b : Nat, (H2[b]?).map (·.e) = (H[b]?).map (·.e)) → rop call fl free X H2 r = some (v, H2) := by
  cases r <;> simp only [pureR, Bool.false_eq_true] at hp <;> simp only [rop, reduceCtorEq] at h
  case slice e x lo hi mx =>
    simp only [Option.map_eq_some_iff, Prod.mk.injEq] at h
    obtain ⟨v0, hv, rfl, rfl⟩ := h
    refine ⟨rfl, fun H2 hH => ?_⟩
    simp only [rop, Option.map_eq_some_iff, Prod.mk.injEq]
    refine ⟨v0, ?_, by simp⟩
    unfold rslice at hv ⊢
    simp only [hH]
    exact hv
  all_goals
    first
    | (simp only [Option.some.injEq, Prod.mk.injEq] at h
       obtain ⟨rfl, rfl⟩ := h
       exact ⟨rfl, fun H2 _ => by simp only [rop]⟩)
    | (simp only [Option.map_eq_some_iff, Prod.mk.injEq] at h
       obtain ⟨v0, hv, rfl, rfl⟩ := h
       exact ⟨rfl, fun H2 _ => by simp only [rop, hv, Option.map_some]⟩)
    | skip
  case pick c a b =>
    split at h
    · rename_i hx; simp only [Option.some.injEq, Prod.mk.injEq] at h; obtain ⟨rfl, rfl⟩ := h; exact ⟨rfl, fun H2 _ => by simp only [rop, hx]⟩
    · simp at h
  case nilCheck x =>
    split at h
    · rename_i hx; simp only [Option.some.injEq, Prod.mk.injEq] at h; obtain ⟨rfl, rfl⟩ := h; exact ⟨rfl, fun H2 _ => by simp only [rop, hx]⟩
    · rename_i hx; simp only [Option.some.injEq, Prod.mk.injEq] at h; obtain ⟨rfl, rfl⟩ := h; exact ⟨rfl, fun H2 _ => by simp only [rop, hx]⟩
    · simp at h
  case convInt k x =>
    split at h
    · rename_i hx; simp only [Option.some.injEq, Prod.mk.injEq] at h; obtain ⟨rfl, rfl⟩ := h; exact ⟨rfl, fun H2 _ => by simp only [rop, hx]⟩
    · simp at h
  case sliceStr x lo hi =>
    split at h
    · rename_i hx
      split at h
      · rename_i h1 h2
        split at h
        · rename_i h3; simp only [Option.some.injEq, Prod.mk.injEq] at h; obtain ⟨rfl, rfl⟩ := h; exact ⟨rfl, fun H2 _ => by simp only [rop, hx, h1, h2, h3, and_self, if_true]⟩
        · simp at h
      · simp at h
    · simp at h
  case fieldAddr off x =>
    split at h
    · rename_i hx; simp only [Option.some.injEq, Prod.mk.injEq] at h; obtain ⟨rfl, rfl⟩ := h; exact ⟨rfl, fun H2 _ => by simp only [rop, hx]⟩
    · simp at h
  case field off sz x =>
    split at h
    · rename_i hx
      simp only [Option.map_eq_some_iff, Prod.mk.injEq] at h
      obtain ⟨v0, hv, rfl, rfl⟩ := h
      exact ⟨rfl, fun H2 _ => by simp only [rop, hx, hv, Option.map_some]⟩
    · simp at h
  case indexAddr e x i =>
    split at h
    · rename_i hx hi
      split at h
      · rename_i h3; simp only [Option.some.injEq, Prod.mk.injEq] at h; obtain ⟨rfl, rfl⟩ := h; exact ⟨rfl, fun H2 _ => by simp only [rop, hx, hi, h3, and_self, if_true]⟩
      · simp at h
    · simp at h
  case indexArr n e x i =>
    split at h
    · rename_i hx hi
      split at h
      · rename_i h3; simp only [Option.some.injEq, Prod.mk.injEq] at h; obtain ⟨rfl, rfl⟩ := h; exact ⟨rfl, fun H2 _ => by simp only [rop, hx, hi, h3, and_self, if_true]⟩
      · simp at h
    · simp at h
  case indexStr x i =>
    split at h
    · rename_i hx hi
      split at h
      · rename_i h3; simp only [Option.some.injEq, Prod.mk.injEq] at h; obtain ⟨rfl, rfl⟩ := h; exact ⟨rfl, fun H2 _ => by simp only [rop, hx, hi, h3]⟩
      · simp at h
    · simp at h
  case extract x i =>
    split at h
    · rename_i hx
      simp only [Option.map_eq_some_iff, Prod.mk.injEq] at h
      obtain ⟨v0, hv, rfl, rfl⟩ := h
      exact ⟨rfl, fun H2 _ => by simp only [rop, hx, hv, Option.map_some]⟩
    · simp at h
  case len x =>
    split at h
    · rename_i hx; simp only [Option.some.injEq, Prod.mk.injEq] at h; obtain ⟨rfl, rfl⟩ := h; exact ⟨rfl, fun H2 _ => by simp only [rop, hx]⟩
    · rename_i hx; simp only [Option.some.injEq, Prod.mk.injEq] at h; obtain ⟨rfl, rfl⟩ := h; exact ⟨rfl, fun H2 _ => by simp only [rop, hx]⟩
    · simp at h
  case lenStr x =>
    split at h
    · rename_i hx; simp only [Option.some.injEq, Prod.mk.injEq] at h; obtain ⟨rfl, rfl⟩ := h; exact ⟨rfl, fun H2 _ => by simp only [rop, hx]⟩
    · simp at h
  case min x ys =>
    split at h
    · rename_i hx
      simp only [Option.map_eq_some_iff, Prod.mk.injEq] at h
      obtain ⟨v0, hv, rfl, rfl⟩ := h
      exact ⟨rfl, fun H2 _ => by simp only [rop, hx, hv, Option.map_some]⟩
    · simp at h
  case max x ys =>
    split at h
    · rename_i hx
      simp only [Option.map_eq_some_iff, Prod.mk.injEq] at h
      obtain ⟨v0, hv, rfl, rfl⟩ := h
      exact ⟨rfl, fun H2 _ => by simp only [rop, hx, hv, Option.map_some]⟩
    · simp at h
  case upd n off x v =>
    split at h
    · rename_i cs hx
      split at h
      · rename_i hc
        simp only [Option.some.injEq, Prod.mk.injEq] at h
        obtain ⟨rfl, rfl⟩ := h
        exact ⟨rfl, fun H2 _ => by simp only [rop, hx]; rw [if_pos hc]⟩
      · simp at h
    · simp at h

theorem touches_pure (hc : compileOp P res ap o.op = some r) (ht : touches o.op = false) : pureR r = true := by
  cases ho : o.op with
  | call c =>
    rw [ho] at hc ht
    obtain ⟨cal, args, ts⟩ := c
    cases cal with
    | value f => simp [touches] at ht
    | invoke a b => simp [compileOp] at hc
    | builtin b =>
      cases b <;> simp [touches] at ht <;> simp only [compileOp] at hc
      all_goals
        unfold compileBuiltin at hc
        split at hc <;> simp_all
      · split at hc
        · split at hc <;> simp_all
          all_goals (first | (obtain ⟨_, _, rfl⟩ := hc; rfl) | (subst hc; rfl))
        · simp at hc
      · split at hc <;> simp_all
        subst hc; rfl
      · split at hc <;> simp_all
        subst hc; rfl
  | makeFunc f a b =>
    rw [ho] at hc
    cases f <;> simp only [compileOp, reduceCtorEq] at hc
    split at hc
    · simp only [Option.map_eq_some_iff] at hc; obtain ⟨_, _, rfl⟩ := hc; rfl
    · simp at hc
  | _ =>
    rw [ho] at hc ht
    simp only [touches, Bool.true_eq_false] at ht
    try (unfold compileOp at hc; simp only [reduceCtorEq] at hc)
    try (simp only [Option.map_eq_some_iff] at hc; obtain ⟨_, _, rfl⟩ := hc; rfl)
    try
      repeat' (first | (split at hc) | (simp only [reduceCtorEq] at hc; done) | (simp only [Option.some.injEq] at hc; subst hc; rfl) | (simp only [Option.map_eq_some_iff] at hc; obtain ⟨_, _, rfl⟩ := hc; rfl))

end
end Go.RM
