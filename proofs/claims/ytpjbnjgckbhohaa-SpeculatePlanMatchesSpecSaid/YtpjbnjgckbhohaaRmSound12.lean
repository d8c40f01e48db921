import Derived.Test.YtpjbnjgckbhohaaRmSound9
/-
  All operations: those that leave the heap alone, and the others; calls enter their function.
-/
namespace Go.RM
set_option linter.unusedSimpArgs false

variable {P : Program}

section
variable {ρ : Operand → Value} {o : Oper} {n0 base fl : Nat} {m : BMap} {H H' : Heap} {w : World} {X : RX → AV} {res : Operand → Option RX} {r : ROp} {v : AV} {call : Nat → Nat → List AV → Heap → Option (AV × Heap)} {free : Bool} {ap : List RX}

def isCallOp : Op → Bool
  | .call { callee := .builtin _, .. } => false
  | .call _ => true
  | _ => false

def isAppendOp : Op → Bool
  | .call { callee := .builtin .append, .. } => true
  | _ => false

theorem op_sound (hc : compileOp P res ap o.op = some r) (hr : rop call fl free X H r = some (v, H')) (hX : ∀ x rx, res x = some rx → VRel m (X rx) (ρ x)) (hXk : ∀ v, X (.k v) = v)
    (hs : Sim n0 base m H w) (hfl : n0 ≤ fl) (hn : H.length < H'.length → m H.length = none) (hcl : isCallOp o.op = false) : OpOk P ρ o n0 base fl m H w v H' := by
  cases ho : o.op with
  | move x => rw [ho] at hc; exact op_move (.inl ho) hc hr hX hs
  | assign x => rw [ho] at hc; exact op_move (.inr ho) hc hr hX hs
  | pick a b c => rw [ho] at hc; exact op_pick ho hc hr hX hs
  | alloc t =>
    rw [ho] at hc
    simp only [compileOp, Option.map_eq_some_iff] at hc
    obtain ⟨z, hz, rfl⟩ := hc
    simp only [rop, Option.some.injEq, Prod.mk.injEq] at hr
    obtain ⟨rfl, rfl⟩ := hr
    exact op_alloc ho hz hs (hn (by simp)) _
  | box t x =>
    rw [ho] at hc
    simp only [compileOp, Option.map_eq_some_iff] at hc
    obtain ⟨rx, h1, rfl⟩ := hc
    simp only [rop, Option.some.injEq, Prod.mk.injEq] at hr
    obtain ⟨rfl, rfl⟩ := hr
    exact op_box ho (hX _ _ h1) hs (hn (by simp)) _
  | build t ps => rw [ho] at hc; exact op_build ho hc hr hX hs
  | buildSlice t n ps =>
    rw [ho] at hc
    have : H.length < H'.length := by
      simp only [compileOp] at hc
      split at hc
      · split at hc
        · split at hc
          · simp only [Option.some.injEq] at hc; subst hc
            simp only [rop, Option.map_eq_some_iff, Prod.mk.injEq] at hr
            obtain ⟨_, _, _, rfl⟩ := hr; simp
          · simp at hc
        · simp at hc
      · simp at hc
    exact op_buildSlice ho hc hr hX hs (hn this)
  | load t x => rw [ho] at hc; exact op_load ho hc hr hX hs
  | store t x y => rw [ho] at hc; exact op_store ho hc hr hX hs hfl
  | nilCheck x => rw [ho] at hc; exact op_nilCheck ho hc hr hX hs
  | binOp op t x y t2 => rw [ho] at hc; exact op_bin ho hc hr hX hs
  | unOp op t x => rw [ho] at hc; exact op_un ho hc hr hX hs
  | convert t u x => rw [ho] at hc; exact op_convert ho hc hr hX hs
  | makeFunc f a b => rw [ho] at hc; exact op_makeFunc ho hc hr hX hs
  | makeSlice t x y =>
    rw [ho] at hc
    have : H.length < H'.length := by
      simp only [compileOp] at hc
      split at hc
      · split at hc
        · split at hc
          · simp only [Option.some.injEq] at hc; subst hc
            simp only [rop] at hr
            split at hr
            · split at hr
              · simp only [Option.some.injEq, Prod.mk.injEq] at hr
                obtain ⟨_, rfl⟩ := hr; simp
              · simp at hr
            · simp at hr
          · simp at hc
        · simp at hc
      · simp at hc
    exact op_makeSlice ho hc hr hX hs (hn this)
  | slice t x a b c => rw [ho] at hc; exact op_slice ho hc hr hX hs
  | fieldAddr t x i => rw [ho] at hc; exact op_fieldAddr ho hc hr hX hs
  | field t x i => rw [ho] at hc; exact op_field ho hc hr hX hs
  | indexAddr t x i => rw [ho] at hc; exact op_indexAddr ho hc hr hX hs
  | index t x i => rw [ho] at hc; exact op_index ho hc hr hX hs
  | extract x i => rw [ho] at hc; exact op_extract ho hc hr hX hs
  | call c =>
    rw [ho] at hc hcl
    simp only [compileOp] at hc
    cases hcal : c.callee with
    | value f => obtain ⟨cal, args, ts⟩ := c; simp only at hcal; subst hcal; simp [isCallOp] at hcl
    | invoke a b => rw [hcal] at hc; simp at hc
    | builtin b =>
      rw [hcal] at hc
      simp only at hc
      cases b with
      | len => exact op_len ho hcal hc hr hX hXk hs
      | min => exact op_min ho hcal hc hr hX hs
      | max => exact op_max ho hcal hc hr hX hs
      | copy => exact op_copy ho hcal hc hr hX hs hfl
      | clear => exact op_clear ho hcal hc hr hX hs hfl
      | append =>
        obtain ⟨v', w', h1, h2⟩ := op_append ho hcal hc hr hX hs hfl
        obtain ⟨m', h3, h4⟩ := app_step h2 hs hfl hn
        exact ⟨v', w', m', .inl h1, h3, h4⟩
      | _ => simp [compileBuiltin] at hc
  | _ => rw [ho] at hc; simp [compileOp] at hc

/-- The operations of the abstract machine that only look at what is in the temporaries. -/
def pureR : ROp → Bool
  | .alloc .. => false
  | .box .. => false
  | .buildSlice .. => false
  | .load .. => false
  | .store .. => false
  | .makeSlice .. => false
  | .call .. => false
  | .callS .. => false
  | .append .. => false
  | .copy .. => false
  | .clear .. => false
  | .tomb .. => false
  | .slice _ _ lo hi mx => !(lo.isSome && hi.isSome && mx.isNone)
  | _ => true

theorem rop_pure (hp : pureR r = true) (h : rop call fl free X H r = some (v, H')) : H' = H ∧ ∀ H2 : Heap, (∀ b : Nat, (H2[b]?).map (·.e) = (H[b]?).map (·.e)) → rop call fl free X H2 r = some (v, H2) := by
  cases r <;> simp only [pureR, Bool.false_eq_true] at hp <;> simp only [rop, reduceCtorEq] at h
  case slice e x lo hi mx =>
    simp only [Option.map_eq_some_iff, Prod.mk.injEq] at h
    obtain ⟨v0, hv, rfl, rfl⟩ := h
    refine ⟨rfl, fun H2 hH => ?_⟩
    simp only [rop, Option.map_eq_some_iff, Prod.mk.injEq]
    refine ⟨v0, ?_, by simp⟩
    have hu : ∀ (H : Heap) (b off h : Nat) (lim : Option Nat), upB H e b off h (lo.map X) (hi.map X) (mx.map X) lim = false := fun H b off h lim => by
      cases lo <;> cases hi <;> cases mx <;> simp_all [upB]
    unfold rslice at hv ⊢
    simp only [hH, hu] at hv ⊢
    exact hv
  all_goals
    first
    | (simp only [Option.some.injEq, Prod.mk.injEq] at h
       obtain ⟨rfl, rfl⟩ := h
       exact ⟨rfl, fun H2 _ => by simp only [rop]⟩)
    | (simp only [Option.map_eq_some_iff, Prod.mk.injEq] at h
       obtain ⟨v0, hv, rfl, rfl⟩ := h
       exact ⟨rfl, fun H2 _ => by simp only [rop, hv, Option.map_some]⟩)
    | skip
  case pick c a b =>
    split at h
    · rename_i hx; simp only [Option.some.injEq, Prod.mk.injEq] at h; obtain ⟨rfl, rfl⟩ := h; exact ⟨rfl, fun H2 _ => by simp only [rop, hx]⟩
    · simp at h
  case nilCheck x =>
    split at h
    · rename_i hx; simp only [Option.some.injEq, Prod.mk.injEq] at h; obtain ⟨rfl, rfl⟩ := h; exact ⟨rfl, fun H2 _ => by simp only [rop, hx]⟩
    · rename_i hx; simp only [Option.some.injEq, Prod.mk.injEq] at h; obtain ⟨rfl, rfl⟩ := h; exact ⟨rfl, fun H2 _ => by simp only [rop, hx]⟩
    · simp at h
  case convInt k x =>
    split at h
    · rename_i hx; simp only [Option.some.injEq, Prod.mk.injEq] at h; obtain ⟨rfl, rfl⟩ := h; exact ⟨rfl, fun H2 _ => by simp only [rop, hx]⟩
    · simp at h
  case sliceStr x lo hi =>
    split at h
    · rename_i hx
      split at h
      · rename_i h1 h2
        split at h
        · rename_i h3; simp only [Option.some.injEq, Prod.mk.injEq] at h; obtain ⟨rfl, rfl⟩ := h; exact ⟨rfl, fun H2 _ => by simp only [rop, hx, h1, h2, h3, and_self, if_true]⟩
        · simp at h
      · simp at h
    · simp at h
  case fieldAddr off x =>
    split at h
    · rename_i hx; simp only [Option.some.injEq, Prod.mk.injEq] at h; obtain ⟨rfl, rfl⟩ := h; exact ⟨rfl, fun H2 _ => by simp only [rop, hx]⟩
    · simp at h
  case field off sz x =>
    split at h
    · rename_i hx
      simp only [Option.map_eq_some_iff, Prod.mk.injEq] at h
      obtain ⟨v0, hv, rfl, rfl⟩ := h
      exact ⟨rfl, fun H2 _ => by simp only [rop, hx, hv, Option.map_some]⟩
    · simp at h
  case indexAddr e x i =>
    split at h
    · rename_i hx hi
      split at h
      · rename_i h3; simp only [Option.some.injEq, Prod.mk.injEq] at h; obtain ⟨rfl, rfl⟩ := h; exact ⟨rfl, fun H2 _ => by simp only [rop, hx, hi, h3, and_self, if_true]⟩
      · simp at h
    · simp at h
  case indexArr n e x i =>
    split at h
    · rename_i hx hi
      split at h
      · rename_i h3; simp only [Option.some.injEq, Prod.mk.injEq] at h; obtain ⟨rfl, rfl⟩ := h; exact ⟨rfl, fun H2 _ => by simp only [rop, hx, hi, h3, and_self, if_true]⟩
      · simp at h
    · simp at h
  case indexStr x i =>
    split at h
    · rename_i hx hi
      split at h
      · rename_i h3; simp only [Option.some.injEq, Prod.mk.injEq] at h; obtain ⟨rfl, rfl⟩ := h; exact ⟨rfl, fun H2 _ => by simp only [rop, hx, hi, h3]⟩
      · simp at h
    · simp at h
  case indexAgg len n sz x i =>
    split at h
    · rename_i hx hi
      split at h
      · rename_i h3
        simp only [Option.map_eq_some_iff, Prod.mk.injEq] at h
        obtain ⟨v0, hv, rfl, rfl⟩ := h
        exact ⟨rfl, fun H2 _ => by simp only [rop, hx, hi, h3, hv, and_self, if_true, Option.map_some]⟩
      · simp at h
    · simp at h
  case extract x i =>
    split at h
    · rename_i hx
      simp only [Option.map_eq_some_iff, Prod.mk.injEq] at h
      obtain ⟨v0, hv, rfl, rfl⟩ := h
      exact ⟨rfl, fun H2 _ => by simp only [rop, hx, hv, Option.map_some]⟩
    · simp at h
  case len x =>
    split at h
    · rename_i hx; simp only [Option.some.injEq, Prod.mk.injEq] at h; obtain ⟨rfl, rfl⟩ := h; exact ⟨rfl, fun H2 _ => by simp only [rop, hx]⟩
    · rename_i hx; simp only [Option.some.injEq, Prod.mk.injEq] at h; obtain ⟨rfl, rfl⟩ := h; exact ⟨rfl, fun H2 _ => by simp only [rop, hx]⟩
    · simp at h
  case lenStr x =>
    split at h
    · rename_i hx; simp only [Option.some.injEq, Prod.mk.injEq] at h; obtain ⟨rfl, rfl⟩ := h; exact ⟨rfl, fun H2 _ => by simp only [rop, hx]⟩
    · simp at h
  case min x ys =>
    split at h
    · rename_i hx
      simp only [Option.map_eq_some_iff, Prod.mk.injEq] at h
      obtain ⟨v0, hv, rfl, rfl⟩ := h
      exact ⟨rfl, fun H2 _ => by simp only [rop, hx, hv, Option.map_some]⟩
    · simp at h
  case max x ys =>
    split at h
    · rename_i hx
      simp only [Option.map_eq_some_iff, Prod.mk.injEq] at h
      obtain ⟨v0, hv, rfl, rfl⟩ := h
      exact ⟨rfl, fun H2 _ => by simp only [rop, hx, hv, Option.map_some]⟩
    · simp at h
  case upd n off x v =>
    split at h
    · rename_i cs hx
      split at h
      · rename_i hc
        simp only [Option.some.injEq, Prod.mk.injEq] at h
        obtain ⟨rfl, rfl⟩ := h
        exact ⟨rfl, fun H2 _ => by simp only [rop, hx]; rw [if_pos hc]⟩
      · simp at h
    · simp at h

theorem touches_pure (hc : compileOp P res ap o.op = some r) (ht : touches o.op = false) : pureR r = true := by
  cases ho : o.op with
  | call c =>
    rw [ho] at hc ht
    obtain ⟨cal, args, ts⟩ := c
    cases cal with
    | value f => simp [touches] at ht
    | invoke a b => simp [compileOp] at hc
    | builtin b =>
      cases b <;> simp [touches] at ht <;> simp only [compileOp] at hc
      all_goals
        unfold compileBuiltin at hc
        split at hc <;> simp_all
      · split at hc
        · split at hc <;> simp_all
          all_goals (first | (obtain ⟨_, _, rfl⟩ := hc; rfl) | (subst hc; rfl))
        · simp at hc
      · split at hc <;> simp_all
        subst hc; rfl
      · split at hc <;> simp_all
        subst hc; rfl
  | makeFunc f a b =>
    rw [ho] at hc
    cases f <;> simp only [compileOp, reduceCtorEq] at hc
    split at hc
    · simp only [Option.map_eq_some_iff] at hc; obtain ⟨_, _, rfl⟩ := hc; rfl
    · simp at hc
  | slice t x lo hi mx =>
    rw [ho] at hc ht
    simp only [touches] at ht
    have hopt : ∀ (y : Option Operand) (l : Option RX), optX res y = some l → l.isSome = y.isSome := fun y l h => by
      cases y with
      | none => simp only [optX, Option.some.injEq] at h; subst h; rfl
      | some y =>
        simp only [optX, Option.map_eq_some_iff] at h
        obtain ⟨_, _, rfl⟩ := h; rfl
    simp only [compileOp] at hc
    split at hc
    · rename_i hl hh hm
      split at hc
      · simp at hc
      · simp only [Option.map_eq_some_iff] at hc
        obtain ⟨_, _, rfl⟩ := hc
        show (!(_ && _ && _)) = true
        rw [hopt _ _ hl, hopt _ _ hh]
        have := hopt _ _ hm
        rw [Bool.not_eq_true', ← ht]
        congr 1
        have hn : ∀ {α β : Type} (a : Option α) (b : Option β), a.isSome = b.isSome → a.isNone = b.isNone := fun a b h => by cases a <;> cases b <;> simp at h ⊢
        exact hn _ _ this
    · simp only [Option.some.injEq] at hc; subst hc; rfl
    · simp at hc
  | _ =>
    rw [ho] at hc ht
    simp only [touches, Bool.true_eq_false] at ht
    try (unfold compileOp at hc; simp only [reduceCtorEq] at hc)
    try (simp only [Option.map_eq_some_iff] at hc; obtain ⟨_, _, rfl⟩ := hc; rfl)
    try
      repeat' (first | (split at hc) | (simp only [reduceCtorEq] at hc; done) | (simp only [Option.some.injEq] at hc; subst hc; rfl) | (simp only [Option.map_eq_some_iff] at hc; obtain ⟨_, _, rfl⟩ := hc; rfl))

end
end Go.RM

/-
  A region, in whatever order the model takes it: the static facts.
-/
namespace Go.RM
set_option linter.unusedSimpArgs false

structure Comp (P : Program) (vars : List Nat) (nt : Nat) (draw : Bool) (A : List Nat) (all : List Oper) (i : Nat) (o : Oper) (ro : ROper) : Prop where
  code : ∃ ap, (if isStore o.op then apartOf vars draw A all i all 0 else some []) = some ap ∧ compileOp P (resAt vars draw A all i) ap o.op = some ro.op ∧ (ap.isEmpty || lsOnly all) = true
  dst : ∀ d, o.dst = some d → d < nt ∧ writer d all 0 = some i
  guard : ro.guard = o.guard ∧ ∀ g b, o.guard = some (g, b) → g < i ∧ preB draw A g i = true ∧ ((all[g]?).bind (·.dst)).isSome = true
  must : mustWrite o.op = true → freeAt draw A all i = true
  rdst : ro.dst = o.dst.bind (idx · vars)
  free : ro.free = freeAt draw A all i

theorem compileOper_cases {P : Program} {vars : List Nat} {nt : Nat} {draw : Bool} {A : List Nat} {all : List Oper} {i : Nat} {o : Oper} {ro : ROper} (h : compileOper P vars nt draw A all i o = some ro) :
    (ro.op = .fail ∧ ro.guard = none) ∨ Comp P vars nt draw A all i o ro := by
  unfold compileOper at h
  split at h
  · simp at h
  · rename_i ap hap
    split at h
    · simp only [Option.some.injEq] at h; subst h; exact .inl ⟨rfl, rfl⟩
    · rename_i r hr
      rw [Option.ite_none_right_eq_some] at h
      obtain ⟨hc, h⟩ := h
      simp only [Option.some.injEq] at h; subst h
      simp only [Bool.and_eq_true] at hc
      obtain ⟨⟨⟨c2, c3⟩, c4⟩, c5⟩ := hc
      refine .inr ⟨⟨ap, hap, hr, c5⟩, fun d hd => ?_, ⟨rfl, fun g b hg => ?_⟩, fun hm => ?_, rfl, rfl⟩
      · rw [hd] at c2
        simp only [Bool.and_eq_true, decide_eq_true_eq, beq_iff_eq] at c2
        exact c2
      · rw [hg] at c3
        simp only [Bool.and_eq_true, decide_eq_true_eq] at c3
        exact ⟨c3.1.1, c3.1.2, c3.2⟩
      · rw [hm] at c4; simpa using c4

theorem compileOpers_get {P : Program} {vars : List Nat} {nt : Nat} {draw : Bool} {A : List Nat} {all : List Oper} : ∀ {l : List Oper} {i0 : Nat} {rs : List ROper}, compileOpers P vars nt draw A all l i0 = some rs →
    rs.length = l.length ∧ ∀ (k : Nat) (o : Oper), l[k]? = some o → ∃ ro, rs[k]? = some ro ∧ compileOper P vars nt draw A all (i0 + k) o = some ro
  | [], i0, rs, h => by
    simp only [compileOpers, Option.some.injEq] at h; subst h
    exact ⟨rfl, fun k o h => by simp at h⟩
  | o :: l, i0, rs, h => by
    simp only [compileOpers] at h
    split at h
    · rename_i r rs' h1 h2
      simp only [Option.some.injEq] at h; subst h
      obtain ⟨e1, e2⟩ := compileOpers_get h2
      refine ⟨by simp [e1], fun k o' hk => ?_⟩
      cases k with
      | zero => simp only [List.getElem?_cons_zero, Option.some.injEq] at hk; subst hk; exact ⟨r, rfl, h1⟩
      | succ k =>
        obtain ⟨ro, g1, g2⟩ := e2 k o' (by simpa using hk)
        exact ⟨ro, by simpa using g1, by rwa [show i0 + (k + 1) = i0 + 1 + k by omega]⟩
    · simp at h

theorem writer_some {t : Nat} : ∀ {l : List Oper} {k i : Nat}, writer t l k = some i → k ≤ i ∧ ∃ o, l[i - k]? = some o ∧ o.dst = some t
  | [], k, i, h => by simp [writer] at h
  | o :: l, k, i, h => by
    simp only [writer] at h
    split at h
    · rename_i hd
      simp only [Option.some.injEq] at h; subst h
      exact ⟨Nat.le_refl _, o, by simp, hd⟩
    · obtain ⟨h1, o', h2, h3⟩ := writer_some h
      refine ⟨by omega, o', ?_, h3⟩
      rw [show i - k = (i - (k + 1)) + 1 by omega]
      simpa using h2

theorem idx_some {t : Nat} : ∀ {l : List Nat} {y : Nat}, idx t l = some y → l[y]? = some t
  | [], y, h => by simp [idx] at h
  | m :: l, y, h => by
    simp only [idx] at h
    split at h
    · rename_i e
      simp only [Option.some.injEq] at h; subst h; subst e; rfl
    · simp only [Option.map_eq_some_iff] at h
      obtain ⟨z, h1, rfl⟩ := h
      simpa using idx_some h1

theorem memN_iff {n : Nat} : ∀ {l : List Nat}, memN n l = true ↔ n ∈ l
  | [] => by simp [memN]
  | m :: l => by simp [memN, memN_iff (l := l)]

theorem idx_of_get {t : Nat} : ∀ {l : List Nat} {y : Nat}, nodupB l = true → l[y]? = some t → idx t l = some y
  | [], y, _, h => by simp at h
  | m :: l, y, hn, h => by
    simp only [nodupB, Bool.and_eq_true, Bool.not_eq_true'] at hn
    cases y with
    | zero => simp only [List.getElem?_cons_zero, Option.some.injEq] at h; subst h; simp [idx]
    | succ y =>
      have h' : l[y]? = some t := by simpa using h
      have hne : t ≠ m := fun e => by
        subst e
        have := memN_iff.2 (List.mem_of_getElem? h')
        rw [this] at hn
        simp at hn
      simp [idx, hne, idx_of_get hn.2 h']

theorem zipIdx_all {f : Oper × Nat → Bool} {l : List Oper} (h : l.zipIdx.all f = true) (j : Nat) (o : Oper) (hj : l[j]? = some o) : f (o, j) = true := by
  have hm : (o, j) ∈ l.zipIdx := by
    rw [List.mem_zipIdx_iff_getElem?]
    exact hj
  exact List.all_eq_true.1 h _ hm

theorem freeAt_ord {draw : Bool} {A : List Nat} {all : List Oper} {i : Nat} (h : freeAt draw A all i = true) {j : Nat} {o : Oper} (hj : all[j]? = some o) (hne : j ≠ i) (ht : touches o.op = true) : ordB draw A i j = true := by
  unfold freeAt at h
  have := zipIdx_all h j o hj
  simp only [ht, Bool.or_eq_true, beq_iff_eq] at this
  rcases this with (h | h) | h
  · exact absurd h hne
  · simp at h
  · exact h

theorem apartOf_ord {vars : List Nat} {draw : Bool} {A : List Nat} {all : List Oper} {i : Nat} : ∀ {l : List Oper} {k : Nat} {ap : List RX}, apartOf vars draw A all i l k = some ap →
    ∀ (j : Nat) (o : Oper), l[j]? = some o → k + j ≠ i → touches o.op = true → ordB draw A i (k + j) = true ∨ ∃ t x y, o.op = .load t x ∧ baseOf vars draw A all (k + j) x = some y ∧ RX.var y ∈ ap
  | [], _, _, _, j, o, h, _, _ => by simp at h
  | o' :: l, k, ap, h, j, o, hj, hne, ht => by
    simp only [apartOf] at h
    split at h
    · simp at h
    · rename_i r hr
      cases j with
      | zero =>
        simp only [List.getElem?_cons_zero, Option.some.injEq] at hj; subst hj
        simp only [Nat.add_zero] at hne ⊢
        split at h
        · rename_i hc
          simp only [ht, Bool.or_eq_true, beq_iff_eq] at hc
          rcases hc with (h1 | h1) | h1
          · exact absurd h1 hne
          · simp at h1
          · exact .inl h1
        · split at h
          · rename_i t x hop
            split at h
            · rename_i y hy
              simp only [Option.some.injEq] at h; subst h
              refine .inr ⟨t, x, y, hop, hy, ?_⟩
              split
              · rename_i hany
                obtain ⟨z, hz, hzy⟩ := List.any_eq_true.1 hany
                cases z with
                | var z => simp only [RX.isVar, beq_iff_eq] at hzy; subst hzy; exact hz
                | _ => simp [RX.isVar] at hzy
              · simp
            · simp at h
          · simp at h
      | succ j =>
        have ih := apartOf_ord hr j o (by simpa using hj) (by omega) ht
        rw [show k + (j + 1) = k + 1 + j by omega]
        rcases ih with ih | ⟨t, x, y, h1, h2, h3⟩
        · exact .inl ih
        · refine .inr ⟨t, x, y, h1, h2, ?_⟩
          split at h
          · simp only [Option.some.injEq] at h; subst h; exact h3
          · split at h
            · split at h
              · simp only [Option.some.injEq] at h; subst h
                split
                · exact h3
                · exact List.mem_cons_of_mem _ h3
              · simp at h
            · simp at h

def solidB (o : Oper) (free : Bool) : Bool := isStore o.op || mustWrite o.op || ((isCallOp o.op || isAppendOp o.op) && free)

/-- What is solid is ordered against all that touches the heap but loads. -/
theorem solid_ord {P : Program} {vars : List Nat} {nt : Nat} {draw : Bool} {A : List Nat} {all : List Oper} {i : Nat} {o : Oper} {ro : ROper} (hc : Comp P vars nt draw A all i o ro) (hs : solidB o ro.free = true)
    {j : Nat} {o' : Oper} (hj : all[j]? = some o') (hne : j ≠ i) (ht : touches o'.op = true) (hl : isLoad o'.op = false) : ordB draw A i j = true := by
  unfold solidB at hs
  by_cases h1 : isStore o.op = true
  · obtain ⟨ap, hap, _, _⟩ := hc.code
    rw [if_pos h1] at hap
    rcases apartOf_ord hap j o' hj (by simpa using hne) ht with h | ⟨t, x, y, h, _, _⟩
    · simpa using h
    · rw [h] at hl; simp [isLoad] at hl
  · by_cases h2 : mustWrite o.op = true
    · exact freeAt_ord (hc.must h2) hj hne ht
    · simp only [h1, h2, Bool.or_false, Bool.false_or, Bool.and_eq_true] at hs
      rw [hc.free] at hs
      exact freeAt_ord hs.2 hj hne ht

/-! ### The heaps of one stretch without a solid operation -/

def killed (k : Blk) : Blk := { k with live := false, kid := none }

/-- One heap is another where some blocks are given up, and shorter. -/
def Kd (H V : Heap) : Prop := H.length ≤ V.length ∧ ∀ b, b < H.length → H[b]? = V[b]? ∨ ∃ k, V[b]? = some k ∧ k.live = true ∧ H[b]? = some (killed k)

theorem Kd.refl (H : Heap) : Kd H H := ⟨Nat.le_refl _, fun _ _ => .inl rfl⟩

def KidsOk (H : Heap) : Prop := ∀ (b c : Nat) (k : Blk), H[b]? = some k → k.kid = some c → c < H.length

theorem Kd.act {H V : Heap} (h : Kd H V) (hk : KidsOk H) {b : Nat} {k : Blk} (ha : H.act b = some k) : V.act b = some k := by
  have hg := act_get ha
  have hb := get_lt hg
  have hVb : V[b]? = some k := by
    rcases h.2 b hb with e | ⟨k0, e1, e2, e3⟩
    · rw [← e]; exact hg
    · exfalso
      rw [hg] at e3; cases e3
      unfold Heap.act at ha
      rw [hg] at ha
      simp [killed, Heap.rev] at ha
  by_cases hl : k.live = true
  · exact act_of hVb (.inl hl)
  · refine act_of hVb (.inr ?_)
    unfold Heap.act at ha
    rw [hg] at ha
    simp only [hl, Bool.false_or] at ha
    split at ha
    · rename_i hr
      unfold Heap.rev at hr ⊢
      simp only [hl] at hr ⊢
      cases hc : k.kid with
      | none => simp [hc] at hr
      | some c =>
        simp only [hc] at hr ⊢
        have hcl := hk b c k hg hc
        rcases h.2 c hcl with e | ⟨k0, e1, e2, e3⟩
        · rw [← e]; exact hr
        · exfalso
          simp [e3, killed] at hr
    · simp at ha

/-- One operation that is not solid: old blocks stay, or are given up. -/
def NS (H H' : Heap) : Prop := H.length ≤ H'.length ∧ ∀ b, b < H.length → H'[b]? = H[b]? ∨ ∃ k, H[b]? = some k ∧ k.live = true ∧ H'[b]? = some (killed k)

def hv (Hs : Nat → Heap) (p : Nat) : Nat → Heap
  | 0 => Hs p
  | d + 1 => hv Hs p d ++ (Hs (p + d + 1)).drop (Hs (p + d)).length

theorem hv_length {Hs : Nat → Heap} {p : Nat} : ∀ {d : Nat}, (∀ j, p ≤ j → j < p + d → NS (Hs j) (Hs (j + 1))) → (hv Hs p d).length = (Hs (p + d)).length
  | 0, _ => rfl
  | d + 1, h => by
    have := h (p + d) (by omega) (by omega)
    simp only [hv, List.length_append, List.length_drop]
    rw [hv_length (fun j h1 h2 => h j h1 (by omega))]
    have := this.1
    rw [show p + (d + 1) = p + d + 1 by omega]
    omega

theorem hv_prefix {Hs : Nat → Heap} {p d d' : Nat} (hd : d ≤ d') {b : Nat} (hb : b < (hv Hs p d).length) : (hv Hs p d')[b]? = (hv Hs p d)[b]? := by
  induction d' with
  | zero => have : d = 0 := by omega
            subst this; rfl
  | succ d' ih =>
    by_cases e : d = d' + 1
    · subst e; rfl
    · have ih' := ih (by omega)
      have hlen : b < (hv Hs p d').length := by
        rcases Nat.lt_or_ge b (hv Hs p d').length with h | h
        · exact h
        · rw [List.getElem?_eq_none h, List.getElem?_eq_getElem hb] at ih'; simp at ih'
      simp only [hv]
      rw [List.getElem?_append_left hlen]
      exact ih'

theorem hv_kd {Hs : Nat → Heap} {p d : Nat} (h : ∀ j, p ≤ j → j < p + d → NS (Hs j) (Hs (j + 1))) : ∀ e, e ≤ d → Kd (Hs (p + e)) (hv Hs p d)
  | 0, _ => by
    have hl := hv_length h
    refine ⟨?_, fun b hb => .inl ?_⟩
    · have := hv_prefix (Hs := Hs) (p := p) (Nat.zero_le d) (b := (Hs p).length - 1)
      have hmono : ∀ e, e ≤ d → (Hs p).length ≤ (Hs (p + e)).length := by
        intro e
        induction e with
        | zero => intro _; exact Nat.le_refl _
        | succ e ih =>
          intro he
          have := (h (p + e) (by omega) (by omega)).1
          rw [show p + (e + 1) = p + e + 1 by omega]
          exact Nat.le_trans (ih (by omega)) this
      rw [hl]
      exact hmono d (Nat.le_refl _)
    · exact (hv_prefix (Hs := Hs) (p := p) (Nat.zero_le d) hb).symm
  | e + 1, he => by
    obtain ⟨k1, k2⟩ := hv_kd h e (by omega)
    obtain ⟨n1, n2⟩ := h (p + e) (by omega) (by omega)
    have hle := hv_length (Hs := Hs) (p := p) (d := e) (fun j h1 h2 => h j h1 (by omega))
    have hle1 := hv_length (Hs := Hs) (p := p) (d := e + 1) (fun j h1 h2 => h j h1 (by omega))
    have hld := hv_length h
    rw [show p + (e + 1) = p + e + 1 by omega] at hle1 ⊢
    have hpre : ∀ b, b < (Hs (p + e + 1)).length → (hv Hs p d)[b]? = (hv Hs p (e + 1))[b]? := fun b hb => hv_prefix he (by rw [hle1]; exact hb)
    refine ⟨?_, fun b hb => ?_⟩
    · rcases Nat.lt_or_ge (hv Hs p d).length (Hs (p + e + 1)).length with hlt | hge
      · exfalso
        have := hpre _ hlt
        rw [List.getElem?_eq_none (Nat.le_refl _), List.getElem?_eq_getElem (by rw [hle1]; exact hlt)] at this
        simp at this
      · exact hge
    · by_cases hb2 : b < (Hs (p + e)).length
      · rcases n2 b hb2 with e1 | ⟨k, e1, e2, e3⟩
        · rw [e1]; exact k2 b hb2
        · rcases k2 b hb2 with f1 | ⟨k', f1, f2, f3⟩
          · right; exact ⟨k, by rw [← f1]; exact e1, e2, e3⟩
          · exfalso; rw [f3] at e1; cases e1; simp [killed] at e2
      · left
        rw [hpre b hb]
        simp only [hv]
        rw [List.getElem?_append_right (by rw [hle]; omega), hle, List.getElem?_drop]
        congr 1; omega

/-- The blocks that one operation made stand in the stretch's heap as it made them. -/
theorem hv_new {Hs : Nat → Heap} {p d e : Nat} (h : ∀ j, p ≤ j → j < p + d → NS (Hs j) (Hs (j + 1))) (he : e < d) {b : Nat} (h1 : (Hs (p + e)).length ≤ b) (h2 : b < (Hs (p + e + 1)).length) :
    (hv Hs p d)[b]? = (Hs (p + e + 1))[b]? := by
  have hle := hv_length (Hs := Hs) (p := p) (d := e) (fun j g1 g2 => h j g1 (by omega))
  have hle1 := hv_length (Hs := Hs) (p := p) (d := e + 1) (fun j g1 g2 => h j g1 (by omega))
  rw [show p + (e + 1) = p + e + 1 by omega] at hle1
  rw [hv_prefix (Hs := Hs) (p := p) (d := e + 1) he (by rw [hle1]; exact h2)]
  simp only [hv]
  rw [List.getElem?_append_right (by rw [hle]; omega), hle, List.getElem?_drop]
  congr 1; omega

/-- What lies in a part of the numbers that is closed under 'kid' is in force alike. -/
theorem act_same {H V : Heap} {b : Nat} {k : Blk} (hb : V[b]? = H[b]?) (hk : ∀ c, k.kid = some c → V[c]? = H[c]?) (ha : V.act b = some k) : H.act b = some k := by
  have hg := act_get ha
  rw [hb] at hg
  by_cases hl : k.live = true
  · exact act_of hg (.inl hl)
  · refine act_of hg (.inr ?_)
    unfold Heap.act at ha
    rw [hb, hg] at ha
    simp only [hl, Bool.false_or] at ha
    split at ha
    · rename_i hr
      unfold Heap.rev at hr ⊢
      simp only [hl] at hr ⊢
      cases hc : k.kid with
      | none => simp [hc] at hr
      | some c =>
        simp only [hc] at hr ⊢
        rw [← hk c hc]; exact hr
    · simp at ha

end Go.RM

/-
  A region: what one operation that is not solid does to the heap.
-/
namespace Go.RM
set_option linter.unusedSimpArgs false

def kindOk (op : Op) : ROp → Bool
  | .store .. => isStore op
  | .copy .. => mustWrite op
  | .clear .. => mustWrite op
  | .call .. => isCallOp op
  | .callS .. => isCallOp op
  | .append .. => isAppendOp op
  | .load .. => isLoad op
  | _ => true

theorem compile_kind {P : Program} {res : Operand → Option RX} {ap : List RX} {op : Op} {r : ROp} (hc : compileOp P res ap op = some r) : kindOk op r = true := by
  cases op with
  | call c =>
    obtain ⟨cal, args, ts⟩ := c
    cases cal with
    | value f =>
      cases f <;> simp only [compileOp] at hc
      all_goals
        repeat' (first | (simp only [reduceCtorEq] at hc; done) | (simp only [Option.some.injEq] at hc; subst hc; rfl) | (simp only [Option.map_eq_some_iff] at hc; obtain ⟨_, _, rfl⟩ := hc; rfl) | (split at hc))
    | invoke a b => simp [compileOp] at hc
    | builtin b =>
      simp only [compileOp] at hc
      cases b <;> simp only [compileBuiltin] at hc
      all_goals
        repeat' (first | (simp only [reduceCtorEq] at hc; done) | (simp only [Option.some.injEq] at hc; subst hc; rfl) | (simp only [Option.map_eq_some_iff] at hc; obtain ⟨_, _, rfl⟩ := hc; rfl) | (split at hc))
      all_goals simp_all
  | makeFunc f a b =>
    cases f <;> simp only [compileOp, reduceCtorEq] at hc
    split at hc
    · simp only [Option.map_eq_some_iff] at hc; obtain ⟨_, _, rfl⟩ := hc; rfl
    · simp at hc
  | _ =>
    simp only [compileOp, reduceCtorEq] at hc
    all_goals
      repeat' (first | (simp only [reduceCtorEq] at hc; done) | (simp only [Option.some.injEq] at hc; subst hc; rfl) | (simp only [Option.map_eq_some_iff] at hc; obtain ⟨_, _, rfl⟩ := hc; rfl) | (split at hc))

theorem NS.refl (H : Heap) : NS H H := ⟨Nat.le_refl _, fun _ _ => .inl rfl⟩
theorem NS.push (H : Heap) (k : Blk) : NS H (H ++ [k]) := ⟨by simp, fun b hb => .inl (by rw [List.getElem?_append_left hb])⟩

theorem ns_append {fl e bytes : Nat} {H H' : Heap} {s v : AV} {k : Nat} {xs : List AV} (h : rappend fl false e bytes H s k xs = some (v, H')) : NS H H' := by
  unfold rappend at h
  split at h
  · split at h
    · simp only [Option.some.injEq, Prod.mk.injEq] at h; obtain ⟨_, rfl⟩ := h; exact NS.refl _
    · simp only [Option.some.injEq, Prod.mk.injEq] at h; obtain ⟨_, rfl⟩ := h; exact NS.refl _
    · simp at h
  · split at h
    · split at h
      · simp only [Option.some.injEq, Prod.mk.injEq] at h; obtain ⟨_, rfl⟩ := h; exact NS.push _ _
      · simp at h
    · rename_i bb off nn lim
      split at h
      · simp at h
      · rename_i blk hact
        have hg := act_get hact
        split at h
        · split at h
          · rename_i hlive
            split at h
            · split at h
              · simp at h
              · simp only [Option.some.injEq, Prod.mk.injEq] at h; obtain ⟨_, rfl⟩ := h; exact NS.push _ _
            · split at h
              · unfold rappendTop at h
                split at h
                · simp only [Option.some.injEq, Prod.mk.injEq] at h
                  obtain ⟨_, rfl⟩ := h
                  refine ⟨by simp, fun b hb => ?_⟩
                  rw [List.getElem?_append_left (by simpa using hb)]
                  by_cases e : b = bb
                  · subst e
                    right
                    rw [List.getElem?_set_self hb]
                    exact ⟨blk, hg, hlive, rfl⟩
                  · left; rw [List.getElem?_set_ne (by omega)]
                · simp at h
              · simp at h
          · split at h
            · simp at h
            · simp at h
        · simp at h
    · simp at h

theorem rop_ns {call : Nat → Nat → List AV → Heap → Option (AV × Heap)} (hcall : CallFacts call) {fl : Nat} {X : RX → AV} {H H' : Heap} {r : ROp} {v : AV} {op : Op} {free : Bool} (hk : kindOk op r = true)
    (hs : (isStore op || mustWrite op || ((isCallOp op || isAppendOp op) && free)) = false) (h : rop call fl free X H r = some (v, H')) : NS H H' := by
  simp only [Bool.or_eq_false_iff, Bool.and_eq_false_iff] at hs
  obtain ⟨⟨hs1, hs2⟩, hs3⟩ := hs
  by_cases hp : pureR r = true
  · rw [(rop_pure hp h).1]; exact NS.refl _
  · cases r <;> simp only [pureR, not_true_eq_false] at hp <;> simp only [kindOk] at hk
    case alloc => simp only [rop, Option.some.injEq, Prod.mk.injEq] at h; obtain ⟨_, rfl⟩ := h; exact NS.push _ _
    case box => simp only [rop, Option.some.injEq, Prod.mk.injEq] at h; obtain ⟨_, rfl⟩ := h; exact NS.push _ _
    case slice => simp only [rop, Option.map_eq_some_iff, Prod.mk.injEq] at h; obtain ⟨_, _, _, rfl⟩ := h; exact NS.refl _
    case buildSlice => simp only [rop, Option.map_eq_some_iff, Prod.mk.injEq] at h; obtain ⟨_, _, _, rfl⟩ := h; exact NS.push _ _
    case load =>
      simp only [rop] at h
      split at h
      · simp only [Option.map_eq_some_iff, Prod.mk.injEq] at h; obtain ⟨_, _, _, rfl⟩ := h; exact NS.refl _
      · simp at h
    case store => rw [hk] at hs1; simp at hs1
    case makeSlice =>
      simp only [rop] at h
      split at h
      · split at h
        · simp only [Option.some.injEq, Prod.mk.injEq] at h; obtain ⟨_, rfl⟩ := h; exact NS.push _ _
        · simp at h
      · simp at h
    case call f args =>
      have hfree : free = false := by rcases hs3 with ⟨h1, _⟩ | h1; · rw [hk] at h1; simp at h1
                                      · exact h1
      subst hfree
      simp only [rop] at h
      split at h
      · have := hcall _ _ _ _ _ _ h
        exact ⟨this.len, fun b hb => .inl (this.low b (by simpa using hb) hb)⟩
      · simp at h
    case callS f args =>
      have hfree : free = false := by rcases hs3 with ⟨h1, _⟩ | h1; · rw [hk] at h1; simp at h1
                                      · exact h1
      subst hfree
      simp only [rop] at h
      have := hcall _ _ _ _ _ _ h
      exact ⟨this.len, fun b hb => .inl (this.low b (by simpa using hb) hb)⟩
    case append e by' x y =>
      have hfree : free = false := by rcases hs3 with ⟨_, h1⟩ | h1; · rw [hk] at h1; simp at h1
                                      · exact h1
      subst hfree
      simp only [rop] at h
      split at h
      · simp only [Option.bind_eq_some_iff] at h
        obtain ⟨_, _, h⟩ := h
        exact ns_append h
      · simp at h
    case tomb => simp only [rop, Option.some.injEq, Prod.mk.injEq] at h; obtain ⟨_, rfl⟩ := h; exact NS.push _ _
    case copy => rw [hk] at hs2; simp at hs2
    case clear => rw [hk] at hs2; simp at hs2

end Go.RM

/-
  A region: the invariant over the set of operations that have run, and how each operation keeps it.
-/
namespace Go.RM
set_option linter.unusedSimpArgs false

def CallSound (P : Program) (call : Nat → Nat → List AV → Heap → Option (AV × Heap)) : Prop :=
  ∀ flx g args H v H', call flx g args H = some (v, H') → (∃ fn, P.funcs[g]? = some fn ∧ fn.body.isSome = true ∧ fn.name ≠ "runtime.NumGoroutine") ∧
    ∀ n0 base m w cargs, n0 ≤ flx → Sim n0 base m H w → VRels m args cargs → (∀ b, H.length ≤ b → b < H'.length → m b = none) →
      Calls P g ⟨cargs⟩ w (fun e w' => ∃ v' m', e = .returned v' ∧ VRel m' v v' ∧ Step n0 base flx m H w m' H' w')

def StepAt (call : Nat → Nat → List AV → Heap → Option (AV × Heap)) (fl : Nat) (E L : List AV) (Hs : Nat → Heap) (i : Nat) (ro : ROper) : Prop :=
  (wantedB ro.guard (L.take i) = true ∧ ∃ v, L[i]? = some v ∧ rop call fl ro.free (RX.ev (L.take i) E) (Hs i) ro.op = some (v, Hs (i + 1))) ∨
  (wantedB ro.guard (L.take i) = false ∧ L[i]? = some .undef ∧ Hs (i + 1) = Hs i)

structure Ctx (P : Program) (vars : List Nat) (nt : Nat) (draw : Bool) (all : List Oper) (l : List ROper) (call : Nat → Nat → List AV → Heap → Option (AV × Heap)) (fl : Nat) (E L : List AV) (Hs : Nat → Heap) (n0 : Nat) : Prop where
  flow : n0 ≤ fl
  llen : L.length = all.length
  comp : ∀ (i : Nat) (o : Oper), all[i]? = some o → ∃ ro, l[i]? = some ro ∧ Comp P vars nt draw (ancs [] all) all i o ro ∧ StepAt call fl E L Hs i ro
  facts : CallFacts call
  sound : CallSound P call
  nodup : nodupB vars = true
  kids0 : KidsOk (Hs 0)
  low0 : n0 ≤ (Hs 0).length

section
variable {P : Program} {vars : List Nat} {nt : Nat} {draw : Bool} {all : List Oper} {l : List ROper} {call : Nat → Nat → List AV → Heap → Option (AV × Heap)} {fl : Nat} {E L : List AV} {Hs : Nat → Heap} {n0 base : Nat}

def solidAt (all : List Oper) (l : List ROper) (j : Nat) : Prop := ∃ o ro, all[j]? = some o ∧ l[j]? = some ro ∧ solidB o ro.free = true

theorem Ctx.stepFacts (C : Ctx P vars nt draw all l call fl E L Hs n0) {i : Nat} (hi : i < all.length) : Facts fl (Hs i) (Hs (i + 1)) := by
  obtain ⟨ro, _, _, h⟩ := C.comp i _ (List.getElem?_eq_getElem hi)
  rcases h with ⟨_, v, _, h⟩ | ⟨_, _, h⟩
  · exact rop_facts' C.facts h
  · rw [h]; exact Facts.refl _ _

theorem Ctx.factsTo (C : Ctx P vars nt draw all l call fl E L Hs n0) : ∀ {i j : Nat}, i ≤ j → j ≤ all.length → Facts fl (Hs i) (Hs j) := by
  intro i j hij hj
  induction j with
  | zero => have : i = 0 := by omega
            subst this; exact Facts.refl _ _
  | succ j ih =>
    by_cases e : i = j + 1
    · subst e; exact Facts.refl _ _
    · exact (ih (by omega) (by omega)).trans (C.stepFacts (by omega))

theorem Ctx.kids (C : Ctx P vars nt draw all l call fl E L Hs n0) {i : Nat} (hi : i ≤ all.length) : KidsOk (Hs i) := (C.factsTo (Nat.zero_le i) hi).kids C.kids0

theorem Ctx.ns (C : Ctx P vars nt draw all l call fl E L Hs n0) {i : Nat} (hi : i < all.length) (hn : ¬ solidAt all l i) : NS (Hs i) (Hs (i + 1)) := by
  obtain ⟨ro, h1, h2, h⟩ := C.comp i _ (List.getElem?_eq_getElem hi)
  rcases h with ⟨_, v, _, h⟩ | ⟨_, _, h⟩
  · obtain ⟨ap, _, hc, _⟩ := h2.code
    refine rop_ns C.facts (compile_kind hc) ?_ h
    cases hsol : solidB all[i] ro.free with
    | false => exact hsol
    | true => exact absurd ⟨_, ro, List.getElem?_eq_getElem hi, h1, hsol⟩ hn
  · rw [h]; exact NS.refl _

theorem next_solid (all : List Oper) (l : List ROper) : ∀ (k p : Nat), p + k = all.length → ∃ d, p + d ≤ all.length ∧ (∀ j, p ≤ j → j < p + d → ¬ solidAt all l j) ∧ (p + d = all.length ∨ solidAt all l (p + d))
  | 0, p, h => ⟨0, by omega, fun j h1 h2 => by omega, .inl (by omega)⟩
  | k + 1, p, h => by
    by_cases hs : solidAt all l p
    · exact ⟨0, by omega, fun j h1 h2 => by omega, .inr hs⟩
    · obtain ⟨d, h1, h2, h3⟩ := next_solid all l k (p + 1) (by omega)
      refine ⟨d + 1, by omega, fun j g1 g2 => ?_, by rwa [show p + (d + 1) = p + 1 + d by omega]⟩
      by_cases e : j = p
      · subst e; exact hs
      · exact h2 j (by omega) (by omega)

def Rk (Hs : Nat → Heap) (S : Nat → Bool) (p d b b' : Nat) : Prop := ∃ j, S j = true ∧ p ≤ j ∧ j < p + d ∧ (Hs j).length ≤ b' ∧ ((Hs j).act b).isSome = true ∧ (Hs (j + 1)).act b = none

structure Tmps (vars : List Nat) (nt : Nat) (all : List Oper) (E L : List AV) (S : Nat → Bool) (m : BMap) (a : Act) : Prop where
  size : nt ≤ a.tmps.size
  done : ∀ (t j : Nat) (v : AV), writer t all 0 = some j → S j = true → L[j]? = some v → VRel m v (a.tmps.getD t undef)
  old : ∀ (y t : Nat), vars[y]? = some t → (∀ j, writer t all 0 = some j → S j = false) → VRel m (E.getD y .undef) (a.tmps.getD t undef)

structure Inv (vars : List Nat) (nt : Nat) (draw : Bool) (all : List Oper) (l : List ROper) (fl : Nat) (E L : List AV) (Hs : Nat → Heap) (n0 base : Nat) (m0 : BMap) (w0 : World) (S : Nat → Bool) (p d : Nat) (m : BMap) (a : Act) (w : World) : Prop where
  hq : p + d ≤ all.length
  ns : ∀ j, p ≤ j → j < p + d → ¬ solidAt all l j
  qend : p + d = all.length ∨ solidAt all l (p + d)
  pstart : p = 0 ∨ solidAt all l (p - 1)
  slt : ∀ j, S j = true → j < all.length
  closed : ∀ j k, S j = true → preB draw (ancs [] all) k j = true → S k = true
  solid : ∀ j, solidAt all l j → (S j = true ↔ j < p)
  dom : ∀ b lo, m b = some lo → b < (Hs p).length ∨ (∃ j, S j = true ∧ p ≤ j ∧ j < p + d ∧ (Hs j).length ≤ b ∧ b < (Hs (j + 1)).length) ∨ (Hs all.length).length ≤ b
  wsz : base ≤ w.heap.size
  cells : ∀ b k lo, (hv Hs p d).act b = some k → m b = some lo → lo.e = k.e ∧ k.cells.length ≤ lo.room ∧ CellsAt m w lo k.cells
  ro : ∀ b lo, b < n0 → m b = some lo → lo.cb < base
  own : ∀ b k lo, n0 ≤ b → (hv Hs p d).act b = some k → m b = some lo → base ≤ lo.cb ∧ lo.cb < w.heap.size ∧ Room w lo
  excl : ∀ b b' k k' lo lo', n0 ≤ b → n0 ≤ b' → (hv Hs p d).act b = some k → (hv Hs p d).act b' = some k' → m b = some lo → m b' = some lo' → lo.cb = lo'.cb →
    b = b' ∨ KidOf k lo b' k' lo' ∨ KidOf k' lo' b k lo ∨ (Rk Hs S p d b b' ∧ lo.co + k.cells.length ≤ lo'.co + k'.cells.length) ∨ (Rk Hs S p d b' b ∧ lo'.co + k'.cells.length ≤ lo.co + k.cells.length)
  es : ∀ (b : Nat) (k : Blk) (lo : Loc), (hv Hs p d)[b]? = some k → m b = some lo → lo.e = k.e
  ext : Ext m0 m
  new : ∀ b lo, m b = some lo → m0 b = none → (Hs 0).length ≤ b ∧ b < (Hs all.length).length
  os : w.os = w0.os
  tape : w.tape = w0.tape
  output : w.output = w0.output
  size : w0.heap.size ≤ w.heap.size
  frame : ∀ c, c < w0.heap.size → ¬ Hit fl m0 (Hs 0) c → w.heap[c]? = w0.heap[c]?
  hits : ∀ c, c < w0.heap.size → Hit fl m (hv Hs p d) c → Hit fl m0 (Hs 0) c
  tmps : Tmps vars nt all E L S m a

end
end Go.RM

/-
  A region: what the invariant gives to the next operation.
-/
namespace Go.RM
set_option linter.unusedSimpArgs false
set_option linter.unusedVariables false

theorem killed_act {H : Heap} {b : Nat} {k : Blk} (h : H[b]? = some (killed k)) : H.act b = none := by
  unfold Heap.act; rw [h]; simp [killed, Heap.rev]

theorem act_back {H H' : Heap} (h : NS H H') (hk : KidsOk H) {b : Nat} {k : Blk} (hb : b < H.length) (ha : H'.act b = some k) : H.act b = some k := by
  have hg := act_get ha
  have hHb : H[b]? = some k := by
    rcases h.2 b hb with e | ⟨k0, e1, e2, e3⟩
    · rw [← e]; exact hg
    · rw [killed_act e3] at ha; simp at ha
  by_cases hl : k.live = true
  · exact act_of hHb (.inl hl)
  · refine act_of hHb (.inr ?_)
    unfold Heap.act at ha
    rw [hg] at ha
    simp only [hl, Bool.false_or] at ha
    split at ha
    · rename_i hr
      unfold Heap.rev at hr ⊢
      simp only [hl] at hr ⊢
      cases hc : k.kid with
      | none => simp [hc] at hr
      | some c =>
        simp only [hc] at hr ⊢
        rcases h.2 c (hk b c k hHb hc) with e | ⟨k0, e1, e2, e3⟩
        · rw [← e]; exact hr
        · simp [e3, killed] at hr
    · simp at ha

theorem NS.trans {H1 H2 H3 : Heap} (a : NS H1 H2) (b : NS H2 H3) : NS H1 H3 := by
  refine ⟨Nat.le_trans a.1 b.1, fun x hx => ?_⟩
  rcases b.2 x (Nat.lt_of_lt_of_le hx a.1) with e | ⟨k, e1, e2, e3⟩
  · rw [e]; exact a.2 x hx
  · rcases a.2 x hx with f | ⟨k', f1, f2, f3⟩
    · exact .inr ⟨k, by rw [← f]; exact e1, e2, e3⟩
    · rw [f3] at e1; cases e1; simp [killed] at e2

section
variable {P : Program} {vars : List Nat} {nt : Nat} {draw : Bool} {all : List Oper} {l : List ROper} {call : Nat → Nat → List AV → Heap → Option (AV × Heap)} {fl : Nat} {E L : List AV} {Hs : Nat → Heap} {n0 base : Nat}
variable {m0 : BMap} {w0 : World} {S : Nat → Bool} {p d : Nat} {m : BMap} {a : Act} {w : World}

theorem Ctx.len (C : Ctx P vars nt draw all l call fl E L Hs n0) {i j : Nat} (hij : i ≤ j) (hj : j ≤ all.length) : (Hs i).length ≤ (Hs j).length := (C.factsTo hij hj).len

theorem Inv.nss (C : Ctx P vars nt draw all l call fl E L Hs n0) (I : Inv vars nt draw all l fl E L Hs n0 base m0 w0 S p d m a w) : ∀ j, p ≤ j → j < p + d → NS (Hs j) (Hs (j + 1)) := fun j h1 h2 =>
  C.ns (by have := I.hq; omega) (I.ns j h1 h2)

theorem Inv.nsTo (C : Ctx P vars nt draw all l call fl E L Hs n0) (I : Inv vars nt draw all l fl E L Hs n0 base m0 w0 S p d m a w) {i j : Nat} (h1 : p ≤ i) (h2 : i ≤ j) (h3 : j ≤ p + d) : NS (Hs i) (Hs j) := by
  induction j with
  | zero => have : i = 0 := by omega
            subst this; exact NS.refl _
  | succ j ih =>
    by_cases e : i = j + 1
    · subst e; exact NS.refl _
    · exact (ih (by omega) (by omega)).trans (I.nss C j (by omega) (by omega))

theorem Inv.kd (C : Ctx P vars nt draw all l call fl E L Hs n0) (I : Inv vars nt draw all l fl E L Hs n0 base m0 w0 S p d m a w) {i : Nat} (h1 : p ≤ i) (h2 : i ≤ p + d) : Kd (Hs i) (hv Hs p d) := by
  have := hv_kd (I.nss C) (i - p) (by omega)
  rwa [show p + (i - p) = i by omega] at this

theorem Inv.vlen (C : Ctx P vars nt draw all l call fl E L Hs n0) (I : Inv vars nt draw all l fl E L Hs n0 base m0 w0 S p d m a w) : (hv Hs p d).length = (Hs (p + d)).length := hv_length (I.nss C)

/-- Which blocks are mapped: those that operations that have run made. -/
theorem Inv.below (C : Ctx P vars nt draw all l call fl E L Hs n0) (I : Inv vars nt draw all l fl E L Hs n0 base m0 w0 S p d m a w) {b : Nat} {lo : Loc} (hm : m b = some lo) (hb : b < (Hs all.length).length) : b < (Hs (p + d)).length := by
  rcases I.dom b lo hm with h | ⟨j, _, h1, h2, _, h3⟩ | h
  · exact Nat.lt_of_lt_of_le h (C.len (Nat.le_add_right p d) I.hq)
  · exact Nat.lt_of_lt_of_le h3 (C.len (by omega) I.hq)
  · omega

theorem Inv.esAt (C : Ctx P vars nt draw all l call fl E L Hs n0) (I : Inv vars nt draw all l fl E L Hs n0 base m0 w0 S p d m a w) {i : Nat} (hi : i ≤ all.length) {b : Nat} {k : Blk} {lo : Loc} (hk : (Hs i)[b]? = some k) (hm : m b = some lo) : lo.e = k.e := by
  have hb : b < (Hs all.length).length := Nat.lt_of_lt_of_le (get_lt hk) (C.len hi (Nat.le_refl _))
  have hb2 := I.below C hm hb
  obtain ⟨k2, hk2⟩ : ∃ k2, (Hs (p + d))[b]? = some k2 := ⟨_, List.getElem?_eq_getElem hb2⟩
  have e1 : k.e = k2.e := by
    rcases Nat.le_total i (p + d) with h | h
    · exact ((C.factsTo h I.hq).es b k k2 hk hk2).symm
    · exact (C.factsTo h hi).es b k2 k hk2 hk
  rw [e1]
  have := I.kd C (Nat.le_add_right p d) (Nat.le_refl _)
  rcases this.2 b hb2 with e | ⟨k3, e1, _, e3⟩
  · exact I.es b k2 lo (by rw [← e]; exact hk2) hm
  · rw [e3] at hk2; cases hk2
    exact I.es b k3 lo (by assumption) hm

theorem Inv.sim (C : Ctx P vars nt draw all l call fl E L Hs n0) (I : Inv vars nt draw all l fl E L Hs n0 base m0 w0 S p d m a w) {i : Nat} (h1 : p ≤ i) (h2 : i ≤ p + d) : Sim n0 base m (Hs i) w := by
  have hi : i ≤ all.length := by have := I.hq; omega
  have hk := C.kids hi
  have hact : ∀ {b : Nat} {k : Blk}, (Hs i).act b = some k → (hv Hs p d).act b = some k := fun ha => (I.kd C h1 h2).act hk ha
  have hrk : ∀ b b' kb kb', (Hs i).act b = some kb → (Hs i).act b' = some kb' → ¬ Rk Hs S p d b b' := fun b b' kb kb' ha ha' ⟨j, _, j1, j2, j3, j4, j5⟩ => by
    have hb' := act_lt ha'
    have hji : j < i := by
      rcases Nat.lt_or_ge j i with h | h
      · exact h
      · have := C.len h (by have := I.hq; omega); omega
    obtain ⟨kj, hkj⟩ := Option.isSome_iff_exists.1 j4
    have hbj := act_lt hkj
    have := act_back (I.nsTo C (by omega) (show j + 1 ≤ i by omega) h2) (C.kids (by omega)) (Nat.lt_of_lt_of_le hbj (C.len (by omega) (by omega))) ha
    rw [j5] at this; simp at this
  refine ⟨I.wsz, Nat.le_trans C.low0 (C.len (Nat.zero_le i) hi), hk, fun b k lo hb hm => I.esAt C hi hb hm, fun b k lo ha hm => I.cells b k lo (hact ha) hm, I.ro, fun b k lo hb ha hm => I.own b k lo hb (hact ha) hm, fun b b' k k' lo lo' hb hb' ha ha' hm hm' he => ?_⟩
  rcases I.excl b b' k k' lo lo' hb hb' (hact ha) (hact ha') hm hm' he with h | h | h | ⟨h, _⟩ | ⟨h, _⟩
  · exact .inl h
  · exact .inr (.inl h)
  · exact .inr (.inr h)
  · exact absurd h (hrk b b' k k' ha ha')
  · exact absurd h (hrk b' b k' k ha' ha)

/-- What an operation of the stretch makes has no place yet. -/
theorem Inv.fresh (C : Ctx P vars nt draw all l call fl E L Hs n0) (I : Inv vars nt draw all l fl E L Hs n0 base m0 w0 S p d m a w) {i : Nat} (h1 : p ≤ i) (h2 : i < all.length) (hS : S i = false) {b : Nat} (hb1 : (Hs i).length ≤ b) (hb2 : b < (Hs (i + 1)).length) : m b = none := by
  cases hm : m b with
  | none => rfl
  | some lo =>
    exfalso
    rcases I.dom b lo hm with h | ⟨j, hj, j1, j2, j3, j4⟩ | h
    · have := C.len h1 (by omega : i ≤ all.length); omega
    · have hq := I.hq
      rcases Nat.lt_trichotomy j i with e | e | e
      · have := C.len (show j + 1 ≤ i by omega) (by omega); omega
      · subst e; rw [hj] at hS; simp at hS
      · have := C.len (show i + 1 ≤ j by omega) (by omega); omega
    · have := C.len (show i + 1 ≤ all.length by omega) (Nat.le_refl _); omega

theorem pre_of_ord {A : List Nat} {s i : Nat} (h : ordB draw A s i = true) : (i < s ∧ preB draw A i s = true) ∨ (s ≤ i ∧ preB draw A s i = true) := by
  unfold ordB at h
  split at h
  · exact .inl ⟨by assumption, h⟩
  · exact .inr ⟨by omega, h⟩

/-- Where the next operation lies. -/
theorem Inv.pos (C : Ctx P vars nt draw all l call fl E L Hs n0) (I : Inv vars nt draw all l fl E L Hs n0 base m0 w0 S p d m a w) {i : Nat} {o : Oper} {ro : ROper} (ho : all[i]? = some o) (hro : l[i]? = some ro)
    (ht : touches o.op = true) (hl : isLoad o.op = false) (hS : S i = false) (hpre : ∀ k, preB draw (ancs [] all) k i = true → S k = true) :
    p ≤ i ∧ ((i < p + d ∧ solidB o ro.free = false) ∨ (i = p + d ∧ solidB o ro.free = true)) := by
  have hil : i < all.length := (List.getElem?_eq_some_iff.1 ho).1
  have key : ∀ s, solidAt all l s → s ≠ i → (i < s ∧ S s = false) ∨ (s < i ∧ S s = true) := fun s ⟨os, rs, h1, h2, h3⟩ hne => by
    obtain ⟨rs', g1, g2, _⟩ := C.comp s os h1
    rw [h2] at g1; cases g1
    rcases pre_of_ord (solid_ord g2 h3 ho (Ne.symm hne) ht hl) with ⟨h, hp⟩ | ⟨h, hp⟩
    · refine .inl ⟨h, ?_⟩
      cases hs : S s with
      | false => rfl
      | true => rw [I.closed s i hs hp] at hS; simp at hS
    · exact .inr ⟨by omega, hpre s hp⟩
  have h1 : p ≤ i := by
    rcases I.pstart with h | h
    · omega
    · by_cases e : p = 0
      · omega
      · have hs : S (p - 1) = true := (I.solid (p - 1) h).2 (by omega)
        have hne : p - 1 ≠ i := fun e' => by rw [e', hS] at hs; simp at hs
        rcases key (p - 1) h hne with ⟨_, g⟩ | ⟨g, _⟩
        · rw [hs] at g; simp at g
        · omega
  refine ⟨h1, ?_⟩
  have hsol : solidB o ro.free = true ↔ solidAt all l i := ⟨fun h => ⟨o, ro, ho, hro, h⟩, fun ⟨o', r', a1, a2, a3⟩ => by rw [ho] at a1; rw [hro] at a2; cases a1; cases a2; exact a3⟩
  rcases Nat.lt_trichotomy i (p + d) with h | h | h
  · refine .inl ⟨h, ?_⟩
    cases hb : solidB o ro.free with
    | false => rfl
    | true => exact absurd (hsol.1 hb) (I.ns i h1 h)
  · refine .inr ⟨h, ?_⟩
    rcases I.qend with h' | h'
    · omega
    · rw [h] at hsol; exact hsol.2 h'
  · exfalso
    rcases I.qend with h' | h'
    · omega
    · rcases key (p + d) h' (by omega) with ⟨g, _⟩ | ⟨_, g⟩
      · omega
      · have := (I.solid (p + d) h').1 g; omega

/-! ### Operands, guards, temporaries -/

theorem Inv.opnd (C : Ctx P vars nt draw all l call fl E L Hs n0) (I : Inv vars nt draw all l fl E L Hs n0 base m0 w0 S p d m a w) {i : Nat} (hi : i < all.length) (hS : S i = false) (hpre : ∀ k, preB draw (ancs [] all) k i = true → S k = true)
    {x : Operand} {rx : RX} (h : resAt vars draw (ancs [] all) all i x = some rx) : VRel m (RX.ev (L.take i) E rx) (a.eval x) := by
  cases x with
  | tmp t =>
    simp only [resAt] at h
    split at h
    · rename_i j hj
      split at h
      · rename_i hji
        split at h
        · rename_i hp
          simp only [Option.some.injEq] at h; subst h
          have hjl : j < L.length := by rw [C.llen]; omega
          have := I.tmps.done t j L[j] hj (hpre j hp) (List.getElem?_eq_getElem hjl)
          simp only [RX.ev, Act.eval]
          rw [List.getD_eq_getElem?_getD, List.getElem?_take_of_lt hji, List.getElem?_eq_getElem hjl]
          exact this
        · simp at h
      · split at h
        · rename_i hc
          simp only [Option.map_eq_some_iff] at h
          obtain ⟨y, hy, rfl⟩ := h
          refine I.tmps.old y t (idx_some hy) fun j' hj' => ?_
          rw [hj] at hj'; cases hj'
          rcases hc with rfl | hc
          · exact hS
          · cases hs : S j with
            | false => rfl
            | true => rw [I.closed j i hs hc] at hS; simp at hS
        · simp at h
    · rename_i hn
      simp only [Option.map_eq_some_iff] at h
      obtain ⟨y, hy, rfl⟩ := h
      exact I.tmps.old y t (idx_some hy) fun j' hj' => by rw [hn] at hj'; simp at hj'
  | const v =>
    simp only [resAt, Option.map_eq_some_iff] at h
    obtain ⟨v', hv, rfl⟩ := h
    exact ofConst_rel m hv
  | func f =>
    simp only [resAt, Option.some.injEq] at h; subst h
    exact ⟨[], rfl, trivial⟩
  | global g => simp [resAt] at h

theorem Inv.guard (C : Ctx P vars nt draw all l call fl E L Hs n0) (I : Inv vars nt draw all l fl E L Hs n0 base m0 w0 S p d m a w) {i : Nat} {o : Oper} {ro : ROper} (ho : all[i]? = some o)
    (hc : Comp P vars nt draw (ancs [] all) all i o ro) (hpre : ∀ k, preB draw (ancs [] all) k i = true → S k = true) :
    Region.wanted o (yielded all.toArray a.tmps) = wantedB ro.guard (L.take i) := by
  have hil : i < all.length := (List.getElem?_eq_some_iff.1 ho).1
  unfold Region.wanted wantedB
  rw [hc.guard.1]
  cases hg : o.guard with
  | none => rfl
  | some gb =>
    obtain ⟨g, b⟩ := gb
    obtain ⟨h1, h2, h3⟩ := hc.guard.2 g b hg
    obtain ⟨t, ht⟩ := Option.isSome_iff_exists.1 h3
    simp only [Option.bind_eq_some_iff] at ht
    obtain ⟨og, hog, hot⟩ := ht
    obtain ⟨rg, _, cg, _⟩ := C.comp g og hog
    obtain ⟨ht1, ht2⟩ := cg.dst t hot
    have ht1 : @LT.lt Nat _ t nt := ht1
    have hgl : g < L.length := by rw [C.llen]; omega
    have hv := I.tmps.done t g L[g] ht2 (hpre g h2) (List.getElem?_eq_getElem hgl)
    have hsz := I.tmps.size
    have hty : a.tmps[t]? = some (a.tmps.getD t undef) := by
      rw [Array.getD_eq_getD_getElem?, Array.getElem?_eq_getElem (by omega)]; rfl
    simp only [yielded, List.getElem?_toArray, hog, Option.bind_some, hot, hty, List.getElem?_take_of_lt h1, List.getElem?_eq_getElem hgl]
    revert hv
    generalize a.tmps.getD t undef = v
    intro hv
    cases hL : L[g] with
    | bool b' => rw [hL] at hv; cases hv; simp
    | int k n => rw [hL] at hv; cases hv; simp
    | str s => rw [hL] at hv; cases hv; simp
    | ptr b o => rw [hL] at hv; obtain ⟨_, _, rfl⟩ := hv; simp
    | nilptr => rw [hL] at hv; cases hv; simp
    | slice b o n l => rw [hL] at hv; obtain ⟨_, _, rfl, _⟩ := hv; simp
    | empty => rw [hL] at hv; obtain ⟨_, rfl⟩ := hv; simp
    | func f c => rw [hL] at hv; obtain ⟨_, rfl, _⟩ := hv; simp
    | nilfunc => rw [hL] at hv; cases hv; simp
    | agg cs => rw [hL] at hv; obtain ⟨_, rfl, _⟩ := hv; simp
    | tuple cs => rw [hL] at hv; obtain ⟨_, rfl, _⟩ := hv; simp

def setS (S : Nat → Bool) (i : Nat) : Nat → Bool := fun j => j == i || S j
theorem setS_true {j i : Nat} : setS S i j = true ↔ j = i ∨ S j = true := by simp [setS]

theorem Tmps.put (C : Ctx P vars nt draw all l call fl E L Hs n0) (T : Tmps vars nt all E L S m a) {i : Nat} {o : Oper} {ro : ROper} (ho : all[i]? = some o) (hc : Comp P vars nt draw (ancs [] all) all i o ro)
    {m' : BMap} (he : Ext m m') {v : AV} (hL : L[i]? = some v) {v' : Value} (hv : VRel m' v v') : Tmps vars nt all E L (setS S i) m' (a.put o.dst v') := by
  have hget : ∀ t, o.dst ≠ some t → (a.put o.dst v').tmps.getD t undef = a.tmps.getD t undef := fun t ht => by
    cases hd : o.dst with
    | none => rfl
    | some t' =>
      have : t' ≠ t := fun e => ht (by rw [hd, e])
      simp [Act.put, Array.getElem?_setIfInBounds_ne this]
  refine ⟨?_, fun t j u hw hs hu => ?_, fun y t hy hall => ?_⟩
  · cases hd : o.dst with
    | none => exact T.size
    | some t' => simpa [Act.put] using T.size
  · rcases setS_true.1 hs with e | e
    · subst e
      rw [hL] at hu; cases hu
      obtain ⟨_, o', ho', hd'⟩ := writer_some hw
      rw [Nat.sub_zero, ho] at ho'; cases ho'
      have : @LT.lt Nat _ t nt := (hc.dst t hd').1
      have hsz := T.size
      simp only [hd', Act.put]
      rw [Array.getD_eq_getD_getElem?, Array.getElem?_setIfInBounds_self_of_lt (by omega)]
      exact hv
    · by_cases hji : j = i
      · subst hji
        rw [hL] at hu; cases hu
        obtain ⟨_, o', ho', hd'⟩ := writer_some hw
        rw [Nat.sub_zero, ho] at ho'; cases ho'
        have : @LT.lt Nat _ t nt := (hc.dst t hd').1
        have hsz := T.size
        simp only [hd', Act.put]
        rw [Array.getD_eq_getD_getElem?, Array.getElem?_setIfInBounds_self_of_lt (by omega)]
        exact hv
      · rw [hget t fun h => by have := (hc.dst t h).2; rw [hw] at this; cases this; exact hji rfl]
        exact (T.done t j u hw e hu).mono he
  · rw [hget t fun h => by
      have := hall i (hc.dst t h).2
      simp [setS] at this]
    refine (T.old y t hy fun j hj => ?_).mono he
    have := hall j hj
    simp only [setS, Bool.or_eq_false_iff] at this
    exact this.2

end
end Go.RM

/-
  A region: how each operation keeps the invariant.
-/
namespace Go.RM
set_option linter.unusedSimpArgs false
set_option linter.unusedVariables false

section
variable {P : Program} {vars : List Nat} {nt : Nat} {draw : Bool} {all : List Oper} {l : List ROper} {call : Nat → Nat → List AV → Heap → Option (AV × Heap)} {fl : Nat} {E L : List AV} {Hs : Nat → Heap} {n0 base : Nat}
variable {m0 : BMap} {w0 : World} {S : Nat → Bool} {p d : Nat} {m : BMap} {a : Act} {w : World}

theorem Inv.lt_size (I : Inv vars nt draw all l fl E L Hs n0 base m0 w0 S p d m a w) {b : Nat} {k : Blk} {lo : Loc} (ha : (hv Hs p d).act b = some k) (hm : m b = some lo) : lo.cb < w.heap.size := by
  by_cases hb : n0 ≤ b
  · exact (I.own b k lo hb ha hm).2.1
  · have := I.ro b lo (by omega) hm
    have := I.wsz
    omega

theorem Rk.mono {S' : Nat → Bool} (h : ∀ j, S j = true → S' j = true) {b b' : Nat} (r : Rk Hs S p d b b') : Rk Hs S' p d b b' :=
  let ⟨j, h1, h2⟩ := r; ⟨j, h j h1, h2⟩

/-- What an operation that yields its value does to the act. -/
structure OldKept (w w' : World) : Prop where
  os : w'.os = w.os
  tape : w'.tape = w.tape
  output : w'.output = w.output
  size : w.heap.size ≤ w'.heap.size

structure Ready (draw : Bool) (all : List Oper) (S : Nat → Bool) (i : Nat) : Prop where
  un : S i = false
  pre : ∀ k, preB draw (ancs [] all) k i = true → S k = true

theorem Inv.closed_set (I : Inv vars nt draw all l fl E L Hs n0 base m0 w0 S p d m a w) {i : Nat} (hr : Ready draw all S i) : ∀ j k, setS S i j = true → preB draw (ancs [] all) k j = true → setS S i k = true := fun j k hj hp => by
  rcases setS_true.1 hj with e | e
  · subst e; exact setS_true.2 (.inr (hr.pre k hp))
  · exact setS_true.2 (.inr (I.closed j k e hp))

theorem Inv.slt_set (I : Inv vars nt draw all l fl E L Hs n0 base m0 w0 S p d m a w) {i : Nat} (hi : i < all.length) : ∀ j, setS S i j = true → j < all.length := fun j hj => by
  rcases setS_true.1 hj with e | e
  · subst e; exact hi
  · exact I.slt j e

theorem Inv.solid_set (I : Inv vars nt draw all l fl E L Hs n0 base m0 w0 S p d m a w) {i : Nat} (hn : ¬ solidAt all l i) : ∀ j, solidAt all l j → (setS S i j = true ↔ j < p) := fun j hj => by
  rw [setS_true, ← I.solid j hj]
  constructor
  · rintro (e | e)
    · subst e; exact absurd hj hn
    · exact e
  · exact .inr

/-- An operation that leaves the old blocks alone, and makes no block. -/
theorem Inv.still (C : Ctx P vars nt draw all l call fl E L Hs n0) (I : Inv vars nt draw all l fl E L Hs n0 base m0 w0 S p d m a w) {i : Nat} {o : Oper} {ro : ROper} (ho : all[i]? = some o) (hc : Comp P vars nt draw (ancs [] all) all i o ro)
    (hr : Ready draw all S i) (hn : ¬ solidAt all l i) {w' : World} (hw : OldKept w w') (hold : ∀ c, c < w.heap.size → w'.heap[c]? = w.heap[c]?) {v : AV} {v' : Value} (hL : L[i]? = some v) (hv : VRel m v v') :
    Inv vars nt draw all l fl E L Hs n0 base m0 w0 (setS S i) p d m (a.put o.dst v') w' where
  hq := I.hq
  ns := I.ns
  qend := I.qend
  pstart := I.pstart
  slt := I.slt_set (List.getElem?_eq_some_iff.1 ho).1
  closed := I.closed_set hr
  solid := I.solid_set hn
  dom := fun b lo hm => by
    rcases I.dom b lo hm with h | ⟨j, h1, h2⟩ | h
    · exact .inl h
    · exact .inr (.inl ⟨j, setS_true.2 (.inr h1), h2⟩)
    · exact .inr (.inr h)
  wsz := Nat.le_trans I.wsz hw.size
  cells := fun b k lo ha hm => by
    obtain ⟨e1, e2, e3⟩ := I.cells b k lo ha hm
    exact ⟨e1, e2, cellsAt_mono e3 (Ext.refl m) fun j _ => cell_of_heap (hold _ (I.lt_size ha hm)) _⟩
  ro := I.ro
  own := fun b k lo hb ha hm => by
    obtain ⟨e1, e2, e3⟩ := I.own b k lo hb ha hm
    exact ⟨e1, Nat.lt_of_lt_of_le e2 hw.size, room_of_heap (hold _ e2) e3⟩
  excl := fun b b' k k' lo lo' hb hb' ha ha' hm hm' he => by
    have mono : ∀ {x y}, Rk Hs S p d x y → Rk Hs (setS S i) p d x y := fun r => r.mono fun j h => setS_true.2 (.inr h)
    exact (I.excl b b' k k' lo lo' hb hb' ha ha' hm hm' he).imp id (Or.imp id (Or.imp id (Or.imp (fun h => ⟨mono h.1, h.2⟩) (fun h => ⟨mono h.1, h.2⟩))))
  es := I.es
  ext := I.ext
  new := I.new
  os := hw.os.trans I.os
  tape := hw.tape.trans I.tape
  output := hw.output.trans I.output
  size := Nat.le_trans I.size hw.size
  frame := fun c hcl hh => by rw [hold c (Nat.lt_of_lt_of_le hcl I.size)]; exact I.frame c hcl hh
  hits := I.hits
  tmps := I.tmps.put C ho hc (Ext.refl m) hL hv

/-- The blocks that operation i makes, in the stretch's heap. -/
theorem Inv.hv_at (C : Ctx P vars nt draw all l call fl E L Hs n0) (I : Inv vars nt draw all l fl E L Hs n0 base m0 w0 S p d m a w) {i : Nat} (h1 : p ≤ i) (h2 : i < p + d) {b : Nat} (g1 : (Hs i).length ≤ b) (g2 : b < (Hs (i + 1)).length) :
    (hv Hs p d)[b]? = (Hs (i + 1))[b]? := by
  have := hv_new (I.nss C) (e := i - p) (by omega) (b := b) (by rwa [show p + (i - p) = i by omega]) (by rwa [show p + (i - p) = i by omega])
  rwa [show p + (i - p) = i by omega] at this

theorem Inv.new_act (C : Ctx P vars nt draw all l call fl E L Hs n0) (I : Inv vars nt draw all l fl E L Hs n0 base m0 w0 S p d m a w) {i : Nat} (h1 : p ≤ i) (h2 : i < p + d) {b : Nat} {k : Blk} (g1 : (Hs i).length ≤ b) (g2 : b < (Hs (i + 1)).length)
    (ha : (hv Hs p d).act b = some k) : (Hs (i + 1)).act b = some k := by
  have hil : i < all.length := by have := I.hq; omega
  have hb := I.hv_at C h1 h2 g1 g2
  refine act_same (V := hv Hs p d) hb (fun c hc => ?_) ha
  have hg : (Hs (i + 1))[b]? = some k := by rw [← hb]; exact act_get ha
  exact I.hv_at C h1 h2 ((C.stepFacts hil).new b c k g1 hg hc) (C.kids (by omega) b c k hg hc)

/-- A quiet operation: old blocks stay as they are, what is made lies in rows of its own. -/
theorem Inv.quiet (C : Ctx P vars nt draw all l call fl E L Hs n0) (I : Inv vars nt draw all l fl E L Hs n0 base m0 w0 S p d m a w) {i : Nat} {o : Oper} {ro : ROper} (ho : all[i]? = some o) (hc : Comp P vars nt draw (ancs [] all) all i o ro)
    (hr : Ready draw all S i) (hn : ¬ solidAt all l i) (h1 : p ≤ i) (h2 : i < p + d) {m' : BMap} {w' : World} (hst : Step n0 base (Hs i).length m (Hs i) w m' (Hs (i + 1)) w') {v : AV} {v' : Value} (hL : L[i]? = some v) (hv : VRel m' v v') :
    Inv vars nt draw all l fl E L Hs n0 base m0 w0 (setS S i) p d m' (a.put o.dst v') w' := by
  have hil : i < all.length := by have := I.hq; omega
  have hnohit : ∀ c, ¬ Hit (Hs i).length m (Hs i) c := fun c ⟨b, k, lo, g1, g2, _⟩ => by have := act_lt g2; omega
  have hold : ∀ c, c < w.heap.size → w'.heap[c]? = w.heap[c]? := fun c hcl => hst.frame c hcl (hnohit c)
  have hnew : ∀ {b lo}, m' b = some lo → m b = none → (Hs i).length ≤ b ∧ b < (Hs (i + 1)).length := fun h h' => hst.new _ _ h h'
  have hcase : ∀ {b : Nat} {k : Blk} {lo}, (RM.hv Hs p d).act b = some k → m' b = some lo → m b = some lo ∨ ((Hs (i + 1)).act b = some k ∧ w.heap.size ≤ lo.cb ∧ (Hs i).length ≤ b) := fun {b k lo} ha hm => by
    cases hmb : m b with
    | some lo1 => left; have := hst.ext b lo1 hmb; rw [hm] at this; cases this; rfl
    | none =>
      obtain ⟨g1, g2⟩ := hnew hm hmb
      have ha' := I.new_act C h1 h2 g1 g2 ha
      refine .inr ⟨ha', ?_, g1⟩
      rcases Nat.lt_or_ge lo.cb w.heap.size with h | h
      · exact absurd (hst.hits lo.cb h ⟨b, k, lo, g1, ha', hm, rfl⟩) (hnohit _)
      · exact h
  have hlow : n0 ≤ (Hs i).length := Nat.le_trans C.low0 (C.len (Nat.zero_le i) (by omega))
  refine ⟨I.hq, I.ns, I.qend, I.pstart, I.slt_set hil, I.closed_set hr, I.solid_set hn, ?_, Nat.le_trans I.wsz hst.size, ?_, ?_, ?_, ?_, ?_, I.ext.trans hst.ext, ?_, hst.os.trans I.os, hst.tape.trans I.tape, hst.output.trans I.output, Nat.le_trans I.size hst.size, ?_, ?_, I.tmps.put C ho hc hst.ext hL hv⟩
  · intro b lo hm
    cases hmb : m b with
    | some lo1 =>
      rcases I.dom b lo1 hmb with h | ⟨j, h1, h2⟩ | h
      · exact .inl h
      · exact .inr (.inl ⟨j, setS_true.2 (.inr h1), h2⟩)
      · exact .inr (.inr h)
    | none =>
      obtain ⟨g1, g2⟩ := hnew hm hmb
      exact .inr (.inl ⟨i, setS_true.2 (.inl rfl), h1, h2, g1, g2⟩)
  · intro b k lo ha hm
    rcases hcase ha hm with h | ⟨h, _, _⟩
    · obtain ⟨e1, e2, e3⟩ := I.cells b k lo ha h
      exact ⟨e1, e2, cellsAt_mono e3 hst.ext fun j _ => cell_of_heap (hold _ (I.lt_size ha h)) _⟩
    · exact hst.sim.cells b k lo h hm
  · intro b lo hb hm
    cases hmb : m b with
    | some lo1 => have := hst.ext b lo1 hmb; rw [hm] at this; cases this; exact I.ro b lo hb hmb
    | none => have := (hnew hm hmb).1; omega
  · intro b k lo hb ha hm
    rcases hcase ha hm with h | ⟨h, _, _⟩
    · obtain ⟨e1, e2, e3⟩ := I.own b k lo hb ha h
      exact ⟨e1, Nat.lt_of_lt_of_le e2 hst.size, room_of_heap (hold _ e2) e3⟩
    · exact hst.sim.own b k lo hb h hm
  · intro b b' k k' lo lo' hb hb' ha ha' hm hm' he
    have mono : ∀ {x y}, Rk Hs S p d x y → Rk Hs (setS S i) p d x y := fun r => r.mono fun j h => setS_true.2 (.inr h)
    rcases hcase ha hm with h | ⟨h, hs1, _⟩ <;> rcases hcase ha' hm' with h' | ⟨h', hs2, _⟩
    · exact (I.excl b b' k k' lo lo' hb hb' ha ha' h h' he).imp id (Or.imp id (Or.imp id (Or.imp (fun h => ⟨mono h.1, h.2⟩) (fun h => ⟨mono h.1, h.2⟩))))
    · have := I.lt_size ha h; omega
    · have := I.lt_size ha' h'; omega
    · rcases hst.sim.inj b b' k k' lo lo' hb hb' h h' hm hm' he with g | g | g
      · exact .inl g
      · exact .inr (.inl g)
      · exact .inr (.inr (.inl g))
  · intro b k lo hk hm
    cases hmb : m b with
    | some lo1 => have := hst.ext b lo1 hmb; rw [hm] at this; cases this; exact I.es b k lo hk hmb
    | none =>
      obtain ⟨g1, g2⟩ := hnew hm hmb
      rw [I.hv_at C h1 h2 g1 g2] at hk
      exact hst.sim.es b k lo hk hm
  · intro b lo hm hm0
    cases hmb : m b with
    | some lo1 => exact I.new b lo1 hmb hm0
    | none =>
      obtain ⟨g1, g2⟩ := hnew hm hmb
      exact ⟨Nat.le_trans (C.len (Nat.zero_le i) (by omega)) g1, Nat.lt_of_lt_of_le g2 (C.len (by omega) (Nat.le_refl _))⟩
  · intro c hcl hh
    rw [hold c (Nat.lt_of_lt_of_le hcl I.size)]; exact I.frame c hcl hh
  · rintro c hcl ⟨b, k, lo, g1, ha, hm, rfl⟩
    rcases hcase ha hm with h | ⟨_, h, _⟩
    · exact I.hits lo.cb hcl ⟨b, k, lo, g1, ha, h, rfl⟩
    · have := I.size; omega

/-- A solid operation ends the stretch; the next one begins. -/
theorem Inv.solidStep (C : Ctx P vars nt draw all l call fl E L Hs n0) (I : Inv vars nt draw all l fl E L Hs n0 base m0 w0 S p d m a w) {i : Nat} {o : Oper} {ro : ROper} (ho : all[i]? = some o) (hc : Comp P vars nt draw (ancs [] all) all i o ro)
    (hr : Ready draw all S i) (hsol : solidAt all l i) (hi : i = p + d) {m' : BMap} {w' : World} (hst : Step n0 base fl m (Hs i) w m' (Hs (i + 1)) w') {v : AV} {v' : Value} (hL : L[i]? = some v) (hv : VRel m' v v') :
    ∃ p' d', Inv vars nt draw all l fl E L Hs n0 base m0 w0 (setS S i) p' d' m' (a.put o.dst v') w' := by
  have hil : i < all.length := (List.getElem?_eq_some_iff.1 ho).1
  obtain ⟨d', hd1, hd2, hd3⟩ := next_solid all l (all.length - (i + 1)) (i + 1) (by omega)
  have hnss : ∀ j, i + 1 ≤ j → j < i + 1 + d' → NS (Hs j) (Hs (j + 1)) := fun j g1 g2 => C.ns (by omega) (hd2 j g1 g2)
  have hvl : (RM.hv Hs (i + 1) d').length = (Hs (i + 1 + d')).length := hv_length hnss
  have hk1 : KidsOk (Hs (i + 1)) := C.kids (by omega)
  -- what is mapped stands in the heap behind the operation
  have hnew : ∀ {b lo}, m' b = some lo → m b = none → (Hs i).length ≤ b ∧ b < (Hs (i + 1)).length := fun h h' => hst.new _ _ h h'
  have hdom : ∀ {b lo}, m' b = some lo → b < (Hs (i + 1)).length ∨ (Hs all.length).length ≤ b := fun {b lo} hm => by
    cases hmb : m b with
    | none => exact .inl (hnew hm hmb).2
    | some lo1 =>
      rcases I.dom b lo1 hmb with h | ⟨j, _, h1, h2, _, h3⟩ | h
      · exact .inl (Nat.lt_of_lt_of_le h (C.len (by omega) (by omega)))
      · exact .inl (Nat.lt_of_lt_of_le h3 (C.len (by omega) (by omega)))
      · exact .inr h
  have hlt : ∀ {b : Nat} {lo}, b < (RM.hv Hs (i + 1) d').length → m' b = some lo → b < (Hs (i + 1)).length := fun {b lo} hb hm => by
    rcases hdom hm with h | h
    · exact h
    · rw [hvl] at hb
      have := C.len hd1 (Nat.le_refl _); omega
  have hpre : ∀ {b : Nat}, b < (Hs (i + 1)).length → (RM.hv Hs (i + 1) d')[b]? = (Hs (i + 1))[b]? := fun {b} hb =>
    hv_prefix (Hs := Hs) (p := i + 1) (Nat.zero_le d') (b := b) hb
  have hact : ∀ {b : Nat} {k : Blk} {lo}, (RM.hv Hs (i + 1) d').act b = some k → m' b = some lo → (Hs (i + 1)).act b = some k := fun {b k lo} ha hm => by
    have hb := hlt (act_lt ha) hm
    have hg : (Hs (i + 1))[b]? = some k := by rw [← hpre hb]; exact act_get ha
    exact act_same (hpre hb) (fun c hcc => hpre (hk1 b c k hg hcc)) ha
  refine ⟨i + 1, d', ⟨hd1, hd2, hd3, .inr (by simpa using hsol), I.slt_set hil, I.closed_set hr, ?_, ?_, Nat.le_trans I.wsz hst.size, fun b k lo ha hm => hst.sim.cells b k lo (hact ha hm) hm, hst.sim.ro, fun b k lo hb ha hm => hst.sim.own b k lo hb (hact ha hm) hm, ?_, ?_,
    I.ext.trans hst.ext, ?_, hst.os.trans I.os, hst.tape.trans I.tape, hst.output.trans I.output, Nat.le_trans I.size hst.size, ?_, ?_, I.tmps.put C ho hc hst.ext hL hv⟩⟩
  · intro j hj
    rw [setS_true, I.solid j hj]
    constructor
    · rintro (e | e) <;> omega
    · intro h
      by_cases e : j = i
      · exact .inl e
      · right
        rcases Nat.lt_or_ge j p with h' | h'
        · exact h'
        · exact absurd hj (I.ns j h' (by omega))
  · intro b lo hm
    rcases hdom hm with h | h
    · exact .inl h
    · exact .inr (.inr h)
  · intro b b' k k' lo lo' hb hb' ha ha' hm hm' he
    rcases hst.sim.inj b b' k k' lo lo' hb hb' (hact ha hm) (hact ha' hm') hm hm' he with g | g | g
    · exact .inl g
    · exact .inr (.inl g)
    · exact .inr (.inr (.inl g))
  · intro b k lo hk hm
    rw [hpre (hlt (get_lt hk) hm)] at hk
    exact hst.sim.es b k lo hk hm
  · intro b lo hm hm0
    cases hmb : m b with
    | some lo1 => exact I.new b lo1 hmb hm0
    | none =>
      obtain ⟨g1, g2⟩ := hnew hm hmb
      exact ⟨Nat.le_trans (C.len (Nat.zero_le i) (by omega)) g1, Nat.lt_of_lt_of_le g2 (C.len (by omega) (Nat.le_refl _))⟩
  · intro c hcl hh
    rw [hst.frame c (Nat.lt_of_lt_of_le hcl I.size) ?_]
    · exact I.frame c hcl hh
    · rintro ⟨b, k, lo, g1, ha, hm, rfl⟩
      exact hh (I.hits _ hcl ⟨b, k, lo, g1, (I.kd C (by omega) (by omega)).act (C.kids (by omega)) ha, hm, rfl⟩)
  · rintro c hcl ⟨b, k, lo, g1, ha, hm, rfl⟩
    obtain ⟨b2, k2, lo2, f1, f2, f3, f4⟩ := hst.hits _ (Nat.lt_of_lt_of_le hcl I.size) ⟨b, k, lo, g1, hact ha hm, hm, rfl⟩
    exact I.hits _ hcl ⟨b2, k2, lo2, f1, (I.kd C (by omega) (by omega)).act (C.kids (by omega)) f2, f3, f4⟩

end
end Go.RM

/-
  A region: an append whose order against others is open: the block it fills is given up.
-/
namespace Go.RM
set_option linter.unusedSimpArgs false
set_option linter.unusedVariables false

section
variable {P : Program} {vars : List Nat} {nt : Nat} {draw : Bool} {all : List Oper} {l : List ROper} {call : Nat → Nat → List AV → Heap → Option (AV × Heap)} {fl : Nat} {E L : List AV} {Hs : Nat → Heap} {n0 base : Nat}
variable {m0 : BMap} {w0 : World} {S : Nat → Bool} {p d : Nat} {m : BMap} {a : Act} {w : World}

theorem Inv.top (C : Ctx P vars nt draw all l call fl E L Hs n0) (I : Inv vars nt draw all l fl E L Hs n0 base m0 w0 S p d m a w) {i : Nat} {o : Oper} {ro : ROper} (ho : all[i]? = some o) (hc : Comp P vars nt draw (ancs [] all) all i o ro)
    (hr : Ready draw all S i) (hn : ¬ solidAt all l i) (h1 : p ≤ i) (h2 : i < p + d)
    {b : Nat} {blk nk : Blk} {lb l2 : Loc} {w' : World} (hfl : fl ≤ b) (hact : (Hs i).act b = some blk) (hlive : blk.live = true) (hmb : m b = some lb)
    (hH : Hs (i + 1) = (Hs i).set b (killed blk) ++ [nk]) (hnk : nk.live = true ∧ nk.kid = none) (he2 : l2.e = nk.e) (hlen2 : nk.cells.length ≤ l2.room)
    (hca : CellsAt m w' l2 nk.cells) (hcb : base ≤ l2.cb ∧ l2.cb < w'.heap.size) (hroom : Room w' l2)
    (hwhere : (l2.cb = lb.cb ∧ lb.co + blk.cells.length ≤ l2.co + nk.cells.length) ∨ w.heap.size ≤ l2.cb)
    (hw : OldKept w w') (hold : ∀ c, c < w.heap.size → c ≠ lb.cb → w'.heap[c]? = w.heap[c]?)
    (hkeep : ∀ off, off < lb.co + blk.cells.length → w'.cell? ⟨lb.cb, off, none⟩ = w.cell? ⟨lb.cb, off, none⟩)
    (hrk : ∀ lo : Loc, lo.cb = lb.cb → Room w lo → Room w' lo)
    {v : AV} {v' : Value} (hL : L[i]? = some v) (hv : VRel (upd m (Hs i).length l2) v v') :
    Inv vars nt draw all l fl E L Hs n0 base m0 w0 (setS S i) p d (upd m (Hs i).length l2) (a.put o.dst v') w' := by
  have hil : i < all.length := by have := I.hq; omega
  have hblen := act_lt hact
  have hbget := act_get hact
  have hlen1 : (Hs (i + 1)).length = (Hs i).length + 1 := by rw [hH]; simp
  have hVact : (RM.hv Hs p d).act b = some blk := (I.kd C h1 (by omega)).act (C.kids (by omega)) hact
  have hVb : (RM.hv Hs p d)[b]? = some blk := act_get hVact
  have hHb1 : (Hs (i + 1))[b]? = some (killed blk) := by
    rw [hH, List.getElem?_append_left (by simpa using hblen), List.getElem?_set_self hblen]
  have hHn : (Hs (i + 1))[(Hs i).length]? = some nk := by
    rw [hH, List.getElem?_append_right (by simp)]; simp
  have hVn : (RM.hv Hs p d)[(Hs i).length]? = some nk := by
    rw [I.hv_at C h1 h2 (Nat.le_refl _) (by omega)]; exact hHn
  have hmn : m (Hs i).length = none := I.fresh C h1 hil hr.un (Nat.le_refl _) (by omega)
  have hext := upd_ext (m := m) l2 hmn
  have hn0b : n0 ≤ b := Nat.le_trans C.flow hfl
  have hlb := I.own b blk lb hn0b hVact hmb
  have hlow : n0 ≤ (Hs i).length := Nat.le_trans C.low0 (C.len (Nat.zero_le i) (by omega))
  have hcase : ∀ {x : Nat} {kx : Blk} {lx}, (RM.hv Hs p d).act x = some kx → upd m (Hs i).length l2 x = some lx → (x = (Hs i).length ∧ lx = l2 ∧ kx = nk) ∨ (x ≠ (Hs i).length ∧ m x = some lx) := fun {x kx lx} ha hm => by
    by_cases e : x = (Hs i).length
    · subst e; rw [upd_same] at hm; cases hm
      have := act_get ha
      rw [hVn] at this; cases this
      exact .inl ⟨rfl, rfl, rfl⟩
    · rw [upd_ne _ e] at hm; exact .inr ⟨e, hm⟩
  have hnoact1 : (Hs (i + 1)).act b = none := killed_act hHb1
  have hself : Rk Hs (setS S i) p d b (Hs i).length := ⟨i, setS_true.2 (.inl rfl), h1, h2, Nat.le_refl _, by rw [hact]; rfl, hnoact1⟩
  have hin : ∀ {x : Nat} {kx : Blk} {lx}, n0 ≤ x → (RM.hv Hs p d).act x = some kx → m x = some lx → lx.cb = lb.cb → lx.co + kx.cells.length ≤ lb.co + blk.cells.length ∧ Rk Hs (setS S i) p d x (Hs i).length := fun {x kx lx} hx0 ha hmx he => by
    rcases I.excl x b kx blk lx lb hx0 hn0b ha hVact hmx hmb he with h | ⟨g1, g2, g3⟩ | ⟨g1, _⟩ | ⟨⟨j, j1, j2, j3, j4, j5, j6⟩, g⟩ | ⟨⟨j, j1, j2, j3, j4, j5, j6⟩, g⟩
    · subst h
      rw [hVact] at ha; cases ha
      rw [hmb] at hmx; cases hmx
      exact ⟨Nat.le_refl _, hself⟩
    · refine ⟨g3, i, setS_true.2 (.inl rfl), h1, h2, Nat.le_refl _, ?_⟩
      have hxV := act_get ha
      have hxl : x < (Hs i).length := by
        rcases Nat.lt_or_ge x (Hs i).length with h | h
        · exact h
        · exfalso
          rcases I.dom x lx hmx with f | ⟨j, _, j1, j2, j3, j4⟩ | f
          · have := C.len h1 (by omega : i ≤ all.length); omega
          · have hq := I.hq
            rw [I.hv_at C j1 j2 j3 j4] at hxV
            have := (C.stepFacts (show j < all.length by omega)).new x b kx j3 hxV g2
            have : i ≤ j := by
              rcases Nat.lt_or_ge j i with h' | h'
              · have := C.len (show j + 1 ≤ i by omega) (by omega); omega
              · exact h'
            have := C.len this (by omega); omega
          · have := act_lt ha
            rw [I.vlen C] at this
            have := C.len I.hq (Nat.le_refl _); omega
      have hxH : (Hs i)[x]? = some kx := by
        rcases (I.kd C h1 (by omega)).2 x hxl with e | ⟨k0, e1, e2, _⟩
        · rw [e]; exact hxV
        · rw [hxV] at e1; cases e1; rw [g1] at e2; simp at e2
      have hxa : (Hs i).act x = some kx := act_same (V := RM.hv Hs p d) (by rw [hxV, hxH]) (fun c hcc => by rw [g2] at hcc; cases hcc; rw [hVb, hbget]) ha
      refine ⟨by rw [hxa]; rfl, ?_⟩
      have hxb : x ≠ b := fun e => by subst e; rw [hVb] at hxV; cases hxV; rw [g1] at hlive; simp at hlive
      have hxH1 : (Hs (i + 1))[x]? = some kx := by
        rw [hH, List.getElem?_append_left (by simpa using hxl), List.getElem?_set_ne (by omega)]; exact hxH
      unfold Heap.act
      rw [hxH1]
      simp only [g1, Heap.rev, g2, hHb1]
      simp [killed]
    · rw [g1] at hlive; simp at hlive
    · exact ⟨g, j, setS_true.2 (.inr j1), j2, j3, by omega, j5, j6⟩
    · exfalso
      obtain ⟨kj, hkj⟩ := Option.isSome_iff_exists.1 j5
      have hq := I.hq
      rcases Nat.lt_trichotomy j i with e | e | e
      · have := act_back (I.nsTo C (show p ≤ j + 1 by omega) (show j + 1 ≤ i by omega) (by omega)) (C.kids (by omega)) (Nat.lt_of_lt_of_le (act_lt hkj) (C.len (by omega) (by omega))) hact
        rw [j6] at this; simp at this
      · subst e; rw [hr.un] at j1; simp at j1
      · have := act_back (I.nsTo C (show p ≤ i + 1 by omega) (show i + 1 ≤ j by omega) (by omega)) (C.kids (by omega)) (by omega) hkj
        rw [hnoact1] at this; simp at this
  refine ⟨I.hq, I.ns, I.qend, I.pstart, I.slt_set hil, I.closed_set hr, I.solid_set hn, ?_, Nat.le_trans I.wsz hw.size, ?_, ?_, ?_, ?_, ?_, I.ext.trans hext, ?_, hw.os.trans I.os, hw.tape.trans I.tape, hw.output.trans I.output, Nat.le_trans I.size hw.size, ?_, ?_, I.tmps.put C ho hc hext hL hv⟩
  · intro x lx hm
    by_cases e : x = (Hs i).length
    · subst e; exact .inr (.inl ⟨i, setS_true.2 (.inl rfl), h1, h2, Nat.le_refl _, by omega⟩)
    · rw [upd_ne _ e] at hm
      rcases I.dom x lx hm with h | ⟨j, h1, h2⟩ | h
      · exact .inl h
      · exact .inr (.inl ⟨j, setS_true.2 (.inr h1), h2⟩)
      · exact .inr (.inr h)
  · intro x kx lx ha hm
    rcases hcase ha hm with ⟨rfl, rfl, rfl⟩ | ⟨_, h⟩
    · exact ⟨he2, hlen2, cellsAt_mono hca hext fun _ _ => rfl⟩
    · obtain ⟨e1, e2, e3⟩ := I.cells x kx lx ha h
      refine ⟨e1, e2, cellsAt_mono e3 hext fun j hj => ?_⟩
      by_cases ec : lx.cb = lb.cb
      · by_cases hx0 : n0 ≤ x
        · have := (hin hx0 ha h ec).1
          rw [ec]; exact hkeep _ (by omega)
        · have := I.ro x lx (by omega) h
          have := hlb.1
          omega
      · exact cell_of_heap (hold _ (I.lt_size ha h) ec) _
  · intro x lx hx hm
    rw [upd_ne _ (by omega)] at hm
    exact I.ro x lx hx hm
  · intro x kx lx hx0 ha hm
    rcases hcase ha hm with ⟨rfl, rfl, rfl⟩ | ⟨_, h⟩
    · exact ⟨hcb.1, hcb.2, hroom⟩
    · obtain ⟨e1, e2, e3⟩ := I.own x kx lx hx0 ha h
      refine ⟨e1, Nat.lt_of_lt_of_le e2 hw.size, ?_⟩
      by_cases ec : lx.cb = lb.cb
      · exact hrk lx ec e3
      · exact room_of_heap (hold _ e2 ec) e3
  · intro x x' kx kx' lx lx' hx0 hx0' ha ha' hm hm' he
    have mono : ∀ {x y}, Rk Hs S p d x y → Rk Hs (setS S i) p d x y := fun r => r.mono fun j h => setS_true.2 (.inr h)
    have hnewOld : ∀ {y : Nat} {ky : Blk} {ly}, n0 ≤ y → (RM.hv Hs p d).act y = some ky → m y = some ly → ly.cb = l2.cb → Rk Hs (setS S i) p d y (Hs i).length ∧ ly.co + ky.cells.length ≤ l2.co + nk.cells.length := fun {y ky ly} hy0 hay hmy e => by
      rcases hwhere with ⟨g1, g2⟩ | g
      · obtain ⟨f1, f2⟩ := hin hy0 hay hmy (e.trans g1)
        exact ⟨f2, by omega⟩
      · have := I.lt_size hay hmy; omega
    rcases hcase ha hm with ⟨e1, e2, e3⟩ | ⟨g, h⟩ <;> rcases hcase ha' hm' with ⟨f1, f2, f3⟩ | ⟨g', h'⟩
    · left; rw [e1, f1]
    · rw [e1, e2, e3]
      rw [e2] at he
      exact .inr (.inr (.inr (.inr (hnewOld hx0' ha' h' he.symm))))
    · rw [f1, f2, f3]
      rw [f2] at he
      exact .inr (.inr (.inr (.inl (hnewOld hx0 ha h he))))
    · exact (I.excl x x' kx kx' lx lx' hx0 hx0' ha ha' h h' he).imp id (Or.imp id (Or.imp id (Or.imp (fun h => ⟨mono h.1, h.2⟩) (fun h => ⟨mono h.1, h.2⟩))))
  · intro x kx lx hk hm
    by_cases e : x = (Hs i).length
    · subst e; rw [upd_same] at hm; cases hm
      rw [hVn] at hk; cases hk; exact he2
    · rw [upd_ne _ e] at hm; exact I.es x kx lx hk hm
  · intro x lx hm hm0
    by_cases e : x = (Hs i).length
    · subst e
      refine ⟨C.len (Nat.zero_le i) (by omega), ?_⟩
      have := C.len (show i + 1 ≤ all.length by omega) (Nat.le_refl _); omega
    · rw [upd_ne _ e] at hm; exact I.new x lx hm hm0
  · intro c hcl hh
    by_cases e : c = lb.cb
    · subst e
      exact absurd (I.hits _ hcl ⟨b, blk, lb, hfl, hVact, hmb, rfl⟩) hh
    · rw [hold c (Nat.lt_of_lt_of_le hcl I.size) e]; exact I.frame c hcl hh
  · rintro c hcl ⟨x, kx, lx, g1, ha, hm, rfl⟩
    rcases hcase ha hm with ⟨e1, e2, e3⟩ | ⟨_, h⟩
    · rcases hwhere with ⟨f1, _⟩ | f
      · rw [e2, f1] at hcl ⊢
        exact I.hits _ hcl ⟨b, blk, lb, hfl, hVact, hmb, rfl⟩
      · have := I.size; rw [e2] at hcl; omega
    · exact I.hits _ hcl ⟨x, kx, lx, g1, ha, h, rfl⟩

end
end Go.RM

