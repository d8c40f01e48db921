import Derived.Test.YtpjbnjgckbhohaaRmSound4
/-
  The builtins but append: len, min, max, copy, clear.
-/
namespace Go.RM
set_option linter.unusedSimpArgs false

variable {P : Program}

section
variable {ρ : Operand → Value} {o : Oper} {n0 base fl : Nat} {m : BMap} {H H' : Heap} {w : World} {X : RX → AV} {res : Operand → Option RX} {r : ROp} {v : AV} {call : Nat → Nat → List AV → Heap → Option (AV × Heap)} {free : Bool} {ap : List RX}

theorem exec_builtin {c : Call} {b : Builtin} (ho : o.op = .call c) (hc : c.callee = .builtin b) : ∃ cs, (execOp ρ o) = builtin b c.argTypes o.type cs (c.args.map ρ) := by
  refine ⟨c.args.map fun | .const _ => true | _ => false, ?_⟩
  simp only [execOp, ho, resolve, hc, pure_bind, invoke]
  rfl

theorem lenOf_rel {x : AV} {v : Value} {k : Nat} (h : VRel m x v) (hk : sliceLen x = some k) (w : World) : (Builtin.lenOf v).run P w = .ok k w ∧ ∃ a c, v = .slice a k c := by
  cases x <;> simp only [sliceLen, Option.some.injEq, reduceCtorEq] at hk
  · subst hk
    obtain ⟨a, cap, rfl, _⟩ := h
    exact ⟨rfl, a, cap, rfl⟩
  · subst hk
    obtain ⟨a, rfl⟩ := h
    exact ⟨rfl, a, 0, rfl⟩

theorem loadCells_zero (a : Addr) (w : World) : (loadCells a 0).run P w = .ok #[] w := rfl

/-- The first n elements of a slice, as the model loads them (in any world with the same heap). -/
theorem firstCells_rel (hs : Sim n0 base m H w) {x : AV} {v : Value} {e n : Nat} {xs : List AV} (h : VRel m x v) (hx : sliceCells H e n x = some xs) :
    ∃ cs, VRels m xs cs ∧ xs.length = n * e ∧ ∀ w' : World, w'.heap = w.heap → (Builtin.firstCells e n v).run P w' = .ok ⟨cs⟩ w' := by
  cases x <;> simp only [sliceCells, reduceCtorEq] at hx
  · rename_i b off len lim
    obtain ⟨a, cap, rfl, hcap, l, hm, _, haa⟩ := h
    split at hx
    · rename_i h0
      simp only [Option.some.injEq] at hx; subst hx; subst h0
      refine ⟨[], trivial, by simp, fun w' _ => ?_⟩
      cases a with
      | none => rfl
      | some a => simp only [Builtin.firstCells, Nat.zero_mul]; exact loadCells_zero a w'
    · rename_i h0
      split at hx
      · simp at hx
      · rename_i hlen
        split at hx
        · rename_i k hact
          split at hx
          · rename_i hfit
            simp only [Option.some.injEq] at hx; subst hx
            rcases haa with ha | h1
            · obtain ⟨cs, c1, c2, c3⟩ := stretch hs hact hm hfit
              refine ⟨cs, c1, by rw [c1.length, c2], fun w' hw' => ?_⟩
              subst ha
              simp only [Builtin.firstCells]
              have := run_loads (P := P) w' l.cb (l.co + off) cs (fun j v hv => by
                have := c3 j v hv
                simp only [World.cell?, hw'] at this ⊢
                exact this)
              rw [c2] at this
              exact this
            · omega
          · simp at hx
        · simp at hx
  · obtain ⟨a, rfl⟩ := h
    split at hx
    · rename_i h0
      simp only [Option.some.injEq] at hx; subst hx; subst h0
      refine ⟨[], trivial, by simp, fun w' _ => ?_⟩
      cases a with
      | none => rfl
      | some a => simp only [Builtin.firstCells, Nat.zero_mul]; exact loadCells_zero a w'
    · simp at hx

theorem minI_rel {k : IntKind} : ∀ {l : List AV} {vs : List Value} {a : Int} {v : AV}, minI k a l = some v → VRels m l vs → ∀ w, (vs.foldlM Builtin.min2 (.int k a)).run P w = .ok (toV v) w ∧ ∀ m, VRel m v (toV v)
  | [], [], a, v, h, _, w => by
    simp only [minI, Option.some.injEq] at h; subst h
    exact ⟨rfl, fun _ => rfl⟩
  | .int k' b :: l, u :: vs, a, v, h, ⟨h1, h2⟩, w => by
    simp only [minI] at h
    split at h
    · rename_i hk
      subst hk
      have := minI_rel h h2 w
      rw [h1.int_inv, List.foldlM_cons]
      simp only [Builtin.min2, Sem.run_bind, Sem.run_pure, Result.andThen_ok]
      exact this
    · simp at h
  | .bool _ :: _, _ :: _, _, _, h, _, _ => by simp [minI] at h
  | .str _ :: _, _ :: _, _, _, h, _, _ => by simp [minI] at h
  | .ptr .. :: _, _ :: _, _, _, h, _, _ => by simp [minI] at h
  | .nilptr :: _, _ :: _, _, _, h, _, _ => by simp [minI] at h
  | .slice .. :: _, _ :: _, _, _, h, _, _ => by simp [minI] at h
  | .empty :: _, _ :: _, _, _, h, _, _ => by simp [minI] at h
  | .func .. :: _, _ :: _, _, _, h, _, _ => by simp [minI] at h
  | .nilfunc :: _, _ :: _, _, _, h, _, _ => by simp [minI] at h
  | .agg _ :: _, _ :: _, _, _, h, _, _ => by simp [minI] at h
  | .tuple _ :: _, _ :: _, _, _, h, _, _ => by simp [minI] at h

theorem maxI_rel {k : IntKind} : ∀ {l : List AV} {vs : List Value} {a : Int} {v : AV}, maxI k a l = some v → VRels m l vs → ∀ w, (vs.foldlM Builtin.max2 (.int k a)).run P w = .ok (toV v) w ∧ ∀ m, VRel m v (toV v)
  | [], [], a, v, h, _, w => by
    simp only [maxI, Option.some.injEq] at h; subst h
    exact ⟨rfl, fun _ => rfl⟩
  | .int k' b :: l, u :: vs, a, v, h, ⟨h1, h2⟩, w => by
    simp only [maxI] at h
    split at h
    · rename_i hk
      subst hk
      have := maxI_rel h h2 w
      rw [h1.int_inv, List.foldlM_cons]
      simp only [Builtin.max2, Sem.run_bind, Sem.run_pure, Result.andThen_ok]
      exact this
    · simp at h
  | .bool _ :: _, _ :: _, _, _, h, _, _ => by simp [maxI] at h
  | .str _ :: _, _ :: _, _, _, h, _, _ => by simp [maxI] at h
  | .ptr .. :: _, _ :: _, _, _, h, _, _ => by simp [maxI] at h
  | .nilptr :: _, _ :: _, _, _, h, _, _ => by simp [maxI] at h
  | .slice .. :: _, _ :: _, _, _, h, _, _ => by simp [maxI] at h
  | .empty :: _, _ :: _, _, _, h, _, _ => by simp [maxI] at h
  | .func .. :: _, _ :: _, _, _, h, _, _ => by simp [maxI] at h
  | .nilfunc :: _, _ :: _, _, _, h, _, _ => by simp [maxI] at h
  | .agg _ :: _, _ :: _, _, _, h, _, _ => by simp [maxI] at h
  | .tuple _ :: _, _ :: _, _, _, h, _, _ => by simp [maxI] at h

theorem op_len {c : Call} (ho : o.op = .call c) (hcal : c.callee = .builtin .len) (hc : compileBuiltin P res .len c.argTypes c.args.toList = some r) (hr : rop call fl free X H r = some (v, H'))
    (hX : ∀ x rx, res x = some rx → VRel m (X rx) (ρ x)) (hXk : ∀ v, X (.k v) = v) (hs : Sim n0 base m H w) : OpOk P ρ o n0 base fl m H w v H' := by
  obtain ⟨cs, hex⟩ := exec_builtin (ρ := ρ) ho hcal
  rcases hargs : c.args.toList with _ | ⟨x, _ | ⟨y, rest⟩⟩ <;> simp only [compileBuiltin, hargs, reduceCtorEq] at hc
  case cons.nil =>
    have hargs' : c.args.map ρ = #[ρ x] := by rw [← Array.toList_inj]; simp [hargs]
    split at hc
    · rename_i t ht
      have hrun : ∀ n, (Builtin.len_ c.argTypes o.type #[ρ x]).run P w = .ok (goInt n) w → (execOp ρ o).run P w = .ok (.value (goInt n)) w := fun n h => by
        rw [hex, hargs']
        simp only [builtin, Sem.run_bind, h, Result.andThen_ok, Sem.run_pure]
      split at hc
      · rename_i hu
        simp only [Option.map_eq_some_iff] at hc
        obtain ⟨rx, h1, rfl⟩ := hc
        have hv := hX _ _ h1
        simp only [rop] at hr
        split at hr
        · rename_i s hxe
          simp only [Option.some.injEq, Prod.mk.injEq] at hr
          obtain ⟨rfl, rfl⟩ := hr
          rw [hxe] at hv
          refine ok_value hs (hrun s.size ?_) rfl
          simp only [Builtin.len_, ht, hv.str_inv, Sem.run_bind, run_und hu, Result.andThen_ok, Sem.run_pure, List.getElem?_toArray, List.getElem?_cons_zero]
        · simp at hr
      · rename_i e hu
        simp only [Option.map_eq_some_iff] at hc
        obtain ⟨rx, h1, rfl⟩ := hc
        have hv := hX _ _ h1
        simp only [rop] at hr
        split at hr
        · rename_i b off n lim hxe
          simp only [Option.some.injEq, Prod.mk.injEq] at hr
          obtain ⟨rfl, rfl⟩ := hr
          rw [hxe] at hv
          obtain ⟨a, cap, hxv, _⟩ := hv
          refine ok_value hs (hrun n ?_) rfl
          simp only [Builtin.len_, ht, hxv, Sem.run_bind, run_und hu, Result.andThen_ok, Sem.run_pure, List.getElem?_toArray, List.getElem?_cons_zero]
        · rename_i hxe
          simp only [Option.some.injEq, Prod.mk.injEq] at hr
          obtain ⟨rfl, rfl⟩ := hr
          rw [hxe] at hv
          obtain ⟨a, hxv⟩ := hv
          refine ok_value hs (hrun 0 ?_) rfl
          simp only [Builtin.len_, ht, hxv, Sem.run_bind, run_und hu, Result.andThen_ok, Sem.run_pure, List.getElem?_toArray, List.getElem?_cons_zero]
          rfl
        · simp at hr
      · rename_i n e hu
        simp only [Option.some.injEq] at hc; subst hc
        simp only [rop, Option.some.injEq, Prod.mk.injEq] at hr
        obtain ⟨rfl, rfl⟩ := hr
        refine ok_value hs (hrun n ?_) (by rw [hXk]; rfl)
        simp only [Builtin.len_, ht, Sem.run_bind, run_und hu, Result.andThen_ok, Sem.run_pure, List.getElem?_toArray, List.getElem?_cons_zero]
      · simp at hc
    · simp at hc

theorem op_min {c : Call} (ho : o.op = .call c) (hcal : c.callee = .builtin .min) (hc : compileBuiltin P res .min c.argTypes c.args.toList = some r) (hr : rop call fl free X H r = some (v, H'))
    (hX : ∀ x rx, res x = some rx → VRel m (X rx) (ρ x)) (hs : Sim n0 base m H w) : OpOk P ρ o n0 base fl m H w v H' := by
  obtain ⟨cs, hex⟩ := exec_builtin (ρ := ρ) ho hcal
  cases hargs : c.args.toList with
  | nil => simp [hargs, compileBuiltin] at hc
  | cons x ys =>
    simp only [hargs, compileBuiltin] at hc
    split at hc
    · rename_i a l h1 h2
      simp only [Option.some.injEq] at hc; subst hc
      have hv := hX _ _ h1
      have hl := resL_rel hX h2
      simp only [rop] at hr
      split at hr
      · rename_i k n hxe
        simp only [Option.map_eq_some_iff, Prod.mk.injEq] at hr
        obtain ⟨v0, hm, rfl, rfl⟩ := hr
        rw [hxe] at hv
        obtain ⟨g1, g2⟩ := minI_rel (P := P) hm hl w
        refine ok_value hs (v' := toV v0) ?_ (g2 m)
        have hargs' : (c.args.map ρ).toList = .int k n :: ys.map ρ := by rw [Array.toList_map, hargs, List.map_cons, hv.int_inv]
        rw [hex]
        simp only [builtin, Builtin.min_, hargs', Sem.run_bind, g1, Result.andThen_ok, Sem.run_pure]
      · simp at hr
    · simp at hc

theorem op_max {c : Call} (ho : o.op = .call c) (hcal : c.callee = .builtin .max) (hc : compileBuiltin P res .max c.argTypes c.args.toList = some r) (hr : rop call fl free X H r = some (v, H'))
    (hX : ∀ x rx, res x = some rx → VRel m (X rx) (ρ x)) (hs : Sim n0 base m H w) : OpOk P ρ o n0 base fl m H w v H' := by
  obtain ⟨cs, hex⟩ := exec_builtin (ρ := ρ) ho hcal
  cases hargs : c.args.toList with
  | nil => simp [hargs, compileBuiltin] at hc
  | cons x ys =>
    simp only [hargs, compileBuiltin] at hc
    split at hc
    · rename_i a l h1 h2
      simp only [Option.some.injEq] at hc; subst hc
      have hv := hX _ _ h1
      have hl := resL_rel hX h2
      simp only [rop] at hr
      split at hr
      · rename_i k n hxe
        simp only [Option.map_eq_some_iff, Prod.mk.injEq] at hr
        obtain ⟨v0, hm, rfl, rfl⟩ := hr
        rw [hxe] at hv
        obtain ⟨g1, g2⟩ := maxI_rel (P := P) hm hl w
        refine ok_value hs (v' := toV v0) ?_ (g2 m)
        have hargs' : (c.args.map ρ).toList = .int k n :: ys.map ρ := by rw [Array.toList_map, hargs, List.map_cons, hv.int_inv]
        rw [hex]
        simp only [builtin, Builtin.max_, hargs', Sem.run_bind, g1, Result.andThen_ok, Sem.run_pure]
      · simp at hr
    · simp at hc

theorem zeroCells_eq (zs : List Value) (n : Nat) (hz : 0 < zs.length) : Builtin.zeroCells ⟨zs⟩ n = ⟨(List.replicate n zs).flatten⟩ := by
  rw [← Array.toList_inj]
  exact zero_cycle zs n hz

theorem op_copy {c : Call} (ho : o.op = .call c) (hcal : c.callee = .builtin .copy) (hc : compileBuiltin P res .copy c.argTypes c.args.toList = some r) (hr : rop call fl free X H r = some (v, H'))
    (hX : ∀ x rx, res x = some rx → VRel m (X rx) (ρ x)) (hs : Sim n0 base m H w) (hfl : n0 ≤ fl) : OpOk P ρ o n0 base fl m H w v H' := by
  obtain ⟨cs, hex⟩ := exec_builtin (ρ := ρ) ho hcal
  rcases hargs : c.args.toList with _ | ⟨x, _ | ⟨y, _ | ⟨z, rest⟩⟩⟩ <;> simp only [compileBuiltin, hargs, reduceCtorEq] at hc
  case cons.cons.nil =>
    have hargs' : c.args.map ρ = #[ρ x, ρ y] := by rw [← Array.toList_inj]; simp [hargs]
    split at hc
    · rename_i t ht
      split at hc
      · rename_i e hu
        split at hc
        · rename_i n rx ry hsz h1 h2
          split at hc
          · rename_i hn
            simp only [Option.some.injEq] at hc; subst hc
            obtain ⟨i, hi, hi2⟩ := szOf_info hsz
            have hx := hX _ _ h1
            have hy := hX _ _ h2
            simp only [rop] at hr
            split at hr
            · rename_i dl sl g1 g2
              obtain ⟨_, a, cap, hxv⟩ := lenOf_rel (P := P) hx g1 w
              obtain ⟨hl2, b, cap2, hyv⟩ := lenOf_rel (P := P) hy g2 w
              have hrun : ∀ (ws : List Value) (w' : World), (Builtin.firstCells n (Min.min sl dl) (ρ y)).run P w = .ok ⟨ws⟩ w →
                  (∀ ad, a = some ad → (storeCells ad ws).run P w = .ok () w') → (a = none → w' = w) →
                  (execOp ρ o).run P w = .ok (.value (.int .i64 ((Min.min sl dl : Nat) : Int))) w' := fun ws w' hf hst hno => by
                rw [hex, hargs']
                simp only [builtin, Builtin.copy_, ht, Sem.run_bind, List.getElem?_toArray, List.getElem?_cons_zero, List.getElem?_cons_succ, run_und hu, Result.andThen_ok, hxv]
                rw [hl2]
                simp only [Result.andThen_ok, run_size hi, hi2]
                have : Nat.min sl dl = Min.min sl dl := rfl
                rw [this, hf]
                simp only [Result.andThen_ok]
                cases a with
                | none =>
                  rw [hno rfl]
                  rfl
                | some ad =>
                  simp only [Sem.run_bind, hst ad rfl, Result.andThen_ok, Sem.run_pure]
                  rfl
              split at hr
              · rename_i hq
                simp only [Option.some.injEq, Prod.mk.injEq] at hr
                obtain ⟨rfl, rfl⟩ := hr
                refine ok_value hs (v' := .int .i64 ((Min.min sl dl : Nat) : Int)) (hrun [] w ?_ (fun ad _ => rfl) (fun _ => rfl)) (by rw [hq]; rfl)
                rw [hq, hyv]
                cases b with
                | none => rfl
                | some b => simp only [Builtin.firstCells, Nat.zero_mul]; exact loadCells_zero b w
              · rename_i hq
                split at hr
                · rename_i bb off nn lim hxe
                  simp only [Option.bind_eq_some_iff, Option.map_eq_some_iff, Prod.mk.injEq] at hr
                  obtain ⟨xs, g3, H1, g4, rfl, rfl⟩ := hr
                  obtain ⟨ws, c1, c2, c3⟩ := firstCells_rel (P := P) hs hy g3
                  rw [hxe] at hx g1
                  simp only [sliceLen, Option.some.injEq] at g1; subst g1
                  obtain ⟨a', cap', hxv', hcap, l, hm, _, haa⟩ := hx
                  rw [hxv] at hxv'; cases hxv'
                  rcases haa with ha | h0
                  · obtain ⟨p1, p2, p3⟩ := put_step hs hfl g4 hm c1
                    refine ⟨.int .i64 ((Min.min sl nn : Nat) : Int), _, m, .inl (hrun ws _ (c3 w rfl) (fun ad had => ?_) (fun h => by rw [ha] at h; simp at h)), rfl, p3⟩
                    rw [ha] at had; cases had
                    have := run_storeCells_cells (P := P) l.cb (l.co + off) ws 0 w (fun j hj => by simpa using (p1 j hj).1) (fun j hj => by simpa using (p1 j hj).2) p2
                    simpa using this
                  · omega
                · simp at hr
            · simp at hr
          · simp at hc
        · simp at hc
      · simp at hc
    · simp at hc

theorem op_clear {c : Call} (ho : o.op = .call c) (hcal : c.callee = .builtin .clear) (hc : compileBuiltin P res .clear c.argTypes c.args.toList = some r) (hr : rop call fl free X H r = some (v, H'))
    (hX : ∀ x rx, res x = some rx → VRel m (X rx) (ρ x)) (hs : Sim n0 base m H w) (hfl : n0 ≤ fl) : OpOk P ρ o n0 base fl m H w v H' := by
  obtain ⟨cs, hex⟩ := exec_builtin (ρ := ρ) ho hcal
  rcases hargs : c.args.toList with _ | ⟨x, _ | ⟨y, rest⟩⟩ <;> simp only [compileBuiltin, hargs, reduceCtorEq] at hc
  case cons.nil =>
    have hargs' : c.args.map ρ = #[ρ x] := by rw [← Array.toList_inj]; simp [hargs]
    split at hc
    · rename_i t ht
      split at hc
      · rename_i e hu
        split at hc
        · rename_i n z rx hsz hz h1
          split at hc
          · rename_i hn
            simp only [Option.some.injEq] at hc; subst hc
            have hx := hX _ _ h1
            obtain ⟨i, zv, hi, hzv, hcz⟩ := zeroOf_info hz
            have hzl : zv.cells.toList.length = n := by rw [← (ofConsts_rel m hcz).length]; exact hn.2
            have hzero : ∀ a cap, ρ x = .slice a 0 cap → (execOp ρ o).run P w = .ok (.value Go.undef) w := fun a cap hxv => by
              rw [hex, hargs', hxv]
              simp only [builtin, Builtin.clear_, ht, Sem.run_bind, List.getElem?_toArray, List.getElem?_cons_zero, run_und hu, Result.andThen_ok]
              cases a <;> rfl
            simp only [rop] at hr
            split at hr
            · rename_i hxe
              simp only [Option.some.injEq, Prod.mk.injEq] at hr
              obtain ⟨rfl, rfl⟩ := hr
              rw [hxe] at hx
              obtain ⟨a, hxv⟩ := hx
              exact ok_value hs (hzero a 0 hxv) (VRel.undef m)
            · rename_i b off len lim hxe
              rw [hxe] at hx
              obtain ⟨a, cap, hxv, hcap, l, hm, _, haa⟩ := hx
              split at hr
              · rename_i h0
                subst h0
                simp only [Option.some.injEq, Prod.mk.injEq] at hr
                obtain ⟨rfl, rfl⟩ := hr
                exact ok_value hs (hzero a cap hxv) (VRel.undef m)
              · rename_i h0
                simp only [Option.map_eq_some_iff, Prod.mk.injEq] at hr
                obtain ⟨H1, g4, rfl, rfl⟩ := hr
                rcases haa with ha | h0'
                · obtain ⟨p1, p2, p3⟩ := put_step hs hfl g4 hm (VRels.flatten (ofConsts_rel m hcz) len)
                  refine ⟨Go.undef, _, m, .inl ?_, VRel.undef m, p3⟩
                  have hst := run_storeCells_cells (P := P) l.cb (l.co + off) _ 0 w (fun j hj => by simpa using (p1 j hj).1) (fun j hj => by simpa using (p1 j hj).2) p2
                  simp only [Nat.add_zero] at hst
                  have hzc : (Builtin.zeroCells zv.cells len).toList = (List.replicate len zv.cells.toList).flatten := by
                    have := zeroCells_eq zv.cells.toList len (by omega)
                    show (Builtin.zeroCells ⟨zv.cells.toList⟩ len).toList = _
                    rw [this]
                  obtain ⟨len', rfl⟩ : ∃ q, len = q + 1 := ⟨len - 1, by omega⟩
                  rw [hex, hargs', hxv, ha]
                  simp only [builtin, Builtin.clear_, ht, Sem.run_bind, List.getElem?_toArray, List.getElem?_cons_zero, run_und hu, Result.andThen_ok, run_zero hi hzv, hzc, hst, Sem.run_pure]
                  rfl
                · omega
            · simp at hr
          · simp at hc
        · simp at hc
      · simp at hc
    · simp at hc

end
end Go.RM

/-
  append: the five ways it may go, and each as a step.
-/
namespace Go.RM
set_option linter.unusedSimpArgs false

variable {P : Program}

/-- What an append does to the world and to the heap. -/
inductive AppRes (fl : Nat) (free : Bool) (m : BMap) (H : Heap) (w : World) : AV → Heap → Value → World → Prop where
  | same {v : AV} {v' : Value} (hv : VRel m v v') : AppRes fl free m H w v H v' w
  | push {nk : Blk} {cs rest : List Value} {t : TypeId} {n cap : Nat} (hk : nk.kid = none ∧ nk.live = true) (hr : VRels m nk.cells cs) (hn : n ≤ cap) (hcap : (cs ++ rest).length = cap * nk.e) :
      AppRes fl free m H w (.slice H.length 0 n none) (H ++ [nk]) (.slice (some ⟨w.heap.size, 0, none⟩) n cap) (w.drew.alloc (.cells (cs ++ rest).toArray t))
  | put {b off o n : Nat} {lim : Option Nat} {l : Loc} {xs : List AV} {ys : List Value} {H' : Heap} {v' : Value} (hfree : free = true) (hm : m b = some l) (hp : rput fl H b o xs = some H') (hr : VRels m xs ys)
      (hv : VRel m (.slice b off n lim) v') : AppRes fl free m H w (.slice b off n lim) H' v' (w.setCells l.cb (l.co + o) ys)
  | topIn {b off n k e cap : Nat} {blk : Blk} {l : Loc} {xs : List AV} {ys : List Value} (hfl : fl ≤ b) (hact : H.act b = some blk) (hlive : blk.live = true) (hm : m b = some l) (he : l.e = e)
      (hoff : off ≤ blk.cells.length) (hfull : off + n * e = blk.cells.length) (hr : VRels m xs ys) (hxs : xs.length = k * e) (hsc : xs.all AV.scalar = true) (hcap : off + cap * e = l.room) (hn : n + k ≤ cap) :
      AppRes fl free m H w (.slice H.length 0 (n + k) none) (H.set b { blk with live := false, kid := if free then some H.length else none } ++ [{ cells := blk.cells.drop off ++ xs, e }])
        (.slice (some ⟨l.cb, l.co + off, none⟩) (n + k) cap) (w.setCells l.cb (l.co + blk.cells.length) ys)
  | topNew {b off n k e cap : Nat} {blk : Blk} {l : Loc} {xs : List AV} {cs rest : List Value} {t : TypeId} (hfl : fl ≤ b) (hact : H.act b = some blk) (hlive : blk.live = true) (hm : m b = some l)
      (hr : VRels m (blk.cells.drop off ++ xs) cs) (hn : n + k ≤ cap) (hcap : (cs ++ rest).length = cap * e) :
      AppRes fl free m H w (.slice H.length 0 (n + k) none) (H.set b { blk with live := false, kid := if free then some H.length else none } ++ [{ cells := blk.cells.drop off ++ xs, e }])
        (.slice (some ⟨w.heap.size, 0, none⟩) (n + k) cap) (w.drew.alloc (.cells (cs ++ rest).toArray t))
  | reviveIn {b c off n k e cap : Nat} {blk : Blk} {l : Loc} {xs : List AV} {ys : List Value} (hfree : free = true) (hfl : fl ≤ b) (hflc : fl ≤ c) (hact : H.act b = some blk) (hlive : blk.live = false) (hrev : H.rev blk = some c) (hm : m b = some l) (he : l.e = e)
      (hoff : off ≤ blk.cells.length) (hfull : off + n * e = blk.cells.length) (hr : VRels m xs ys) (hxs : xs.length = k * e) (hsc : xs.all AV.scalar = true) (hcap : off + cap * e = l.room) (hn : n + k ≤ cap) :
      AppRes fl free m H w (.slice H.length 0 (n + k) none) ((H.kill c).set b { blk with live := false, kid := some H.length } ++ [{ cells := blk.cells.drop off ++ xs, e }])
        (.slice (some ⟨l.cb, l.co + off, none⟩) (n + k) cap) (w.setCells l.cb (l.co + blk.cells.length) ys)
  | reviveNew {b c off n k e cap : Nat} {blk : Blk} {l : Loc} {xs : List AV} {cs rest : List Value} {t : TypeId} (hfree : free = true) (hfl : fl ≤ b) (hflc : fl ≤ c) (hact : H.act b = some blk) (hlive : blk.live = false) (hrev : H.rev blk = some c) (hm : m b = some l)
      (hr : VRels m (blk.cells.drop off ++ xs) cs) (hn : n + k ≤ cap) (hcap : (cs ++ rest).length = cap * e) :
      AppRes fl free m H w (.slice H.length 0 (n + k) none) ((H.kill c).set b { blk with live := false, kid := some H.length } ++ [{ cells := blk.cells.drop off ++ xs, e }])
        (.slice (some ⟨w.heap.size, 0, none⟩) (n + k) cap) (w.drew.alloc (.cells (cs ++ rest).toArray t))

section
variable {ρ : Operand → Value} {o : Oper} {n0 base fl : Nat} {m : BMap} {H H' : Heap} {w : World} {X : RX → AV} {res : Operand → Option RX} {r : ROp} {v : AV} {call : Nat → Nat → List AV → Heap → Option (AV × Heap)} {free : Bool} {ap : List RX}

/-- The model's append of one slice to another, in its two ways. -/
theorem run_append {c : Call} (ho : o.op = .call c) (hcal : c.callee = .builtin .append) {x y : Operand} (hargs : c.args.toList = [x, y]) {t u e e2 : TypeId} (ht : c.argTypes[0]? = some t) (hu : c.argTypes[1]? = some u)
    (ht2 : P.underlying t = some (.slice e)) (hu2 : P.underlying u = some (.slice e2)) {i : TypeInfo} (hi : P.info? e = some i) (hb : 0 < i.bytes) {z : Value} (hz : i.zero = some z) (hzl : z.cells.toList.length = i.size) (hn : 0 < i.size)
    {a : Option Addr} {sLen sCap k : Nat} (hx : ρ x = .slice a sLen sCap) (hk : (Builtin.lenOf (ρ y)).run P w = .ok k w) {ys : List Value}
    (hy : ∀ w' : World, w'.heap = w.heap → (Builtin.firstCells i.size k (ρ y)).run P w' = .ok ⟨ys⟩ w') :
    (sLen + k ≤ sCap → ∀ w', (∀ ad, a = some ad → (storeCells (ad.add (sLen * i.size)) ys).run P w = .ok () w') → (a = none → w' = w) → (execOp ρ o).run P w = .ok (.value (.slice a (sLen + k) sCap)) w') ∧
    (sCap < sLen + k → Builtin.nextslicecap (sLen + k) sCap * i.bytes ≤ 2 ^ 48 → ∀ old : List Value, (∀ w' : World, w'.heap = w.heap → (Builtin.firstCells i.size sLen (ρ x)).run P w' = .ok ⟨old⟩ w') →
      ∃ cap rest, sLen + k ≤ cap ∧ rest.length = (cap - (sLen + k)) * i.size ∧
        (execOp ρ o).run P w = .ok (.value (.slice (some ⟨w.heap.size, 0, none⟩) (sLen + k) cap)) (w.drew.alloc (.cells (old ++ ys ++ rest).toArray e))) := by
  obtain ⟨cs, hex⟩ := exec_builtin (ρ := ρ) ho hcal
  have hargs' : c.args.map ρ = #[ρ x, ρ y] := by rw [← Array.toList_inj]; simp [hargs]
  have hpre : ∀ F : Nat → Sem Value, True := fun _ => trivial
  constructor
  · intro hfit w' hst hno
    rw [hex, hargs']
    simp only [builtin, Builtin.append_, ht, hu, List.getElem?_toArray, List.getElem?_cons_zero, List.getElem?_cons_succ, Sem.run_bind, run_und ht2, run_und hu2, Result.andThen_ok, hx, run_size hi, Sem.run_pure, Bool.false_eq_true, if_false, Bool.not_false, if_true, hk, if_pos hfit, hy w rfl]
    cases a with
    | none => rw [hno rfl]; rfl
    | some ad =>
      simp only [Sem.run_bind, hst ad rfl, Result.andThen_ok, Sem.run_pure]
  · intro hnf hcapb old hold
    let cap := (Question.appendCap (sLen + k) sCap e).cut (w.tape w.drawn (Question.appendCap (sLen + k) sCap e))
    have hcap : sLen + k ≤ cap := by simp only [cap, Question.cut]; omega
    refine ⟨cap, (List.replicate (cap - (sLen + k)) z.cells.toList).flatten, hcap, by simp [hzl], ?_⟩
    have hzc : Builtin.zeroCells z.cells (cap - (sLen + k)) = ⟨(List.replicate (cap - (sLen + k)) z.cells.toList).flatten⟩ := zeroCells_eq z.cells.toList _ (by omega)
    have hchoose : (choose (.appendCap (sLen + k) sCap e)).run P w = .ok cap w.drew := by
      simp only [run_choose, Question.forced, Bool.false_eq_true, if_false]
      rfl
    have hb0 : (i.bytes = 0) = False := by simp; omega
    have hc0 : (Builtin.nextslicecap (sLen + k) sCap * i.bytes > 2 ^ 48) = False := by simp only [gt_iff_lt, eq_iff_iff, iff_false]; omega
    have hd0 : (sLen + k ≤ sCap) = False := by simp only [eq_iff_iff, iff_false]; omega
    rw [hex, hargs']
    have hold' := hold w.drew rfl
    rw [hx] at hold'
    simp only [builtin, Builtin.append_, ht, hu, List.getElem?_toArray, List.getElem?_cons_zero, List.getElem?_cons_succ, Sem.run_bind, run_und ht2, run_und hu2, Result.andThen_ok, hx, run_size hi, Sem.run_pure, Bool.false_eq_true, if_false, Bool.not_false, if_true, hk,
      hd0, run_info hi, hb0, or_false, and_false, hc0, hchoose, run_askRoom, hold', hy w.drew rfl, run_zero hi hz, hzc, newRow, run_newObj]
    simp only [List.append_toArray, List.append_assoc]
    rfl


theorem op_append {c : Call} (ho : o.op = .call c) (hcal : c.callee = .builtin .append) (hc : compileBuiltin P res .append c.argTypes c.args.toList = some r) (hr : rop call fl free X H r = some (v, H'))
    (hX : ∀ x rx, res x = some rx → VRel m (X rx) (ρ x)) (hs : Sim n0 base m H w) (hfl : n0 ≤ fl) :
    ∃ v' w', (execOp ρ o).run P w = .ok (.value v') w' ∧ AppRes fl free m H w v H' v' w' := by
  rcases hargs : c.args.toList with _ | ⟨x, _ | ⟨y, _ | ⟨z, rest⟩⟩⟩ <;> simp only [compileBuiltin, hargs, reduceCtorEq] at hc
  case cons.cons.nil =>
    split at hc
    · rename_i t u ht hu
      split at hc
      · rename_i e e2 hte hue
        split at hc
        · rename_i n b z rx ry hsz hby hz h1 h2
          split at hc
          · rename_i hcond
            obtain ⟨hn, hbp, hzl⟩ := hcond
            simp only [Option.some.injEq] at hc; subst hc
            obtain ⟨i, zv, hi, hzv, hcz⟩ := zeroOf_info hz
            obtain ⟨i2, hi2, hin⟩ := szOf_info hsz
            obtain ⟨i3, hi3, hib⟩ := bytesOf_info hby
            rw [hi] at hi2 hi3; cases hi2; cases hi3
            have hzvl : zv.cells.toList.length = i.size := by rw [← (ofConsts_rel m hcz).length, hin]; exact hzl
            have hx := hX _ _ h1
            have hy := hX _ _ h2
            simp only [rop] at hr
            split at hr
            · rename_i k hk
              simp only [Option.bind_eq_some_iff] at hr
              obtain ⟨xs, hxs, hr⟩ := hr
              obtain ⟨hk2, a2, c2, hyv⟩ := lenOf_rel (P := P) hy hk w
              obtain ⟨ys, hys, hxl, hyf⟩ := firstCells_rel (P := P) hs hy hxs
              have hyl := hys.length
              rw [← hin] at hyf
              have RUN := fun {a : Option Addr} {sLen sCap : Nat} (hxv : ρ x = .slice a sLen sCap) => run_append (P := P) ho hcal hargs ht hu hte hue hi (by omega) hzv hzvl (by omega) hxv hk2 hyf
              -- the slice that is appended to
              have hxs' : ∀ a sLen sCap, ρ x = .slice a sLen sCap → sLen ≤ sCap → k = 0 → (execOp ρ o).run P w = .ok (.value (ρ x)) w := fun a sLen sCap hxv hle h0 => by
                have hys0 : ys = [] := by
                  apply List.eq_nil_of_length_eq_zero
                  rw [← hyl, hxl, h0, Nat.zero_mul]
                have := (RUN hxv).1 (by omega) w (fun ad _ => by rw [hys0]; rfl) (fun _ => rfl)
                rw [this, hxv, h0]
                rfl
              unfold rappend at hr
              split at hr
              · rename_i h0
                split at hr
                · rename_i hxe
                  simp only [Option.some.injEq, Prod.mk.injEq] at hr
                  obtain ⟨rfl, rfl⟩ := hr
                  rw [hxe] at hx
                  obtain ⟨a, hxv⟩ := hx
                  exact ⟨_, w, hxs' a 0 0 hxv (Nat.le_refl _) h0, .same (by rw [hxe]; exact ⟨a, hxv⟩)⟩
                · rename_i bb off nn lim hxe
                  simp only [Option.some.injEq, Prod.mk.injEq] at hr
                  obtain ⟨rfl, rfl⟩ := hr
                  rw [hxe] at hx
                  obtain ⟨a, cap, hxv, hcap, hrest⟩ := hx
                  exact ⟨_, w, hxs' a nn cap hxv hcap h0, .same (by rw [hxe]; exact ⟨a, cap, hxv, hcap, hrest⟩)⟩
                · simp at hr
              · rename_i h0
                split at hr
                · -- nothing there: a new row
                  rename_i hxe
                  split at hr
                  · rename_i hb2
                    simp only [Option.some.injEq, Prod.mk.injEq] at hr
                    obtain ⟨rfl, rfl⟩ := hr
                    rw [hxe] at hx
                    obtain ⟨a, hxv⟩ := hx
                    obtain ⟨cap, rest, g1, g2, g3⟩ := (RUN hxv).2 (by omega) (by rw [Nat.zero_add, nextslicecap_zero (by omega), hib]; exact hb2.1) [] (fun w' _ => by
                      rw [hxv]; cases a with
                      | none => rfl
                      | some a => simp only [Builtin.firstCells, Nat.zero_mul]; exact loadCells_zero a w')
                    refine ⟨_, _, g3, ?_⟩
                    simp only [Nat.zero_add, List.nil_append] at g1 g2 ⊢
                    refine .push (nk := { cells := xs, e := n }) ⟨rfl, rfl⟩ hys g1 ?_
                    rw [List.length_append, ← hyl, hxl, g2, hin, ← Nat.add_mul]
                    congr 1; omega
                  · simp at hr
                · rename_i bb off nn lim hxe
                  rw [hxe] at hx
                  obtain ⟨a, cap, hxv, hcap, l, hm, hco, haa⟩ := hx
                  split at hr
                  · simp at hr
                  · rename_i blk hact
                    split at hr
                    · rename_i hcnd
                      obtain ⟨q1, q2, q3, q4⟩ := hcnd
                      obtain ⟨e1, e2', e3⟩ := hs.cells bb blk l hact hm
                      have hle : l.e = n := by rw [e1, q1]
                      have hgrow : cap < nn + k → Builtin.nextslicecap (nn + k) cap * i.bytes ≤ 2 ^ 48 := fun h => by
                        rw [hib]
                        exact Nat.le_trans (Nat.mul_le_mul_right _ (nextslicecap_le_wide h)) q3
                      have hold : ∃ old : List Value, VRels m ((blk.cells.drop off).take (nn * n)) old ∧ old.length = nn * n ∧ ∀ w' : World, w'.heap = w.heap → (Builtin.firstCells i.size nn (ρ x)).run P w' = .ok ⟨old⟩ w' := by
                        obtain ⟨old, o1, o2, o3⟩ := stretch hs hact hm q2
                        refine ⟨old, o1, o2, fun w' hw' => ?_⟩
                        rw [hxv, hin]
                        rcases haa with ha | hc0
                        · subst ha
                          simp only [Builtin.firstCells]
                          have := run_loads (P := P) w' l.cb (l.co + off) old (fun j v hv => by
                            have := o3 j v hv
                            simp only [World.cell?, hw'] at this ⊢
                            exact this)
                          rw [o2] at this
                          exact this
                        · have hnn : nn = 0 := by omega
                          subst hnn
                          have : old = [] := List.eq_nil_of_length_eq_zero (by rw [o2, Nat.zero_mul])
                          subst this
                          cases a with
                          | none => rfl
                          | some a => simp only [Builtin.firstCells, Nat.zero_mul]; exact loadCells_zero a w'
                      obtain ⟨old, o1, o2, o3⟩ := hold
                      have hnew : cap < nn + k → ∃ cap' rest, nn + k ≤ cap' ∧ (old ++ ys ++ rest).length = cap' * n ∧
                          (execOp ρ o).run P w = .ok (.value (.slice (some ⟨w.heap.size, 0, none⟩) (nn + k) cap')) (w.drew.alloc (.cells ((old ++ ys) ++ rest).toArray e)) := fun h => by
                        obtain ⟨cap', rest, g1, g2, g3⟩ := (RUN hxv).2 h (hgrow h) old o3
                        refine ⟨cap', rest, g1, ?_, g3⟩
                        rw [List.length_append, List.length_append, o2, ← hyl, hxl, g2, hin, ← Nat.add_mul, ← Nat.add_mul]
                        congr 1; omega
                      have hput : ∀ H1, rput fl H bb (off + nn * n) xs = some H1 → nn + k ≤ cap →
                          (execOp ρ o).run P w = .ok (.value (.slice a (nn + k) cap)) (w.setCells l.cb (l.co + (off + nn * n)) ys) := fun H1 hp hfit => by
                        obtain ⟨p1, p2, _⟩ := put_step hs hfl hp hm hys
                        refine (RUN hxv).1 hfit _ (fun ad had => ?_) (fun h => ?_)
                        · rcases haa with ha | hc0
                          · rw [ha] at had; cases had
                            rw [add_mk, hin, Nat.add_assoc]
                            have := run_storeCells_cells (P := P) l.cb (l.co + (off + nn * n)) ys 0 w (fun j hj => by simpa using (p1 j hj).1) (fun j hj => by simpa using (p1 j hj).2) p2
                            simpa using this
                          · omega
                        · rcases haa with ha | hc0
                          · rw [ha] at h; simp at h
                          · omega
                      have hin_eq : off + nn * n + k * n = off + (nn + k) * n := by rw [Nat.add_mul, Nat.add_assoc]
                      split at hr
                      · rename_i hlive
                        split at hr
                        · -- the capacity is known
                          rename_i cc
                          obtain ⟨hcc, hcr⟩ := hco
                          split at hr
                          · rename_i hfit
                            split at hr
                            · rename_i hfree
                              simp only [Option.map_eq_some_iff, Prod.mk.injEq] at hr
                              obtain ⟨H1, hp, rfl, rfl⟩ := hr
                              exact ⟨_, _, hput H1 hp (by omega), .put hfree hm hp hys ⟨_, _, rfl, by omega, l, hm, ⟨hcc, hcr⟩, haa⟩⟩
                            · simp at hr
                          · rename_i hfit
                            simp only [Option.some.injEq, Prod.mk.injEq] at hr
                            obtain ⟨rfl, rfl⟩ := hr
                            obtain ⟨cap', rest, g1, g2, g3⟩ := hnew (by omega)
                            exact ⟨_, _, g3, .push (nk := { cells := (blk.cells.drop off).take (nn * n) ++ xs, e := n }) ⟨rfl, rfl⟩ (VRels.append o1 hys) g1 g2⟩
                        · have hco' : off + cap * l.e = l.room := hco
                          split at hr
                          · rename_i hfull
                            unfold rappendTop at hr
                            split at hr
                            · rename_i hcd
                              simp only [Option.some.injEq, Prod.mk.injEq] at hr
                              obtain ⟨rfl, rfl⟩ := hr
                              by_cases hfit : nn + k ≤ cap
                              · obtain ⟨b1, b2⟩ := beyond_sim hs (b := bb) (k := blk) (l := l) (vs := ys) (o := l.co + blk.cells.length) (Nat.le_trans hfl hcd.1) hact hlive hm (Nat.le_refl _) (by
                                  rw [← hyl, hxl]
                                  have : (nn + k) * n ≤ cap * n := Nat.mul_le_mul_right _ hfit
                                  rw [hle] at hco'
                                  omega)
                                refine ⟨_, _, (RUN hxv).1 hfit (w.setCells l.cb (l.co + blk.cells.length) ys) (fun ad had => ?_) (fun h => ?_), ?_⟩
                                · rcases haa with ha | hc0
                                  · rw [ha] at had; cases had
                                    rw [add_mk, hin, Nat.add_assoc, hfull]
                                    have := run_storeCells_cells (P := P) l.cb (l.co + blk.cells.length) ys 0 w (fun j hj => by simpa using (b1 j hj).1) (fun j hj => by simpa using (b1 j hj).2) (hys.oneCells hcd.2)
                                    simpa using this
                                  · omega
                                · rcases haa with ha | hc0
                                  · rw [ha] at h; simp at h
                                  · omega
                                · rcases haa with ha | hc0
                                  · rw [ha]
                                    exact .topIn hcd.1 hact hlive hm hle (by omega) hfull hys hxl hcd.2 (by rw [← hle]; exact hco') hfit
                                  · omega
                              · obtain ⟨cap', rest, g1, g2, g3⟩ := hnew (by omega)
                                refine ⟨_, _, g3, .topNew hcd.1 hact hlive hm ?_ g1 g2⟩
                                have : (blk.cells.drop off).take (nn * n) = blk.cells.drop off := List.take_of_length_le (by simp; omega)
                                rw [this] at o1
                                exact VRels.append o1 hys
                            · simp at hr
                          · rename_i hfull
                            split at hr
                            · rename_i hfree
                              simp only [Option.map_eq_some_iff, Prod.mk.injEq] at hr
                              obtain ⟨H1, hp, rfl, rfl⟩ := hr
                              have hfit : nn + k ≤ cap := by
                                have hpl : off + nn * n + xs.length ≤ blk.cells.length := by
                                  have hp' := hp
                                  unfold rput at hp'
                                  rw [act_blk hact hlive] at hp'
                                  simp only at hp'
                                  split at hp'
                                  · rename_i h; exact h.2.1
                                  · simp at hp'
                                rw [hxl] at hpl
                                rw [hle] at hco'
                                have : (nn + k) * n ≤ cap * n := by omega
                                exact Nat.le_of_mul_le_mul_right this (by omega)
                              exact ⟨_, _, hput H1 hp hfit, .put hfree hm hp hys ⟨_, _, rfl, hfit, l, hm, hco, haa⟩⟩
                            · simp at hr
                      · rename_i hlive
                        split at hr
                        · rename_i cdead hrev
                          split at hr
                          · rename_i hcd
                            obtain ⟨hfree, hfull, hflc⟩ := hcd
                            have hco' : off + cap * l.e = l.room := hco
                            unfold rappendTop at hr
                            split at hr
                            · rename_i hcd2
                              have hlen : (H.kill cdead).length = H.length := by unfold Heap.kill; split <;> simp
                              simp only [Option.some.injEq, Prod.mk.injEq, hlen, hfree, if_true] at hr
                              obtain ⟨rfl, rfl⟩ := hr
                              have hlive' : blk.live = false := by simpa using hlive
                              obtain ⟨w1, w2, w3⟩ := hs.own bb blk l (Nat.le_trans hfl hcd2.1) hact hm
                              by_cases hfit : nn + k ≤ cap
                              · have hroom : blk.cells.length + ys.length ≤ l.room := by
                                  rw [← hyl, hxl]
                                  have : (nn + k) * n ≤ cap * n := Nat.mul_le_mul_right _ hfit
                                  rw [hle] at hco'
                                  omega
                                have b1 : ∀ j, j < ys.length → (w.cell? ⟨l.cb, l.co + blk.cells.length + j, none⟩).isSome = true ∧ w.frozen? ⟨l.cb, l.co + blk.cells.length + j, none⟩ = false := fun j hj => by
                                  have := w3.at (blk.cells.length + j) (by omega)
                                  rwa [← Nat.add_assoc] at this
                                refine ⟨_, _, (RUN hxv).1 hfit (w.setCells l.cb (l.co + blk.cells.length) ys) (fun ad had => ?_) (fun h => ?_), ?_⟩
                                · rcases haa with ha | hc0
                                  · rw [ha] at had; cases had
                                    rw [add_mk, hin, Nat.add_assoc, hfull]
                                    have := run_storeCells_cells (P := P) l.cb (l.co + blk.cells.length) ys 0 w (fun j hj => by simpa using (b1 j hj).1) (fun j hj => by simpa using (b1 j hj).2) (hys.oneCells hcd2.2)
                                    simpa using this
                                  · omega
                                · rcases haa with ha | hc0
                                  · rw [ha] at h; simp at h
                                  · omega
                                · rcases haa with ha | hc0
                                  · rw [ha]
                                    exact .reviveIn hfree hcd2.1 hflc hact hlive' hrev hm hle (by omega) hfull hys hxl hcd2.2 (by rw [← hle]; exact hco') hfit
                                  · omega
                              · obtain ⟨cap', rest, g1, g2, g3⟩ := hnew (by omega)
                                refine ⟨_, _, g3, .reviveNew hfree hcd2.1 hflc hact hlive' hrev hm ?_ g1 g2⟩
                                have : (blk.cells.drop off).take (nn * n) = blk.cells.drop off := List.take_of_length_le (by simp; omega)
                                rw [this] at o1
                                exact VRels.append o1 hys
                            · simp at hr
                          · simp at hr
                        · simp at hr
                    · simp at hr
                · simp at hr
            · simp at hr
          · simp at hc
        · simp at hc
      · simp at hc
    · simp at hc

end
end Go.RM

/-
  Each way of an append is a step.
-/
namespace Go.RM
set_option linter.unusedSimpArgs false

/-- The world may grow. -/
theorem sim_world {n0 base : Nat} {m : BMap} {H : Heap} {w w' : World} (hs : Sim n0 base m H w) (hsz : w.heap.size ≤ w'.heap.size) (hold : ∀ c, c < w.heap.size → w'.heap[c]? = w.heap[c]?) : Sim n0 base m H w' := by
  have hlt : ∀ b kb lb, H.act b = some kb → m b = some lb → lb.cb < w.heap.size := fun b kb lb ha hm => by
    by_cases hb : n0 ≤ b
    · exact (hs.own b kb lb hb ha hm).2.1
    · have := hs.ro b lb (by omega) hm
      have := hs.size
      omega
  refine ⟨Nat.le_trans hs.size hsz, hs.low, hs.kids, hs.es, ?_, hs.ro, ?_, hs.inj⟩
  · intro b k l ha hm
    obtain ⟨e1, e2, e3⟩ := hs.cells b k l ha hm
    exact ⟨e1, e2, cellsAt_mono e3 (Ext.refl m) fun j _ => cell_of_heap (hold _ (hlt b k l ha hm)) _⟩
  · intro b k l hb ha hm
    obtain ⟨e1, e2, e3⟩ := hs.own b k l hb ha hm
    exact ⟨e1, by omega, room_of_heap (hold _ e2) e3⟩

theorem kill_length (H : Heap) (c : Nat) : (H.kill c).length = H.length := by unfold Heap.kill; split <;> simp
theorem kill_ne {H : Heap} {c x : Nat} (h : x ≠ c) : (H.kill c)[x]? = H[x]? := by
  unfold Heap.kill; split
  · rw [List.getElem?_set_ne (by omega)]
  · rfl
theorem kill_get {H : Heap} {c : Nat} {k : Blk} (h : (H.kill c)[c]? = some k) : k.live = false ∧ k.kid = none ∧ ∃ k0, H[c]? = some k0 ∧ k.e = k0.e := by
  unfold Heap.kill at h
  split at h
  · rename_i k0 hk0
    have hc : c < H.length := by
      rcases Nat.lt_or_ge c H.length with h | h
      · exact h
      · simp [List.getElem?_eq_none h] at hk0
    rw [List.getElem?_set_self hc] at h
    cases h
    exact ⟨rfl, rfl, k0, hk0, rfl⟩
  · rename_i hn; rw [hn] at h; simp at h

theorem rev_kid {H : Heap} {k : Blk} {c : Nat} (h : H.rev k = some c) : k.live = false ∧ k.kid = some c := by
  unfold Heap.rev at h
  split at h
  · simp at h
  · rename_i hl
    split at h
    · rename_i c' hc
      split at h
      · split at h
        · simp only [Option.some.injEq] at h; subst h; exact ⟨by simpa using hl, hc⟩
        · simp at h
      · simp at h
    · simp at h

/-- A block that is to be revived is live again, its replacement given up. -/
theorem revive_sim {n0 base : Nat} {m : BMap} {H : Heap} {w : World} (hs : Sim n0 base m H w) {b c : Nat} {k : Blk} (hb : n0 ≤ b) (hact : H.act b = some k) (hrev : H.rev k = some c) :
    Sim n0 base m ((H.kill c).set b { k with live := true, clean := false }) w ∧
    Heap.act ((H.kill c).set b { k with live := true, clean := false }) b = some { k with live := true, clean := false } ∧
    ∀ x kx, Heap.act ((H.kill c).set b { k with live := true, clean := false }) x = some kx → x = b ∨ H.act x = some kx := by
  obtain ⟨hdead, hkid⟩ := rev_kid hrev
  have hget := act_get hact
  have hblen := act_lt hact
  have hbk : b < (H.kill c).length := by rw [kill_length]; exact hblen
  have hcb : c ≠ b := fun e => by
    subst e
    unfold Heap.rev at hrev
    simp only [hdead, hkid, hget] at hrev
    simp at hrev
  have hgetb : ((H.kill c).set b { k with live := true, clean := false })[b]? = some { k with live := true, clean := false } := List.getElem?_set_self hbk
  have hgetx : ∀ x, x ≠ b → x ≠ c → ((H.kill c).set b { k with live := true, clean := false })[x]? = H[x]? := fun x h1 h2 => by
    rw [List.getElem?_set_ne (by omega), kill_ne h2]
  have hgetc : ((H.kill c).set b { k with live := true, clean := false })[c]? = (H.kill c)[c]? := by rw [List.getElem?_set_ne (by omega)]
  have hne : ∀ x kx, Heap.act ((H.kill c).set b { k with live := true, clean := false }) x = some kx →
      (x = b ∧ kx = { k with live := true, clean := false }) ∨ (x ≠ b ∧ x ≠ c ∧ H.act x = some kx ∧ (kx.live = false → kx.kid ≠ some b ∧ kx.kid ≠ some c)) := fun x kx h => by
    have hg := act_get h
    by_cases e1 : x = b
    · subst e1; rw [hgetb] at hg; cases hg; exact .inl ⟨rfl, rfl⟩
    · by_cases e2 : x = c
      · exfalso
        subst e2
        rw [hgetc] at hg
        obtain ⟨g1, g2, _⟩ := kill_get hg
        unfold Heap.act at h
        rw [hgetc, hg] at h
        simp [g1, Heap.rev, g2] at h
      · rw [hgetx x e1 e2] at hg
        refine .inr ⟨e1, e2, ?_⟩
        by_cases hlv : kx.live = true
        · exact ⟨act_of hg (.inl hlv), fun h => by simp [hlv] at h⟩
        · unfold Heap.act at h
          rw [hgetx x e1 e2, hg] at h
          simp only [hlv, Bool.false_or] at h
          split at h
          · rename_i hr
            unfold Heap.rev at hr
            simp only [hlv] at hr
            cases hc : kx.kid with
            | none => simp [hc] at hr
            | some d =>
              simp only [hc] at hr
              by_cases d1 : d = b
              · subst d1; rw [hgetb] at hr; simp at hr
              · by_cases d2 : d = c
                · subst d2
                  rw [hgetc] at hr
                  cases hq : (H.kill d)[d]? with
                  | none => simp [hq] at hr
                  | some kd => simp [hq, (kill_get hq).1] at hr
                · rw [hgetx d d1 d2] at hr
                  refine ⟨act_of hg (.inr ?_), fun _ => ⟨by simpa using d1, by simpa using d2⟩⟩
                  unfold Heap.rev
                  simp only [hlv, hc]
                  exact hr
          · simp at h
  refine ⟨⟨hs.size, ?_, ?_, ?_, ?_, hs.ro, ?_, ?_⟩, act_of hgetb (.inl rfl), fun x kx h => ?_⟩
  · rw [List.length_set, kill_length]; exact hs.low
  · intro x d kx hx hd
    rw [List.length_set, kill_length]
    by_cases e1 : x = b
    · subst e1; rw [hgetb] at hx; cases hx; exact hs.kids x d k hget hd
    · by_cases e2 : x = c
      · subst e2; rw [hgetc] at hx; rw [(kill_get hx).2.1] at hd; simp at hd
      · rw [hgetx x e1 e2] at hx; exact hs.kids x d kx hx hd
  · intro x kx lx hx hm
    by_cases e1 : x = b
    · subst e1; rw [hgetb] at hx; cases hx; exact hs.es x k lx hget hm
    · by_cases e2 : x = c
      · subst e2; rw [hgetc] at hx
        obtain ⟨_, _, k0, h0, he⟩ := kill_get hx
        rw [he]; exact hs.es x k0 lx h0 hm
      · rw [hgetx x e1 e2] at hx; exact hs.es x kx lx hx hm
  · intro x kx lx ha hm
    rcases hne x kx ha with ⟨rfl, rfl⟩ | ⟨_, _, ha, _⟩
    · exact hs.cells x k lx hact hm
    · exact hs.cells x kx lx ha hm
  · intro x kx lx hx0 ha hm
    rcases hne x kx ha with ⟨rfl, rfl⟩ | ⟨_, _, ha, _⟩
    · exact hs.own x k lx hx0 hact hm
    · exact hs.own x kx lx hx0 ha hm
  · have hpair : ∀ x kx lx lb, n0 ≤ x → x ≠ b → x ≠ c → H.act x = some kx → m x = some lx → m b = some lb → (kx.live = false → kx.kid ≠ some b ∧ kx.kid ≠ some c) → lx.cb ≠ lb.cb := fun x kx lx lb hx0 h1 h2 ha hm hmb hk he => by
      rcases hs.inj x b kx k lx lb hx0 hb ha hact hm hmb he with h | ⟨g1, g2, _⟩ | ⟨_, g2, _⟩
      · exact h1 h
      · exact (hk g1).1 g2
      · rw [hkid] at g2; cases g2; exact h2 rfl
    intro x x' kx kx' lx lx' hx0 hx0' ha ha' hm hm' he
    rcases hne x kx ha with ⟨e1, e2⟩ | ⟨g1, g2, ha1, hk⟩ <;> rcases hne x' kx' ha' with ⟨f1, f2⟩ | ⟨g1', g2', ha2, hk'⟩
    · left; rw [e1, f1]
    · exfalso; rw [e1] at hm; exact hpair x' kx' lx' lx hx0' g1' g2' ha2 hm' hm hk' he.symm
    · exfalso; rw [f1] at hm'; exact hpair x kx lx lx' hx0 g1 g2 ha1 hm hm' hk he
    · exact hs.inj x x' kx kx' lx lx' hx0 hx0' ha1 ha2 hm hm' he
  · rcases hne x kx h with ⟨e, _⟩ | ⟨_, _, h, _⟩
    · exact .inl e
    · exact .inr h

theorem drew_alloc_old (w : World) (o : Obj) (c : Nat) (hc : c < w.heap.size) : (w.drew.alloc o).heap[c]? = w.heap[c]? := by
  have h : w.drew.heap = w.heap := rfl
  simp only [World.alloc]
  rw [Array.getElem?_push, h, if_neg (by omega)]

theorem act_replace {H : Heap} {b x : Nat} {k2 nk kx : Blk} (hk2 : k2.live = false ∧ (∀ c, k2.kid = some c → c = H.length)) (hk : ∀ (b c : Nat) (k : Blk), H[b]? = some k → k.kid = some c → c < H.length) (hb : b < H.length)
    (h : Heap.act (H.set b k2 ++ [nk]) x = some kx) : x = H.length ∨ x = b ∨ H.act x = some kx := by
  by_cases e : x = H.length
  · exact .inl e
  · by_cases e2 : x = b
    · exact .inr (.inl e2)
    · have hx := act_lt h
      simp at hx
      have hk' : ∀ (y c : Nat) (k : Blk), (H.set b k2)[y]? = some k → y ≠ b → k.kid = some c → c < (H.set b k2).length := fun y c k hy hne hc => by
        rw [List.getElem?_set_ne (by omega)] at hy
        rw [List.length_set]; exact hk y c k hy hc
      have hg := act_get h
      rw [List.getElem?_append_left (by simp; omega)] at hg
      have h2 : Heap.act (H.set b k2) x = some kx := by
        by_cases hlv : kx.live = true
        · exact act_of hg (.inl hlv)
        · refine act_of hg (.inr ?_)
          unfold Heap.act at h
          rw [List.getElem?_append_left (by simp; omega), hg] at h
          simp only [hlv, Bool.false_or] at h
          split at h
          · rename_i hr
            unfold Heap.rev at hr ⊢
            simp only [hlv] at hr ⊢
            cases hc : kx.kid with
            | none => simp [hc] at hr
            | some c =>
              simp only [hc] at hr ⊢
              rw [List.getElem?_append_left (hk' x c kx hg e2 hc)] at hr
              exact hr
          · simp at h
      exact .inr (.inr (act_set (fun k _ h => by simp [hk2.1] at h) h2 e2))

/-- The common end of the four ways in which a block is replaced. -/
theorem top_step {n0 base fl : Nat} {m : BMap} {H0 H : Heap} {w w1 : World} (hs0 : Sim n0 base m H0 w) (hs : Sim n0 base m H w1) (hlen : H.length = H0.length)
    {b : Nat} (hsub : ∀ x kx, H.act x = some kx → x = b ∨ H0.act x = some kx)
    {k k0 k2 nk : Blk} {l l2 : Loc} (hb : n0 ≤ b) (hflb : fl ≤ b)
    (hact0 : H0.act b = some k0) (hact : H.act b = some k) (hlive : k.live = true) (hm : m b = some l) (hn : m H.length = none)
    (hk2 : k2.live = false ∧ (k2.kid ≠ none → k2.cells = k.cells) ∧ k2.e = k.e ∧ (∀ c, k2.kid = some c → c = H.length)) (hnk : nk.live = true ∧ nk.kid = none)
    (he : l2.e = nk.e) (hlen2 : nk.cells.length ≤ l2.room) (hca : CellsAt m w1 l2 nk.cells) (hcb : base ≤ l2.cb ∧ l2.cb < w1.heap.size) (hroom : Room w1 l2)
    (hwhere : (l2.cb = l.cb ∧ l.co + k.cells.length ≤ l2.co + nk.cells.length) ∨ (w.heap.size ≤ l2.cb))
    (hw : w1.os = w.os ∧ w1.tape = w.tape ∧ w1.output = w.output ∧ w.heap.size ≤ w1.heap.size) (hfr : ∀ c, c < w.heap.size → c ≠ l.cb → w1.heap[c]? = w.heap[c]?) :
    Step n0 base fl m H0 w (upd m H.length l2) (H.set b k2 ++ [nk]) w1 := by
  have hhit : Hit fl m H0 l.cb := ⟨b, k0, l, hflb, hact0, hm, rfl⟩
  refine ⟨upd_ext _ hn, ?_, replace_sim hs hb hact hlive hm hn hk2 hnk he hlen2 hca hcb hroom (hwhere.imp id fun h x kx lx ha hmx e => ?_), hw.1, hw.2.1, hw.2.2.1, hw.2.2.2, by simp [hlen], fun c hc hh => hfr c hc fun e => hh (e ▸ hhit), ?_⟩
  · intro x lx h1 h2
    by_cases e : x = H.length
    · subst e; simp [hlen]
    · rw [upd_ne _ e] at h1; simp [h2] at h1
  · -- the new row is not an old one
    have hlx : lx.cb < w.heap.size := by
      have key : ∀ kk, H0.act x = some kk → lx.cb < w.heap.size := fun kk hkk => by
        by_cases hx0 : n0 ≤ x
        · exact (hs0.own x kk lx hx0 hkk hmx).2.1
        · have := hs0.ro x lx (by omega) hmx
          have := hs0.size
          omega
      rcases hsub x kx ha with hx | hx
      · subst hx; exact key k0 hact0
      · exact key kx hx
    omega
  · rintro c hc ⟨x, kx, lx, hx, ha, hmx, rfl⟩
    rcases act_replace ⟨hk2.1, hk2.2.2.2⟩ hs.kids (act_lt hact) ha with h | h | h
    · rw [h, upd_same] at hmx; cases hmx
      rcases hwhere with ⟨h1, _⟩ | h1
      · rw [h1]; exact hhit
      · omega
    · rw [h, upd_ne _ (by have := act_lt hact; omega), hm] at hmx; cases hmx
      exact hhit
    · have hxl := act_lt h
      rw [upd_ne _ (by omega)] at hmx
      rcases hsub x kx h with hx' | hx'
      · rw [hx', hm] at hmx; cases hmx; exact hhit
      · exact ⟨x, kx, lx, hx, hx', hmx, rfl⟩

theorem room_shift {w : World} {l : Loc} (h : Room w l) (off e : Nat) : Room w ⟨l.cb, l.co + off, l.room - off, e⟩ := ⟨fun j hj => by
  have hj' : j < l.room - off := hj
  have := h.cell (off + j) (by omega)
  rwa [← Nat.add_assoc] at this, fun j => by
  have := h.soft (off + j)
  rwa [← Nat.add_assoc] at this⟩

theorem tail_cells {m : BMap} {w : World} {l : Loc} {cells xs : List AV} {ys : List Value} (hc : CellsAt m w l cells) (hr : VRels m xs ys) {off : Nat} (ho : off ≤ cells.length) (room e : Nat)
    (hs : ∀ j, j < ys.length → (w.cell? ⟨l.cb, l.co + cells.length + j, none⟩).isSome = true) :
    CellsAt m (w.setCells l.cb (l.co + cells.length) ys) ⟨l.cb, l.co + off, room, e⟩ (cells.drop off ++ xs) := fun j v hv => by
  show ∃ cv, (w.setCells l.cb (l.co + cells.length) ys).cell? ⟨l.cb, l.co + off + j, none⟩ = some cv ∧ VRel m v cv
  rw [cell_setCells hs]
  by_cases hj : j < cells.length - off
  · rw [List.getElem?_append_left (by simp; omega), List.getElem?_drop] at hv
    obtain ⟨cv, c1, c2⟩ := hc (off + j) v hv
    refine ⟨cv, ?_, c2⟩
    rw [if_neg (by omega), Nat.add_assoc]
    exact c1
  · rw [List.getElem?_append_right (by simp; omega)] at hv
    simp only [List.length_drop] at hv
    obtain ⟨cv, c1, c2⟩ := hr.get _ v hv
    have hlt : j - (cells.length - off) < ys.length := by
      rcases Nat.lt_or_ge (j - (cells.length - off)) ys.length with h | h
      · exact h
      · simp [List.getElem?_eq_none h] at c1
    refine ⟨cv, ?_, c2⟩
    rw [if_pos (by omega), show l.co + off + j - (l.co + cells.length) = j - (cells.length - off) by omega]
    exact c1

theorem new_cells {m : BMap} {w : World} {xs : List AV} {cs rest : List Value} (hr : VRels m xs cs) (t : TypeId) (e : Nat) :
    CellsAt m (w.drew.alloc (.cells (cs ++ rest).toArray t)) ⟨w.heap.size, 0, (cs ++ rest).length, e⟩ xs ∧ Room (w.drew.alloc (.cells (cs ++ rest).toArray t)) ⟨w.heap.size, 0, (cs ++ rest).length, e⟩ := by
  have hc : ∀ j, (w.drew.alloc (.cells (cs ++ rest).toArray t)).cell? ⟨w.heap.size, 0 + j, none⟩ = (cs ++ rest)[j]? := fun j => by
    have := World.cell?_alloc_new w.drew (cs ++ rest).toArray t (0 + j)
    have h : w.drew.heap.size = w.heap.size := rfl
    rw [h] at this
    rw [this]
    simp
  have hf : ∀ j, (w.drew.alloc (.cells (cs ++ rest).toArray t)).frozen? ⟨w.heap.size, 0 + j, none⟩ = false := fun j => by
    have := World.frozen?_alloc_new w.drew (cs ++ rest).toArray t (0 + j)
    exact this
  refine ⟨fun j v hv => ?_, ⟨fun j hj => ?_, hf⟩⟩
  · obtain ⟨cv, c1, c2⟩ := hr.get j v hv
    refine ⟨cv, ?_, c2⟩
    show (w.drew.alloc (.cells (cs ++ rest).toArray t)).cell? ⟨w.heap.size, 0 + j, none⟩ = some cv
    rw [hc, List.getElem?_append_left]
    · exact c1
    · rcases Nat.lt_or_ge j cs.length with h | h
      · exact h
      · simp [List.getElem?_eq_none h] at c1
  · show ((w.drew.alloc (.cells (cs ++ rest).toArray t)).cell? ⟨w.heap.size, 0 + j, none⟩).isSome = true
    have hj' : j < (cs ++ rest).length := hj
    rw [hc, List.getElem?_eq_getElem hj']; rfl

theorem app_step {n0 base fl : Nat} {free : Bool} {m : BMap} {H H' : Heap} {w w' : World} {v : AV} {v' : Value} (h : AppRes fl free m H w v H' v' w') (hs : Sim n0 base m H w) (hfl : n0 ≤ fl)
    (hn : H.length < H'.length → m H.length = none) : ∃ m', VRel m' v v' ∧ Step n0 base fl m H w m' H' w' := by
  cases h with
  | same hv => exact ⟨m, hv, Step.refl hs⟩
  | push hk hr hle hcap =>
    have hn := hn (by simp)
    refine ⟨_, ⟨_, _, rfl, hle, _, upd_same _ _ _, ?_, .inl (by simp)⟩, push_step hs hn hk.1 hr rfl rfl rfl rfl⟩
    show 0 + _ = _
    rw [hcap]; simp
  | put hfree hm hp hr hv => exact ⟨m, hv, (put_step hs hfl hp hm hr).2.2⟩
  | topIn hflb hact hlive hm he hoff hfull hr hxs hsc hcap hle =>
    rename_i b off n k e cap blk l xs ys
    have hn := hn (by simp)
    have hyl := hr.length
    obtain ⟨o1, o2, o3⟩ := hs.own b blk l (Nat.le_trans hfl hflb) hact hm
    have hroom : l.co + blk.cells.length + ys.length ≤ l.co + l.room := by
      rw [← hyl, hxs]
      have : (n + k) * e ≤ cap * e := Nat.mul_le_mul_right _ hle
      rw [Nat.add_mul] at this
      omega
    obtain ⟨b1, b2⟩ := beyond_sim hs (Nat.le_trans hfl hflb) hact hlive hm (vs := ys) (Nat.le_refl _) hroom
    obtain ⟨p1, p2, p3⟩ := b2.own b blk l (Nat.le_trans hfl hflb) hact hm
    obtain ⟨s1, s2, s3⟩ := setCells_os l.cb ys (l.co + blk.cells.length) w
    have ssz := setCells_size l.cb ys (l.co + blk.cells.length) w
    have e1 := (hs.cells b blk l hact hm).1
    have hcl : (blk.cells.drop off ++ xs).length ≤ l.room - off := by
      simp only [List.length_append, List.length_drop]; omega
    refine ⟨upd m H.length ⟨l.cb, l.co + off, l.room - off, e⟩, ⟨_, _, rfl, hle, _, upd_same _ _ _, ?_, .inl (by simp)⟩,
      top_step (l := l) (l2 := ⟨l.cb, l.co + off, l.room - off, e⟩) hs b2 rfl (b := b) (fun x kx hx => .inr hx) (Nat.le_trans hfl hflb) hflb hact hact hlive hm hn ⟨rfl, fun _ => rfl, rfl, fun c hc => by split at hc <;> simp at hc; exact hc.symm⟩ ⟨rfl, rfl⟩ rfl hcl
        (tail_cells (hs.cells b blk l hact hm).2.2 hr hoff _ _ fun j hj => (b1 j hj).1) ⟨p1, p2⟩ (room_shift p3 off e) (.inl ⟨rfl, by simp only [List.length_append, List.length_drop]; omega⟩) ⟨s1, s2, s3, by rw [ssz]; exact Nat.le_refl _⟩
        (fun c hc hne => setCells_other _ _ _ _ _ hne)⟩
    show 0 + cap * e = l.room - off
    omega
  | topNew hflb hact hlive hm hr hle hcap =>
    rename_i b off n k e cap blk l xs cs rest t
    have hn := hn (by simp)
    obtain ⟨c1, c2⟩ := new_cells (w := w) (rest := rest) hr t e
    have hsz : (w.drew.alloc (.cells (cs ++ rest).toArray t)).heap.size = w.heap.size + 1 := by simp
    refine ⟨upd m H.length ⟨w.heap.size, 0, (cs ++ rest).length, e⟩, ⟨_, _, rfl, hle, _, upd_same _ _ _, ?_, .inl (by simp)⟩,
      top_step (l := l) (l2 := ⟨w.heap.size, 0, (cs ++ rest).length, e⟩) hs (sim_world hs (by rw [hsz]; omega) (fun c hc => drew_alloc_old w _ c hc)) rfl (b := b) (fun x kx hx => .inr hx) (Nat.le_trans hfl hflb) hflb hact hact hlive hm hn
        ⟨rfl, fun _ => rfl, rfl, fun c hc => by split at hc <;> simp at hc; exact hc.symm⟩ ⟨rfl, rfl⟩ rfl (by simp [hr.length]) c1 ⟨hs.size, by rw [hsz]; simp⟩ c2 (.inr (Nat.le_refl _)) ⟨rfl, rfl, rfl, by rw [hsz]; omega⟩
        (fun c hc _ => drew_alloc_old w _ c hc)⟩
    show 0 + cap * e = _
    rw [hcap]; simp
  | reviveIn hfree hflb hflc hact hlive hrev hm he hoff hfull hr hxs hsc hcap hle =>
    rename_i b c off n k e cap blk l xs ys
    have hn := hn (by simp [kill_length])
    have hyl := hr.length
    obtain ⟨r1, r2, r3⟩ := revive_sim hs (Nat.le_trans hfl hflb) hact hrev
    have hlen1 : ((H.kill c).set b { blk with live := true, clean := false }).length = H.length := by simp [kill_length]
    have hroom : l.co + blk.cells.length + ys.length ≤ l.co + l.room := by
      rw [← hyl, hxs]
      have : (n + k) * e ≤ cap * e := Nat.mul_le_mul_right _ hle
      rw [Nat.add_mul] at this
      omega
    obtain ⟨b1, b2⟩ := beyond_sim r1 (Nat.le_trans hfl hflb) r2 rfl hm (vs := ys) (Nat.le_refl _) hroom
    obtain ⟨p1, p2, p3⟩ := b2.own b _ l (Nat.le_trans hfl hflb) r2 hm
    obtain ⟨s1, s2, s3⟩ := setCells_os l.cb ys (l.co + blk.cells.length) w
    have ssz := setCells_size l.cb ys (l.co + blk.cells.length) w
    have hcl : (blk.cells.drop off ++ xs).length ≤ l.room - off := by
      simp only [List.length_append, List.length_drop]; omega
    have := top_step (fl := fl) (l := l) (l2 := ⟨l.cb, l.co + off, l.room - off, e⟩) (k2 := { blk with live := false, kid := some H.length }) (nk := { cells := blk.cells.drop off ++ xs, e }) hs b2 hlen1 (b := b) r3 (Nat.le_trans hfl hflb) hflb hact r2 rfl hm (by rw [hlen1]; exact hn)
        ⟨rfl, fun _ => rfl, rfl, fun c hc => by rw [hlen1]; simpa using hc.symm⟩ ⟨rfl, rfl⟩ rfl hcl
        (tail_cells (hs.cells b blk l hact hm).2.2 hr hoff _ _ fun j hj => (b1 j hj).1) ⟨p1, p2⟩ (room_shift p3 off e) (.inl ⟨rfl, by simp only [List.length_append, List.length_drop]; omega⟩) ⟨s1, s2, s3, by rw [ssz]; exact Nat.le_refl _⟩
        (fun c hc hne => setCells_other _ _ _ _ _ hne)
    rw [hlen1, List.set_set] at this
    refine ⟨upd m H.length ⟨l.cb, l.co + off, l.room - off, e⟩, ⟨_, _, rfl, hle, _, upd_same _ _ _, ?_, .inl (by simp)⟩, this⟩
    show 0 + cap * e = l.room - off
    omega
  | reviveNew hfree hflb hflc hact hlive hrev hm hr hle hcap =>
    rename_i b c off n k e cap blk l xs cs rest t
    have hn := hn (by simp [kill_length])
    obtain ⟨r1, r2, r3⟩ := revive_sim hs (Nat.le_trans hfl hflb) hact hrev
    have hlen1 : ((H.kill c).set b { blk with live := true, clean := false }).length = H.length := by simp [kill_length]
    obtain ⟨c1, c2⟩ := new_cells (w := w) (rest := rest) hr t e
    have hsz : (w.drew.alloc (.cells (cs ++ rest).toArray t)).heap.size = w.heap.size + 1 := by simp
    have := top_step (fl := fl) (l := l) (l2 := ⟨w.heap.size, 0, (cs ++ rest).length, e⟩) (k2 := { blk with live := false, kid := some H.length }) (nk := { cells := blk.cells.drop off ++ xs, e }) hs
        (sim_world r1 (by rw [hsz]; omega) (fun c hc => drew_alloc_old w _ c hc)) hlen1 (b := b) r3 (Nat.le_trans hfl hflb) hflb hact r2 rfl hm (by rw [hlen1]; exact hn)
        ⟨rfl, fun _ => rfl, rfl, fun c hc => by rw [hlen1]; simpa using hc.symm⟩ ⟨rfl, rfl⟩ rfl (by simp [hr.length]) c1 ⟨hs.size, by rw [hsz]; simp⟩ c2 (.inr (Nat.le_refl _)) ⟨rfl, rfl, rfl, by rw [hsz]; omega⟩
        (fun c hc _ => drew_alloc_old w _ c hc)
    rw [hlen1, List.set_set] at this
    refine ⟨upd m H.length ⟨w.heap.size, 0, (cs ++ rest).length, e⟩, ⟨_, _, rfl, hle, _, upd_same _ _ _, ?_, .inl (by simp)⟩, this⟩
    show 0 + cap * e = _
    rw [hcap]; simp

end Go.RM

/-
  What every run of the abstract machine keeps: blocks below the floor, sizes of elements, the numbers of replacements.
-/
namespace Go.RM
set_option linter.unusedSimpArgs false

structure Facts (fl : Nat) (H H' : Heap) : Prop where
  len : H.length ≤ H'.length
  low : ∀ b, b < fl → b < H.length → H'[b]? = H[b]?
  kids : (∀ (b c : Nat) (k : Blk), H[b]? = some k → k.kid = some c → c < H.length) → ∀ (b c : Nat) (k : Blk), H'[b]? = some k → k.kid = some c → c < H'.length
  new : ∀ (b c : Nat) (k : Blk), H.length ≤ b → H'[b]? = some k → k.kid = some c → H.length ≤ c
  es : ∀ (b : Nat) (k k' : Blk), H[b]? = some k → H'[b]? = some k' → k'.e = k.e
  chg : ∀ (b : Nat) (k k' : Blk), H[b]? = some k → H'[b]? = some k' → k'.kid = k.kid ∨ k'.kid = none ∨ ∃ c, k'.kid = some c ∧ H.length ≤ c

theorem Facts.refl (fl : Nat) (H : Heap) : Facts fl H H :=
  ⟨Nat.le_refl _, fun _ _ _ => rfl, fun h => h, fun b c k hb h => by rw [List.getElem?_eq_none hb] at h; simp at h, fun b k k' h h' => by rw [h] at h'; cases h'; rfl, fun b k k' h h' => by rw [h] at h'; cases h'; exact .inl rfl⟩

theorem get_lt {H : Heap} {b : Nat} {k : Blk} (h : H[b]? = some k) : b < H.length := by
  rcases Nat.lt_or_ge b H.length with h1 | h1
  · exact h1
  · simp [List.getElem?_eq_none h1] at h

theorem Facts.trans {fl : Nat} {H1 H2 H3 : Heap} (a : Facts fl H1 H2) (b : Facts fl H2 H3) : Facts fl H1 H3 where
  len := Nat.le_trans a.len b.len
  low := fun x h1 h2 => by rw [b.low x h1 (Nat.lt_of_lt_of_le h2 a.len), a.low x h1 h2]
  kids := fun h => b.kids (a.kids h)
  new := fun x c k hx hk hc => by
    by_cases h : x < H2.length
    · rcases b.chg x H2[x] k (List.getElem?_eq_getElem h) hk with h1 | h1 | ⟨c', h1, h2⟩
      · rw [hc] at h1; exact a.new x c _ hx (List.getElem?_eq_getElem h) h1.symm
      · rw [hc] at h1; simp at h1
      · rw [hc] at h1; cases h1; exact Nat.le_trans a.len h2
    · exact Nat.le_trans a.len (b.new x c k (by omega) hk hc)
  es := fun x k k' hk hk' => by
    have h := Nat.lt_of_lt_of_le (get_lt hk) a.len
    rw [b.es x _ k' (List.getElem?_eq_getElem h) hk', a.es x k _ hk (List.getElem?_eq_getElem h)]
  chg := fun x k k' hk hk' => by
    have h := Nat.lt_of_lt_of_le (get_lt hk) a.len
    rcases b.chg x _ k' (List.getElem?_eq_getElem h) hk' with h1 | h1 | ⟨c, h1, h2⟩
    · rcases a.chg x k _ hk (List.getElem?_eq_getElem h) with g | g | ⟨c, g1, g2⟩
      · exact .inl (h1.trans g)
      · exact .inr (.inl (h1.trans g))
      · exact .inr (.inr ⟨c, h1.trans g1, g2⟩)
    · exact .inr (.inl h1)
    · exact .inr (.inr ⟨c, h1, Nat.le_trans a.len h2⟩)

theorem Facts.push (fl : Nat) (H : Heap) {k : Blk} (hk : k.kid = none) : Facts fl H (H ++ [k]) where
  len := by simp
  low := fun b _ h => by rw [List.getElem?_append_left h]
  kids := fun h b c k' hb hc => by
    by_cases e : b < H.length
    · rw [List.getElem?_append_left e] at hb
      have := h b c k' hb hc; simp; omega
    · rw [List.getElem?_append_right (by omega)] at hb
      cases hq : b - H.length with
      | zero => rw [hq] at hb; simp at hb; subst hb; rw [hk] at hc; simp at hc
      | succ q => rw [hq] at hb; simp at hb
  new := fun b c k' hb hg hc => by
    rw [List.getElem?_append_right hb] at hg
    cases hq : b - H.length with
    | zero => rw [hq] at hg; simp at hg; subst hg; rw [hk] at hc; simp at hc
    | succ q => rw [hq] at hg; simp at hg
  es := fun b k1 k2 h1 h2 => by rw [List.getElem?_append_left (get_lt h1), h1] at h2; cases h2; rfl
  chg := fun b k1 k2 h1 h2 => by rw [List.getElem?_append_left (get_lt h1), h1] at h2; cases h2; exact .inl rfl

theorem Facts.set {fl : Nat} {H : Heap} {b : Nat} {k k2 : Blk} (hb : fl ≤ b) (hg : H[b]? = some k) (he : k2.e = k.e) (hk : k2.kid = k.kid ∨ k2.kid = none) : Facts fl H (H.set b k2) where
  len := by simp
  low := fun x hx _ => by rw [List.getElem?_set_ne (by omega)]
  kids := fun h x c k' hx hc => by
    rw [List.length_set]
    by_cases e : x = b
    · subst e; rw [List.getElem?_set_self (get_lt hg)] at hx; cases hx
      rcases hk with h1 | h1
      · rw [h1] at hc; exact h x c k hg hc
      · rw [h1] at hc; simp at hc
    · rw [List.getElem?_set_ne (by omega)] at hx; exact h x c k' hx hc
  new := fun x c k' hx h _ => by rw [List.getElem?_eq_none (by simpa using hx)] at h; simp at h
  es := fun x k1 k3 h1 h3 => by
    by_cases e : x = b
    · subst e; rw [List.getElem?_set_self (get_lt hg)] at h3; cases h3; rw [hg] at h1; cases h1; exact he
    · rw [List.getElem?_set_ne (by omega), h1] at h3; cases h3; rfl
  chg := fun x k1 k3 h1 h3 => by
    by_cases e : x = b
    · subst e; rw [List.getElem?_set_self (get_lt hg)] at h3; cases h3; rw [hg] at h1; cases h1
      rcases hk with h | h
      · exact .inl h
      · exact .inr (.inl h)
    · rw [List.getElem?_set_ne (by omega), h1] at h3; cases h3; exact .inl rfl

theorem Facts.top {fl : Nat} {H : Heap} {b : Nat} {k k2 nk : Blk} (hb : fl ≤ b) (hg : H[b]? = some k) (he : k2.e = k.e) (hk : k2.kid = none ∨ k2.kid = some H.length) (hn : nk.kid = none) : Facts fl H (H.set b k2 ++ [nk]) where
  len := by simp
  low := fun x hx h => by rw [List.getElem?_append_left (by simpa using h), List.getElem?_set_ne (by omega)]
  kids := fun h x c k' hx hc => by
    simp only [List.length_append, List.length_set, List.length_cons, List.length_nil]
    by_cases e0 : x < H.length
    · rw [List.getElem?_append_left (by simpa using e0)] at hx
      by_cases e : x = b
      · subst e; rw [List.getElem?_set_self (get_lt hg)] at hx; cases hx
        rcases hk with h1 | h1
        · rw [h1] at hc; simp at hc
        · rw [h1] at hc; simp at hc; omega
      · rw [List.getElem?_set_ne (by omega)] at hx; have := h x c k' hx hc; omega
    · rw [List.getElem?_append_right (by simp; omega)] at hx
      cases hq : x - (H.set b k2).length with
      | zero => rw [hq] at hx; simp at hx; subst hx; rw [hn] at hc; simp at hc
      | succ q => rw [hq] at hx; simp at hx
  new := fun x c k' hx h hc => by
    rw [List.getElem?_append_right (by simpa using hx)] at h
    cases hq : x - (H.set b k2).length with
    | zero => rw [hq] at h; simp at h; subst h; rw [hn] at hc; simp at hc
    | succ q => rw [hq] at h; simp at h
  es := fun x k1 k3 h1 h3 => by
    rw [List.getElem?_append_left (by simpa using get_lt h1)] at h3
    by_cases e : x = b
    · subst e; rw [List.getElem?_set_self (get_lt hg)] at h3; cases h3; rw [hg] at h1; cases h1; exact he
    · rw [List.getElem?_set_ne (by omega), h1] at h3; cases h3; rfl
  chg := fun x k1 k3 h1 h3 => by
    rw [List.getElem?_append_left (by simpa using get_lt h1)] at h3
    by_cases e : x = b
    · subst e; rw [List.getElem?_set_self (get_lt hg)] at h3; cases h3; rw [hg] at h1; cases h1
      rcases hk with h | h
      · exact .inr (.inl h)
      · exact .inr (.inr ⟨_, h, Nat.le_refl _⟩)
    · rw [List.getElem?_set_ne (by omega), h1] at h3; cases h3; exact .inl rfl

theorem rput_facts {fl : Nat} {H H' : Heap} {b off : Nat} {cs : List AV} (h : rput fl H b off cs = some H') : Facts fl H H' := by
  unfold rput at h
  split at h
  · rename_i k hk
    split at h
    · rename_i hc
      cases h
      exact Facts.set hc.1 (blk_act hk).2.2 rfl (.inl rfl)
    · simp at h
  · simp at h

theorem rappendTop_facts {fl : Nat} {free : Bool} {e : Nat} {H H' : Heap} {b off n k : Nat} {blk : Blk} {xs : List AV} {v : AV} (hg : H[b]? = some blk) (h : rappendTop fl free e H b off n k blk xs = some (v, H')) : Facts fl H H' := by
  unfold rappendTop at h
  split at h
  · rename_i hc
    simp only [Option.some.injEq, Prod.mk.injEq] at h
    obtain ⟨_, rfl⟩ := h
    refine Facts.top hc.1 hg rfl ?_ rfl
    split
    · exact .inr rfl
    · exact .inl rfl
  · simp at h

theorem rev_ne {H : Heap} {b c : Nat} {blk : Blk} (hg : H[b]? = some blk) (h : H.rev blk = some c) : c ≠ b ∧ c < H.length := by
  obtain ⟨hd, hk⟩ := rev_kid h
  unfold Heap.rev at h
  simp only [hd, hk] at h
  cases hc : H[c]? with
  | none => simp [hc] at h
  | some kc =>
    refine ⟨fun e => ?_, get_lt hc⟩
    subst e
    rw [hg] at hc; cases hc
    simp [hg, hd] at h

theorem rappend_facts {fl : Nat} {free : Bool} {e bytes : Nat} {H H' : Heap} {s v : AV} {k : Nat} {xs : List AV} (h : rappend fl free e bytes H s k xs = some (v, H')) : Facts fl H H' := by
  unfold rappend at h
  split at h
  · split at h
    · simp only [Option.some.injEq, Prod.mk.injEq] at h; obtain ⟨_, rfl⟩ := h; exact Facts.refl _ _
    · simp only [Option.some.injEq, Prod.mk.injEq] at h; obtain ⟨_, rfl⟩ := h; exact Facts.refl _ _
    · simp at h
  · split at h
    · split at h
      · simp only [Option.some.injEq, Prod.mk.injEq] at h; obtain ⟨_, rfl⟩ := h; exact Facts.push _ _ rfl
      · simp at h
    · split at h
      · simp at h
      · rename_i blk hact
        have hg := act_get hact
        split at h
        · split at h
          · split at h
            · split at h
              · split at h
                · simp only [Option.map_eq_some_iff, Prod.mk.injEq] at h
                  obtain ⟨H1, hp, _, rfl⟩ := h
                  exact rput_facts hp
                · simp at h
              · simp only [Option.some.injEq, Prod.mk.injEq] at h; obtain ⟨_, rfl⟩ := h; exact Facts.push _ _ rfl
            · split at h
              · exact rappendTop_facts hg h
              · split at h
                · simp only [Option.map_eq_some_iff, Prod.mk.injEq] at h
                  obtain ⟨H1, hp, _, rfl⟩ := h
                  exact rput_facts hp
                · simp at h
          · split at h
            · rename_i c hrev
              split at h
              · rename_i hcd
                obtain ⟨h1, h2⟩ := rev_ne hg hrev
                have hgk := (kill_ne (H := H) (Ne.symm h1)).trans hg
                refine Facts.trans (H2 := H.kill c) ?_ (rappendTop_facts hgk h)
                unfold Heap.kill
                split
                · rename_i kc hkc
                  exact Facts.set hcd.2.2 hkc rfl (.inr rfl)
                · exact Facts.refl _ _
              · simp at h
            · simp at h
        · simp at h
    · simp at h

/-- A call's run keeps what it must. -/
def CallFacts (call : Nat → Nat → List AV → Heap → Option (AV × Heap)) : Prop := ∀ fl f args H v H', call fl f args H = some (v, H') → Facts fl H H'

theorem rop_facts {call : Nat → Nat → List AV → Heap → Option (AV × Heap)} {fl : Nat} {free : Bool} {X : RX → AV} {H H' : Heap} {r : ROp} {v : AV} (h : rop call fl free X H r = some (v, H')) :
    (∀ f args, r ≠ .call f args) → (∀ f args, r ≠ .callS f args) → Facts fl H H' := by
  intro n1 n2
  cases r <;> simp only [rop, reduceCtorEq] at h
  case move => simp only [Option.some.injEq, Prod.mk.injEq] at h; obtain ⟨_, rfl⟩ := h; exact Facts.refl _ _
  case pick =>
    split at h
    · simp only [Option.some.injEq, Prod.mk.injEq] at h; obtain ⟨_, rfl⟩ := h; exact Facts.refl _ _
    · simp at h
  case alloc => simp only [Option.some.injEq, Prod.mk.injEq] at h; obtain ⟨_, rfl⟩ := h; exact Facts.push _ _ rfl
  case box => simp only [Option.some.injEq, Prod.mk.injEq] at h; obtain ⟨_, rfl⟩ := h; exact Facts.push _ _ rfl
  case build => simp only [Option.map_eq_some_iff, Prod.mk.injEq] at h; obtain ⟨_, _, _, rfl⟩ := h; exact Facts.refl _ _
  case buildSlice => simp only [Option.map_eq_some_iff, Prod.mk.injEq] at h; obtain ⟨_, _, _, rfl⟩ := h; exact Facts.push _ _ rfl
  case load =>
    split at h
    · simp only [Option.map_eq_some_iff, Prod.mk.injEq] at h; obtain ⟨_, _, _, rfl⟩ := h; exact Facts.refl _ _
    · simp at h
  case store =>
    split at h
    · split at h
      · simp only [Option.map_eq_some_iff, Prod.mk.injEq] at h; obtain ⟨_, hp, _, rfl⟩ := h; exact rput_facts hp
      · simp at h
    · simp at h
  case nilCheck =>
    split at h
    · simp only [Option.some.injEq, Prod.mk.injEq] at h; obtain ⟨_, rfl⟩ := h; exact Facts.refl _ _
    · simp only [Option.some.injEq, Prod.mk.injEq] at h; obtain ⟨_, rfl⟩ := h; exact Facts.refl _ _
    · simp at h
  case bin => simp only [Option.map_eq_some_iff, Prod.mk.injEq] at h; obtain ⟨_, _, _, rfl⟩ := h; exact Facts.refl _ _
  case un => simp only [Option.map_eq_some_iff, Prod.mk.injEq] at h; obtain ⟨_, _, _, rfl⟩ := h; exact Facts.refl _ _
  case convInt =>
    split at h
    · simp only [Option.some.injEq, Prod.mk.injEq] at h; obtain ⟨_, rfl⟩ := h; exact Facts.refl _ _
    · simp at h
  case makeFunc => simp only [Option.some.injEq, Prod.mk.injEq] at h; obtain ⟨_, rfl⟩ := h; exact Facts.refl _ _
  case makeSlice =>
    split at h
    · split at h
      · simp only [Option.some.injEq, Prod.mk.injEq] at h; obtain ⟨_, rfl⟩ := h; exact Facts.push _ _ rfl
      · simp at h
    · simp at h
  case slice => simp only [Option.map_eq_some_iff, Prod.mk.injEq] at h; obtain ⟨_, _, _, rfl⟩ := h; exact Facts.refl _ _
  case sliceStr =>
    split at h
    · split at h
      · split at h
        · simp only [Option.some.injEq, Prod.mk.injEq] at h; obtain ⟨_, rfl⟩ := h; exact Facts.refl _ _
        · simp at h
      · simp at h
    · simp at h
  case fieldAddr =>
    split at h
    · simp only [Option.some.injEq, Prod.mk.injEq] at h; obtain ⟨_, rfl⟩ := h; exact Facts.refl _ _
    · simp at h
  case field =>
    split at h
    · simp only [Option.map_eq_some_iff, Prod.mk.injEq] at h; obtain ⟨_, _, _, rfl⟩ := h; exact Facts.refl _ _
    · simp at h
  case indexAddr =>
    split at h
    · split at h
      · simp only [Option.some.injEq, Prod.mk.injEq] at h; obtain ⟨_, rfl⟩ := h; exact Facts.refl _ _
      · simp at h
    · simp at h
  case indexArr =>
    split at h
    · split at h
      · simp only [Option.some.injEq, Prod.mk.injEq] at h; obtain ⟨_, rfl⟩ := h; exact Facts.refl _ _
      · simp at h
    · simp at h
  case indexStr =>
    split at h
    · split at h
      · simp only [Option.some.injEq, Prod.mk.injEq] at h; obtain ⟨_, rfl⟩ := h; exact Facts.refl _ _
      · simp at h
    · simp at h
  case indexAgg =>
    split at h
    · split at h
      · simp only [Option.map_eq_some_iff, Prod.mk.injEq] at h; obtain ⟨_, _, _, rfl⟩ := h; exact Facts.refl _ _
      · simp at h
    · simp at h
  case extract =>
    split at h
    · simp only [Option.map_eq_some_iff, Prod.mk.injEq] at h; obtain ⟨_, _, _, rfl⟩ := h; exact Facts.refl _ _
    · simp at h
  case call f args => exact absurd rfl (n1 f args)
  case callS f args => exact absurd rfl (n2 f args)
  case len =>
    split at h
    · simp only [Option.some.injEq, Prod.mk.injEq] at h; obtain ⟨_, rfl⟩ := h; exact Facts.refl _ _
    · simp only [Option.some.injEq, Prod.mk.injEq] at h; obtain ⟨_, rfl⟩ := h; exact Facts.refl _ _
    · simp at h
  case lenStr =>
    split at h
    · simp only [Option.some.injEq, Prod.mk.injEq] at h; obtain ⟨_, rfl⟩ := h; exact Facts.refl _ _
    · simp at h
  case append =>
    split at h
    · simp only [Option.bind_eq_some_iff] at h
      obtain ⟨_, _, h⟩ := h
      exact rappend_facts h
    · simp at h
  case copy =>
    split at h
    · split at h
      · simp only [Option.some.injEq, Prod.mk.injEq] at h; obtain ⟨_, rfl⟩ := h; exact Facts.refl _ _
      · split at h
        · simp only [Option.bind_eq_some_iff, Option.map_eq_some_iff, Prod.mk.injEq] at h
          obtain ⟨_, _, _, hp, _, rfl⟩ := h
          exact rput_facts hp
        · simp at h
    · simp at h
  case clear =>
    split at h
    · simp only [Option.some.injEq, Prod.mk.injEq] at h; obtain ⟨_, rfl⟩ := h; exact Facts.refl _ _
    · split at h
      · simp only [Option.some.injEq, Prod.mk.injEq] at h; obtain ⟨_, rfl⟩ := h; exact Facts.refl _ _
      · simp only [Option.map_eq_some_iff, Prod.mk.injEq] at h
        obtain ⟨_, hp, _, rfl⟩ := h
        exact rput_facts hp
    · simp at h
  case min =>
    split at h
    · simp only [Option.map_eq_some_iff, Prod.mk.injEq] at h; obtain ⟨_, _, _, rfl⟩ := h; exact Facts.refl _ _
    · simp at h
  case max =>
    split at h
    · simp only [Option.map_eq_some_iff, Prod.mk.injEq] at h; obtain ⟨_, _, _, rfl⟩ := h; exact Facts.refl _ _
    · simp at h
  case tomb => simp only [Option.some.injEq, Prod.mk.injEq] at h; obtain ⟨_, rfl⟩ := h; exact Facts.push _ _ rfl
  case upd =>
    split at h
    · split at h
      · simp only [Option.some.injEq, Prod.mk.injEq] at h; obtain ⟨_, rfl⟩ := h; exact Facts.refl _ _
      · simp at h
    · simp at h

theorem Facts.all {H H' : Heap} (h : Facts H.length H H') (fl : Nat) : Facts fl H H' :=
  ⟨h.len, fun b _ hl => h.low b hl hl, h.kids, h.new, h.es, h.chg⟩

theorem rop_facts' {call : Nat → Nat → List AV → Heap → Option (AV × Heap)} (hcall : CallFacts call) {fl : Nat} {free : Bool} {X : RX → AV} {H H' : Heap} {r : ROp} {v : AV} (h : rop call fl free X H r = some (v, H')) : Facts fl H H' := by
  have hc : ∀ g args, call (if free then fl else H.length) g args H = some (v, H') → Facts fl H H' := fun g args hh => by
    have := hcall _ _ _ _ _ _ hh
    split at this
    · exact this
    · exact this.all fl
  by_cases h1 : ∃ f args, r = .call f args
  · obtain ⟨f, args, rfl⟩ := h1
    simp only [rop] at h
    split at h
    · exact hc _ _ h
    · simp at h
  · by_cases h2 : ∃ f args, r = .callS f args
    · obtain ⟨f, args, rfl⟩ := h2
      simp only [rop] at h
      exact hc _ _ h
    · exact rop_facts h (fun f args e => h1 ⟨f, args, e⟩) (fun f args e => h2 ⟨f, args, e⟩)

theorem rops_facts {call : Nat → Nat → List AV → Heap → Option (AV × Heap)} (hcall : CallFacts call) {fl : Nat} {E : List AV} : ∀ {l : List ROper} {L L' : List AV} {H H' : Heap},
    rops call fl E l L H = some (L', H') → Facts fl H H'
  | [], L, L', H, H', h => by simp only [rops, Option.some.injEq, Prod.mk.injEq] at h; obtain ⟨_, rfl⟩ := h; exact Facts.refl _ _
  | o :: l, L, L', H, H', h => by
    simp only [rops] at h
    split at h
    · split at h
      · rename_i hr
        exact (rop_facts' hcall hr).trans (rops_facts hcall h)
      · simp at h
    · exact rops_facts hcall h

theorem rprim_facts {p : Prim} {fl : Nat} {args : List AV} {H H' : Heap} {v : AV} (h : rprim p fl args H = some (v, H')) : Facts fl H H' := by
  unfold rprim at h
  split at h
  · unfold rinsert at h
    split at h
    · split at h
      · split at h
        · split at h
          · split at h
            · simp only [Option.some.injEq, Prod.mk.injEq] at h
              obtain ⟨_, rfl⟩ := h
              exact Facts.push _ _ rfl
            · simp at h
          · split at h
            · rename_i k hk
              split at h
              · rename_i hc
                split at h
                · simp only [Option.some.injEq, Prod.mk.injEq] at h
                  obtain ⟨_, rfl⟩ := h
                  exact Facts.top hc.1 (blk_act hk).2.2 hc.2.2.1.symm (.inl rfl) rfl
                · simp only [Option.bind_eq_some_iff, Option.map_eq_some_iff, Prod.mk.injEq] at h
                  obtain ⟨H1, h1, H2, h2, _, rfl⟩ := h
                  exact (rput_facts h1).trans (rput_facts h2)
              · simp at h
            · simp at h
          · simp at h
        · simp at h
      · simp at h
    · simp at h
  · unfold rclone at h
    split at h
    · simp at h
    · split at h
      · simp only [Option.some.injEq, Prod.mk.injEq] at h
        obtain ⟨_, rfl⟩ := h
        exact Facts.refl _ _
      · split at h
        · simp only [Option.map_eq_some_iff, Prod.mk.injEq] at h
          obtain ⟨xs, _, _, rfl⟩ := h
          exact Facts.push _ _ rfl
        · simp at h
  · simp at h

mutual
theorem rexec_facts (F : Nat → Option RFunc) : ∀ (n fl : Nat) (c : RCode) (E : List AV) (H : Heap) (o : Out) (E' : List AV) (H' : Heap), rexec F n fl c E H = some (o, E', H') → Facts fl H H'
  | 0, fl, c, E, H, o, E', H', h => by simp [rexec] at h
  | n + 1, fl, c, E, H, o, E', H', h => by
    cases c <;> simp only [rexec, reduceCtorEq] at h
    case skip => simp only [Option.some.injEq, Prod.mk.injEq] at h; obtain ⟨_, _, rfl⟩ := h; exact Facts.refl _ _
    case ops l =>
      simp only [Option.map_eq_some_iff, Prod.mk.injEq] at h
      obtain ⟨⟨L, H1⟩, hr, _, _, rfl⟩ := h
      exact rops_facts (rcall_facts F n) hr
    case seq a b =>
      split at h
      · rename_i E1 H1 h1
        exact (rexec_facts F n fl a E H _ E1 H1 h1).trans (rexec_facts F n fl b E1 H1 _ _ _ h)
      · exact rexec_facts F n fl a E H _ _ _ h
    case cond x a b =>
      split at h
      · exact rexec_facts F n fl a E H _ _ _ h
      · exact rexec_facts F n fl b E H _ _ _ h
      · simp at h
    case block id c =>
      split at h
      · rename_i id' E1 H1 h1
        have := rexec_facts F n fl c E H _ E1 H1 h1
        split at h
        · simp only [Option.some.injEq, Prod.mk.injEq] at h; obtain ⟨_, _, rfl⟩ := h; exact this
        · simp only [Option.some.injEq, Prod.mk.injEq] at h; obtain ⟨_, _, rfl⟩ := h; exact this
      · exact rexec_facts F n fl c E H _ _ _ h
    case loop c =>
      split at h
      · rename_i E1 H1 h1
        exact (rexec_facts F n fl c E H _ E1 H1 h1).trans (rexec_facts F n fl (.loop c) E1 H1 _ _ _ h)
      · exact rexec_facts F n fl c E H _ _ _ h
    case exit => simp only [Option.some.injEq, Prod.mk.injEq] at h; obtain ⟨_, _, rfl⟩ := h; exact Facts.refl _ _
    case ret => simp only [Option.some.injEq, Prod.mk.injEq] at h; obtain ⟨_, _, rfl⟩ := h; exact Facts.refl _ _
theorem rcall_facts (F : Nat → Option RFunc) : ∀ (n : Nat), CallFacts (rcall F n)
  | 0, fl, f, args, H, v, H', h => by simp [rcall] at h
  | n + 1, fl, f, args, H, v, H', h => by
    simp only [rcall] at h
    split at h
    · simp at h
    split at h
    · exact rprim_facts h
    · split at h
      · split at h
        · rename_i E1 H1 h1
          simp only [Option.map_eq_some_iff, Prod.mk.injEq] at h
          obtain ⟨_, _, _, rfl⟩ := h
          exact rexec_facts F n fl _ _ H _ E1 _ h1
        · rename_i E1 H1 h1
          simp only [Option.map_eq_some_iff, Prod.mk.injEq] at h
          obtain ⟨_, _, _, rfl⟩ := h
          exact rexec_facts F n fl _ _ H _ E1 _ h1
        · simp at h
      · simp at h
end

end Go.RM

