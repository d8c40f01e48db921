/-
  The builtins but append: len, min, max, copy, clear.
-/
import Derived.Test.YtmiinaimpdbenaaRmSound8
namespace Go.RM
set_option linter.unusedSimpArgs false

variable {P : Program}

section
variable {ρ : Operand → Value} {o : Oper} {n0 base fl : Nat} {m : BMap} {H H' : Heap} {w : World} {X : RX → AV} {res : Operand → Option RX} {r : ROp} {v : AV} {call : Nat → Nat → List AV → Heap → Option (AV × Heap)} {free : Bool} {ap : List RX}

theorem exec_builtin {c : Call} {b : Builtin} (ho : o.op = .call c) (hc : c.callee = .builtin b) : ∃ cs, (execOp ρ o) = builtin b c.argTypes o.type cs (c.args.map ρ) := by
  refine ⟨c.args.map fun | .const _ => true | _ => false, ?_⟩
  simp only [execOp, ho, resolve, hc, pure_bind, invoke]
  rfl

theorem lenOf_rel {x : AV} {v : Value} {k : Nat} (h : VRel m x v) (hk : sliceLen x = some k) (w : World) : (Builtin.lenOf v).run P w = .ok k w ∧ ∃ a c, v = .slice a k c := by
  cases x <;> simp only [sliceLen, Option.some.injEq, reduceCtorEq] at hk
  · subst hk
    obtain ⟨a, cap, rfl, _⟩ := h
    exact ⟨rfl, a, cap, rfl⟩
  · subst hk
    obtain ⟨a, rfl⟩ := h
    exact ⟨rfl, a, 0, rfl⟩

theorem loadCells_zero (a : Addr) (w : World) : (loadCells a 0).run P w = .ok #[] w := rfl

/-- The first n elements of a slice, as the model loads them (in any world with the same heap). -/
theorem firstCells_rel (hs : Sim n0 base m H w) {x : AV} {v : Value} {e n : Nat} {xs : List AV} (h : VRel m x v) (hx : sliceCells H e n x = some xs) :
    ∃ cs, VRels m xs cs ∧ xs.length = n * e ∧ ∀ w' : World, w'.heap = w.heap → (Builtin.firstCells e n v).run P w' = .ok ⟨cs⟩ w' := by
  cases x <;> simp only [sliceCells, reduceCtorEq] at hx
  · rename_i b off len lim
    obtain ⟨a, cap, rfl, hcap, l, hm, _, haa⟩ := h
    split at hx
    · rename_i h0
      simp only [Option.some.injEq] at hx; subst hx; subst h0
      refine ⟨[], trivial, by simp, fun w' _ => ?_⟩
      cases a with
      | none => rfl
      | some a => simp only [Builtin.firstCells, Nat.zero_mul]; exact loadCells_zero a w'
    · rename_i h0
      split at hx
      · simp at hx
      · rename_i hlen
        split at hx
        · rename_i k hact
          split at hx
          · rename_i hfit
            simp only [Option.some.injEq] at hx; subst hx
            rcases haa with ha | h1
            · obtain ⟨cs, c1, c2, c3⟩ := stretch hs hact hm hfit
              refine ⟨cs, c1, by rw [c1.length, c2], fun w' hw' => ?_⟩
              subst ha
              simp only [Builtin.firstCells]
              have := run_loads (P := P) w' l.cb (l.co + off) cs (fun j v hv => by
                have := c3 j v hv
                simp only [World.cell?, hw'] at this ⊢
                exact this)
              rw [c2] at this
              exact this
            · omega
          · simp at hx
        · simp at hx
  · obtain ⟨a, rfl⟩ := h
    split at hx
    · rename_i h0
      simp only [Option.some.injEq] at hx; subst hx; subst h0
      refine ⟨[], trivial, by simp, fun w' _ => ?_⟩
      cases a with
      | none => rfl
      | some a => simp only [Builtin.firstCells, Nat.zero_mul]; exact loadCells_zero a w'
    · simp at hx

theorem minI_rel {k : IntKind} : ∀ {l : List AV} {vs : List Value} {a : Int} {v : AV}, minI k a l = some v → VRels m l vs → ∀ w, (vs.foldlM Builtin.min2 (.int k a)).run P w = .ok (toV v) w ∧ ∀ m, VRel m v (toV v)
  | [], [], a, v, h, _, w => by
    simp only [minI, Option.some.injEq] at h; subst h
    exact ⟨rfl, fun _ => rfl⟩
  | .int k' b :: l, u :: vs, a, v, h, ⟨h1, h2⟩, w => by
    simp only [minI] at h
    split at h
    · rename_i hk
      subst hk
      have := minI_rel h h2 w
      rw [h1.int_inv, List.foldlM_cons]
      simp only [Builtin.min2, Sem.run_bind, Sem.run_pure, Result.andThen_ok]
      exact this
    · simp at h
  | .bool _ :: _, _ :: _, _, _, h, _, _ => by simp [minI] at h
  | .str _ :: _, _ :: _, _, _, h, _, _ => by simp [minI] at h
  | .ptr .. :: _, _ :: _, _, _, h, _, _ => by simp [minI] at h
  | .nilptr :: _, _ :: _, _, _, h, _, _ => by simp [minI] at h
  | .slice .. :: _, _ :: _, _, _, h, _, _ => by simp [minI] at h
  | .empty :: _, _ :: _, _, _, h, _, _ => by simp [minI] at h
  | .func .. :: _, _ :: _, _, _, h, _, _ => by simp [minI] at h
  | .nilfunc :: _, _ :: _, _, _, h, _, _ => by simp [minI] at h
  | .agg _ :: _, _ :: _, _, _, h, _, _ => by simp [minI] at h
  | .tuple _ :: _, _ :: _, _, _, h, _, _ => by simp [minI] at h

theorem maxI_rel {k : IntKind} : ∀ {l : List AV} {vs : List Value} {a : Int} {v : AV}, maxI k a l = some v → VRels m l vs → ∀ w, (vs.foldlM Builtin.max2 (.int k a)).run P w = .ok (toV v) w ∧ ∀ m, VRel m v (toV v)
  | [], [], a, v, h, _, w => by
    simp only [maxI, Option.some.injEq] at h; subst h
    exact ⟨rfl, fun _ => rfl⟩
  | .int k' b :: l, u :: vs, a, v, h, ⟨h1, h2⟩, w => by
    simp only [maxI] at h
    split at h
    · rename_i hk
      subst hk
      have := maxI_rel h h2 w
      rw [h1.int_inv, List.foldlM_cons]
      simp only [Builtin.max2, Sem.run_bind, Sem.run_pure, Result.andThen_ok]
      exact this
    · simp at h
  | .bool _ :: _, _ :: _, _, _, h, _, _ => by simp [maxI] at h
  | .str _ :: _, _ :: _, _, _, h, _, _ => by simp [maxI] at h
  | .ptr .. :: _, _ :: _, _, _, h, _, _ => by simp [maxI] at h
  | .nilptr :: _, _ :: _, _, _, h, _, _ => by simp [maxI] at h
  | .slice .. :: _, _ :: _, _, _, h, _, _ => by simp [maxI] at h
  | .empty :: _, _ :: _, _, _, h, _, _ => by simp [maxI] at h
  | .func .. :: _, _ :: _, _, _, h, _, _ => by simp [maxI] at h
  | .nilfunc :: _, _ :: _, _, _, h, _, _ => by simp [maxI] at h
  | .agg _ :: _, _ :: _, _, _, h, _, _ => by simp [maxI] at h
  | .tuple _ :: _, _ :: _, _, _, h, _, _ => by simp [maxI] at h

theorem op_len {c : Call} (ho : o.op = .call c) (hcal : c.callee = .builtin .len) (hc : compileBuiltin P res .len c.argTypes c.args.toList = some r) (hr : rop call fl free X H r = some (v, H'))
    (hX : ∀ x rx, res x = some rx → VRel m (X rx) (ρ x)) (hXk : ∀ v, X (.k v) = v) (hs : Sim n0 base m H w) : OpOk P ρ o n0 base fl m H w v H' := by
  obtain ⟨cs, hex⟩ := exec_builtin (ρ := ρ) ho hcal
  rcases hargs : c.args.toList with _ | ⟨x, _ | ⟨y, rest⟩⟩ <;> simp only [compileBuiltin, hargs, reduceCtorEq] at hc
  case cons.nil =>
    have hargs' : c.args.map ρ = #[ρ x] := by rw [← Array.toList_inj]; simp [hargs]
    split at hc
    · rename_i t ht
      have hrun : ∀ n, (Builtin.len_ c.argTypes o.type #[ρ x]).run P w = .ok (goInt n) w → (execOp ρ o).run P w = .ok (.value (goInt n)) w := fun n h => by
        rw [hex, hargs']
        simp only [builtin, Sem.run_bind, h, Result.andThen_ok, Sem.run_pure]
      split at hc
      · rename_i hu
        simp only [Option.map_eq_some_iff] at hc
        obtain ⟨rx, h1, rfl⟩ := hc
        have hv := hX _ _ h1
        simp only [rop] at hr
        split at hr
        · rename_i s hxe
          simp only [Option.some.injEq, Prod.mk.injEq] at hr
          obtain ⟨rfl, rfl⟩ := hr
          rw [hxe] at hv
          refine ok_value hs (hrun s.size ?_) rfl
          simp only [Builtin.len_, ht, hv.str_inv, Sem.run_bind, run_und hu, Result.andThen_ok, Sem.run_pure, List.getElem?_toArray, List.getElem?_cons_zero]
        · simp at hr
      · rename_i e hu
        simp only [Option.map_eq_some_iff] at hc
        obtain ⟨rx, h1, rfl⟩ := hc
        have hv := hX _ _ h1
        simp only [rop] at hr
        split at hr
        · rename_i b off n lim hxe
          simp only [Option.some.injEq, Prod.mk.injEq] at hr
          obtain ⟨rfl, rfl⟩ := hr
          rw [hxe] at hv
          obtain ⟨a, cap, hxv, _⟩ := hv
          refine ok_value hs (hrun n ?_) rfl
          simp only [Builtin.len_, ht, hxv, Sem.run_bind, run_und hu, Result.andThen_ok, Sem.run_pure, List.getElem?_toArray, List.getElem?_cons_zero]
        · rename_i hxe
          simp only [Option.some.injEq, Prod.mk.injEq] at hr
          obtain ⟨rfl, rfl⟩ := hr
          rw [hxe] at hv
          obtain ⟨a, hxv⟩ := hv
          refine ok_value hs (hrun 0 ?_) rfl
          simp only [Builtin.len_, ht, hxv, Sem.run_bind, run_und hu, Result.andThen_ok, Sem.run_pure, List.getElem?_toArray, List.getElem?_cons_zero]
          rfl
        · simp at hr
      · rename_i n e hu
        simp only [Option.some.injEq] at hc; subst hc
        simp only [rop, Option.some.injEq, Prod.mk.injEq] at hr
        obtain ⟨rfl, rfl⟩ := hr
        refine ok_value hs (hrun n ?_) (by rw [hXk]; rfl)
        simp only [Builtin.len_, ht, Sem.run_bind, run_und hu, Result.andThen_ok, Sem.run_pure, List.getElem?_toArray, List.getElem?_cons_zero]
      · simp at hc
    · simp at hc

theorem op_min {c : Call} (ho : o.op = .call c) (hcal : c.callee = .builtin .min) (hc : compileBuiltin P res .min c.argTypes c.args.toList = some r) (hr : rop call fl free X H r = some (v, H'))
    (hX : ∀ x rx, res x = some rx → VRel m (X rx) (ρ x)) (hs : Sim n0 base m H w) : OpOk P ρ o n0 base fl m H w v H' := by
  obtain ⟨cs, hex⟩ := exec_builtin (ρ := ρ) ho hcal
  cases hargs : c.args.toList with
  | nil => simp [hargs, compileBuiltin] at hc
  | cons x ys =>
    simp only [hargs, compileBuiltin] at hc
    split at hc
    · rename_i a l h1 h2
      simp only [Option.some.injEq] at hc; subst hc
      have hv := hX _ _ h1
      have hl := resL_rel hX h2
      simp only [rop] at hr
      split at hr
      · rename_i k n hxe
        simp only [Option.map_eq_some_iff, Prod.mk.injEq] at hr
        obtain ⟨v0, hm, rfl, rfl⟩ := hr
        rw [hxe] at hv
        obtain ⟨g1, g2⟩ := minI_rel (P := P) hm hl w
        refine ok_value hs (v' := toV v0) ?_ (g2 m)
        have hargs' : (c.args.map ρ).toList = .int k n :: ys.map ρ := by rw [Array.toList_map, hargs, List.map_cons, hv.int_inv]
        rw [hex]
        simp only [builtin, Builtin.min_, hargs', Sem.run_bind, g1, Result.andThen_ok, Sem.run_pure]
      · simp at hr
    · simp at hc

theorem op_max {c : Call} (ho : o.op = .call c) (hcal : c.callee = .builtin .max) (hc : compileBuiltin P res .max c.argTypes c.args.toList = some r) (hr : rop call fl free X H r = some (v, H'))
    (hX : ∀ x rx, res x = some rx → VRel m (X rx) (ρ x)) (hs : Sim n0 base m H w) : OpOk P ρ o n0 base fl m H w v H' := by
  obtain ⟨cs, hex⟩ := exec_builtin (ρ := ρ) ho hcal
  cases hargs : c.args.toList with
  | nil => simp [hargs, compileBuiltin] at hc
  | cons x ys =>
    simp only [hargs, compileBuiltin] at hc
    split at hc
    · rename_i a l h1 h2
      simp only [Option.some.injEq] at hc; subst hc
      have hv := hX _ _ h1
      have hl := resL_rel hX h2
      simp only [rop] at hr
      split at hr
      · rename_i k n hxe
        simp only [Option.map_eq_some_iff, Prod.mk.injEq] at hr
        obtain ⟨v0, hm, rfl, rfl⟩ := hr
        rw [hxe] at hv
        obtain ⟨g1, g2⟩ := maxI_rel (P := P) hm hl w
        refine ok_value hs (v' := toV v0) ?_ (g2 m)
        have hargs' : (c.args.map ρ).toList = .int k n :: ys.map ρ := by rw [Array.toList_map, hargs, List.map_cons, hv.int_inv]
        rw [hex]
        simp only [builtin, Builtin.max_, hargs', Sem.run_bind, g1, Result.andThen_ok, Sem.run_pure]
      · simp at hr
    · simp at hc

theorem zeroCells_eq (zs : List Value) (n : Nat) (hz : 0 < zs.length) : Builtin.zeroCells ⟨zs⟩ n = ⟨(List.replicate n zs).flatten⟩ := by
  rw [← Array.toList_inj]
  exact zero_cycle zs n hz

theorem op_copy {c : Call} (ho : o.op = .call c) (hcal : c.callee = .builtin .copy) (hc : compileBuiltin P res .copy c.argTypes c.args.toList = some r) (hr : rop call fl free X H r = some (v, H'))
    (hX : ∀ x rx, res x = some rx → VRel m (X rx) (ρ x)) (hs : Sim n0 base m H w) (hfl : n0 ≤ fl) : OpOk P ρ o n0 base fl m H w v H' := by
  obtain ⟨cs, hex⟩ := exec_builtin (ρ := ρ) ho hcal
  rcases hargs : c.args.toList with _ | ⟨x, _ | ⟨y, _ | ⟨z, rest⟩⟩⟩ <;> simp only [compileBuiltin, hargs, reduceCtorEq] at hc
  case cons.cons.nil =>
    have hargs' : c.args.map ρ = #[ρ x, ρ y] := by rw [← Array.toList_inj]; simp [hargs]
    split at hc
    · rename_i t ht
      split at hc
      · rename_i e hu
        split at hc
        · rename_i n rx ry hsz h1 h2
          split at hc
          · rename_i hn
            simp only [Option.some.injEq] at hc; subst hc
            obtain ⟨i, hi, hi2⟩ := szOf_info hsz
            have hx := hX _ _ h1
            have hy := hX _ _ h2
            simp only [rop] at hr
            split at hr
            · rename_i dl sl g1 g2
              obtain ⟨_, a, cap, hxv⟩ := lenOf_rel (P := P) hx g1 w
              obtain ⟨hl2, b, cap2, hyv⟩ := lenOf_rel (P := P) hy g2 w
              have hrun : ∀ (ws : List Value) (w' : World), (Builtin.firstCells n (Min.min sl dl) (ρ y)).run P w = .ok ⟨ws⟩ w →
                  (∀ ad, a = some ad → (storeCells ad ws).run P w = .ok () w') → (a = none → w' = w) →
                  (execOp ρ o).run P w = .ok (.value (.int .i64 ((Min.min sl dl : Nat) : Int))) w' := fun ws w' hf hst hno => by
                rw [hex, hargs']
                simp only [builtin, Builtin.copy_, ht, Sem.run_bind, List.getElem?_toArray, List.getElem?_cons_zero, List.getElem?_cons_succ, run_und hu, Result.andThen_ok, hxv]
                rw [hl2]
                simp only [Result.andThen_ok, run_size hi, hi2]
                have : Nat.min sl dl = Min.min sl dl := rfl
                rw [this, hf]
                simp only [Result.andThen_ok]
                cases a with
                | none =>
                  rw [hno rfl]
                  rfl
                | some ad =>
                  simp only [Sem.run_bind, hst ad rfl, Result.andThen_ok, Sem.run_pure]
                  rfl
              split at hr
              · rename_i hq
                simp only [Option.some.injEq, Prod.mk.injEq] at hr
                obtain ⟨rfl, rfl⟩ := hr
                refine ok_value hs (v' := .int .i64 ((Min.min sl dl : Nat) : Int)) (hrun [] w ?_ (fun ad _ => rfl) (fun _ => rfl)) (by rw [hq]; rfl)
                rw [hq, hyv]
                cases b with
                | none => rfl
                | some b => simp only [Builtin.firstCells, Nat.zero_mul]; exact loadCells_zero b w
              · rename_i hq
                split at hr
                · rename_i bb off nn lim hxe
                  simp only [Option.bind_eq_some_iff, Option.map_eq_some_iff, Prod.mk.injEq] at hr
                  obtain ⟨xs, g3, H1, g4, rfl, rfl⟩ := hr
                  obtain ⟨ws, c1, c2, c3⟩ := firstCells_rel (P := P) hs hy g3
                  rw [hxe] at hx g1
                  simp only [sliceLen, Option.some.injEq] at g1; subst g1
                  obtain ⟨a', cap', hxv', hcap, l, hm, _, haa⟩ := hx
                  rw [hxv] at hxv'; cases hxv'
                  rcases haa with ha | h0
                  · obtain ⟨p1, p2, p3⟩ := put_step hs hfl g4 hm c1
                    refine ⟨.int .i64 ((Min.min sl nn : Nat) : Int), _, m, .inl (hrun ws _ (c3 w rfl) (fun ad had => ?_) (fun h => by rw [ha] at h; simp at h)), rfl, p3⟩
                    rw [ha] at had; cases had
                    have := run_storeCells_cells (P := P) l.cb (l.co + off) ws 0 w (fun j hj => by simpa using (p1 j hj).1) (fun j hj => by simpa using (p1 j hj).2) p2
                    simpa using this
                  · omega
                · simp at hr
            · simp at hr
          · simp at hc
        · simp at hc
      · simp at hc
    · simp at hc

theorem op_clear {c : Call} (ho : o.op = .call c) (hcal : c.callee = .builtin .clear) (hc : compileBuiltin P res .clear c.argTypes c.args.toList = some r) (hr : rop call fl free X H r = some (v, H'))
    (hX : ∀ x rx, res x = some rx → VRel m (X rx) (ρ x)) (hs : Sim n0 base m H w) (hfl : n0 ≤ fl) : OpOk P ρ o n0 base fl m H w v H' := by
  obtain ⟨cs, hex⟩ := exec_builtin (ρ := ρ) ho hcal
  rcases hargs : c.args.toList with _ | ⟨x, _ | ⟨y, rest⟩⟩ <;> simp only [compileBuiltin, hargs, reduceCtorEq] at hc
  case cons.nil =>
    have hargs' : c.args.map ρ = #[ρ x] := by rw [← Array.toList_inj]; simp [hargs]
    split at hc
    · rename_i t ht
      split at hc
      · rename_i e hu
        split at hc
        · rename_i n z rx hsz hz h1
          split at hc
          · rename_i hn
            simp only [Option.some.injEq] at hc; subst hc
            have hx := hX _ _ h1
            obtain ⟨i, zv, hi, hzv, hcz⟩ := zeroOf_info hz
            have hzl : zv.cells.toList.length = n := by rw [← (ofConsts_rel m hcz).length]; exact hn.2
            have hzero : ∀ a cap, ρ x = .slice a 0 cap → (execOp ρ o).run P w = .ok (.value Go.undef) w := fun a cap hxv => by
              rw [hex, hargs', hxv]
              simp only [builtin, Builtin.clear_, ht, Sem.run_bind, List.getElem?_toArray, List.getElem?_cons_zero, run_und hu, Result.andThen_ok]
              cases a <;> rfl
            simp only [rop] at hr
            split at hr
            · rename_i hxe
              simp only [Option.some.injEq, Prod.mk.injEq] at hr
              obtain ⟨rfl, rfl⟩ := hr
              rw [hxe] at hx
              obtain ⟨a, hxv⟩ := hx
              exact ok_value hs (hzero a 0 hxv) (VRel.undef m)
            · rename_i b off len lim hxe
              rw [hxe] at hx
              obtain ⟨a, cap, hxv, hcap, l, hm, _, haa⟩ := hx
              split at hr
              · rename_i h0
                subst h0
                simp only [Option.some.injEq, Prod.mk.injEq] at hr
                obtain ⟨rfl, rfl⟩ := hr
                exact ok_value hs (hzero a cap hxv) (VRel.undef m)
              · rename_i h0
                simp only [Option.map_eq_some_iff, Prod.mk.injEq] at hr
                obtain ⟨H1, g4, rfl, rfl⟩ := hr
                rcases haa with ha | h0'
                · obtain ⟨p1, p2, p3⟩ := put_step hs hfl g4 hm (VRels.flatten (ofConsts_rel m hcz) len)
                  refine ⟨Go.undef, _, m, .inl ?_, VRel.undef m, p3⟩
                  have hst := run_storeCells_cells (P := P) l.cb (l.co + off) _ 0 w (fun j hj => by simpa using (p1 j hj).1) (fun j hj => by simpa using (p1 j hj).2) p2
                  simp only [Nat.add_zero] at hst
                  have hzc : (Builtin.zeroCells zv.cells len).toList = (List.replicate len zv.cells.toList).flatten := by
                    have := zeroCells_eq zv.cells.toList len (by omega)
                    show (Builtin.zeroCells ⟨zv.cells.toList⟩ len).toList = _
                    rw [this]
                  obtain ⟨len', rfl⟩ : ∃ q, len = q + 1 := ⟨len - 1, by omega⟩
                  rw [hex, hargs', hxv, ha]
                  simp only [builtin, Builtin.clear_, ht, Sem.run_bind, List.getElem?_toArray, List.getElem?_cons_zero, run_und hu, Result.andThen_ok, run_zero hi hzv, hzc, hst, Sem.run_pure]
                  rfl
                · omega
            · simp at hr
          · simp at hc
        · simp at hc
      · simp at hc
    · simp at hc

end
end Go.RM
