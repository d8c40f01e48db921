/-
  Each operation but calls and append, as a step.
-/
import Derived.Test.YtmiinaimpdbenaaRmSound5
namespace Go.RM
set_option linter.unusedSimpArgs false

variable {P : Program}

section
variable {ρ : Operand → Value} {o : Oper} {n0 base fl : Nat} {m : BMap} {H : Heap} {w : World} {X : RX → AV} {res : Operand → Option RX}

theorem ok_value {v : AV} {v' : Value} (hs : Sim n0 base m H w) (hr : (execOp ρ o).run P w = .ok (.value v') w) (hv : VRel m v v') : OpOk P ρ o n0 base fl m H w v H :=
  ⟨v', w, m, .inl hr, hv, Step.refl hs⟩

theorem run_asIntOf {k : IntKind} {n : Int} (w : World) : (asIntOf (.int k n)).run P w = .ok (k, n) w := rfl
theorem run_asInt {k : IntKind} {n : Int} (w : World) : (asInt (.int k n)).run P w = .ok n w := rfl

/-- A new block. -/
theorem ok_push {v' : Value} {t : TypeId} {k : Blk} {cs rest : List Value} (hs : Sim n0 base m H w) (hn : m H.length = none) (hk : k.kid = none) (hr : VRels m k.cells cs)
    (hrun : (execOp ρ o).run P w = .ok (.value v') (w.alloc (.cells (cs ++ rest).toArray t)))
    {v : AV} (hv : ∀ m', m' H.length = some ⟨w.heap.size, 0, (cs ++ rest).length, k.e⟩ → VRel m' v v') : OpOk P ρ o n0 base fl m H w v (H ++ [k]) :=
  ⟨v', _, _, .inl hrun, hv _ (upd_same _ _ _), push_step hs hn hk hr rfl rfl rfl rfl⟩

theorem op_alloc {t : TypeId} {z : List AV} (ho : o.op = .alloc t) (hz : zeroOf P t = some z) (hs : Sim n0 base m H w) (hn : m H.length = none) (e : Nat) :
    OpOk P ρ o n0 base fl m H w (.ptr H.length 0) (H ++ [{ cells := z, e }]) := by
  obtain ⟨i, zv, hi, hzv, hc⟩ := zeroOf_info hz
  refine ok_push (cs := zv.cells.toList) (rest := []) (t := t) hs hn rfl (ofConsts_rel m hc) (v' := .pointer (some ⟨w.heap.size, 0, none⟩)) ?_ fun m' hm' => ⟨_, hm', by simp⟩
  simp only [execOp, ho, Instr.alloc, Sem.run_bind, run_zero hi hzv, Result.andThen_ok, newVar, newRow, run_newObj, Sem.run_pure, List.append_nil, Array.toArray_toList]
  rfl

theorem op_box {t : TypeId} {x : Operand} {rx : RX} (ho : o.op = .box t x) (hx : VRel m (X rx) (ρ x)) (hs : Sim n0 base m H w) (hn : m H.length = none) (e : Nat) :
    OpOk P ρ o n0 base fl m H w (.ptr H.length 0) (H ++ [{ cells := (X rx).cells, e }]) := by
  refine ok_push (cs := (ρ x).cells.toList) (rest := []) (t := t) hs hn rfl hx.cells (v' := .pointer (some ⟨w.heap.size, 0, none⟩)) ?_ fun m' hm' => ⟨_, hm', by simp⟩
  simp only [execOp, ho, Instr.box, Sem.run_bind, Result.andThen_ok, newVar, newRow, run_newObj, Sem.run_pure, List.append_nil, Array.toArray_toList]
  rfl

theorem partsRow_rel (hX : ∀ x rx, res x = some rx → VRel m (X rx) (ρ x)) {size : Nat} : ∀ {l : List (Nat × Operand)} {ps : List (Nat × Nat × RX)}, partsRow res size l = some ps →
    ps.length = l.length ∧ ∀ (i : Nat) (p : Nat × Nat × RX) (q : Nat × Operand), ps[i]? = some p → l[i]? = some q → p.1 = q.1 * size ∧ p.2.1 = size ∧ VRel m (X p.2.2) (ρ q.2)
  | [], ps, h => by
    simp only [partsRow, Option.some.injEq] at h; subst h
    exact ⟨rfl, fun i p q hp _ => by simp at hp⟩
  | (i, x) :: l, ps, h => by
    simp only [partsRow] at h
    split at h
    · rename_i a r h1 h2
      simp only [Option.some.injEq] at h; subst h
      obtain ⟨e1, e2⟩ := partsRow_rel hX h2
      refine ⟨by simp [e1], fun j p q hp hq => ?_⟩
      cases j with
      | zero => simp at hp hq; subst hp; subst hq; exact ⟨rfl, rfl, hX _ _ h1⟩
      | succ j => exact e2 j p q (by simpa using hp) (by simpa using hq)
    · simp at h

theorem partsStruct_rel (hX : ∀ x rx, res x = some rx → VRel m (X rx) (ρ x)) {fs : Array Field} : ∀ {l : List (Nat × Operand)} {ps : List (Nat × Nat × RX)}, partsStruct P res fs l = some ps →
    ps.length = l.length ∧ ∀ (i : Nat) (p : Nat × Nat × RX) (q : Nat × Operand), ps[i]? = some p → l[i]? = some q →
      ∃ f inf, fs[q.1]? = some f ∧ P.info? f.type = some inf ∧ p.1 = f.offset ∧ p.2.1 = inf.size ∧ VRel m (X p.2.2) (ρ q.2)
  | [], ps, h => by
    simp only [partsStruct, Option.some.injEq] at h; subst h
    exact ⟨rfl, fun i p q hp _ => by simp at hp⟩
  | (i, x) :: l, ps, h => by
    simp only [partsStruct] at h
    split at h
    · simp at h
    · rename_i f hf
      split at h
      · rename_i n a r h1 h2 h3
        simp only [Option.some.injEq] at h; subst h
        obtain ⟨e1, e2⟩ := partsStruct_rel hX h3
        obtain ⟨inf, hinf, hn⟩ := szOf_info h1
        refine ⟨by simp [e1], fun j p q hp hq => ?_⟩
        cases j with
        | zero => simp at hp hq; subst hp; subst hq; exact ⟨f, inf, hf, hinf, rfl, hn.symm, hX _ _ h2⟩
        | succ j => exact e2 j p q (by simpa using hp) (by simpa using hq)
      · simp at h

theorem mapM_places {l : List Field} (h : ∀ f ∈ l, (P.info? f.type).isSome = true) (w : World) :
    (l.mapM fun f => (do pure (f.offset, ← sizeOf f.type) : Sem (Nat × Nat))).run P w = .ok (l.map fun f => (f.offset, P.cellsOf f.type)) w := by
  induction l with
  | nil => rfl
  | cons f l ih =>
    obtain ⟨i, hi⟩ := Option.isSome_iff_exists.1 (h f (by simp))
    have := ih (fun g hg => h g (by simp [hg]))
    simp only [List.mapM_cons, Sem.run_bind, run_size hi, Result.andThen_ok, Sem.run_pure, this, List.map_cons, Program.cellsOf, hi, Option.map_some, Option.getD_some]

theorem op_build {t : TypeId} {parts : Array (Nat × Operand)} {r : ROp} {v : AV} {H' : Heap} {call} {free : Bool} {ap : List RX} (ho : o.op = .build t parts) (hc : compileOp P res ap (.build t parts) = some r)
    (hr : rop call fl free X H r = some (v, H')) (hX : ∀ x rx, res x = some rx → VRel m (X rx) (ρ x)) (hs : Sim n0 base m H w) : OpOk P ρ o n0 base fl m H w v H' := by
  simp only [compileOp] at hc
  split at hc
  · rename_i fs hu
    split at hc
    · rename_i hk
      split at hc
      · rename_i z ps hz hp
        simp only [Option.some.injEq] at hc; subst hc
        simp only [rop, Option.map_eq_some_iff, Prod.mk.injEq] at hr
        obtain ⟨cs, hf, rfl, rfl⟩ := hr
        obtain ⟨i, zv, hi, hzv, hcz⟩ := zeroOf_info hz
        obtain ⟨l1, l2⟩ := partsStruct_rel hX hp
        have hq := fill_rel (m := m) (place := fun j => (fs.map fun f => (f.offset, P.cellsOf f.type))[j]?) (qs := (parts.map fun (i, x) => (i, ρ x)).toList) (ofConsts_rel m hcz) (by simpa using l1) (fun j p q hp' hq' => by
          simp only [List.getElem?_map, Option.map_eq_some_iff] at hp'
          obtain ⟨p0, hp0, rfl⟩ := hp'
          simp only [Array.toList_map, List.getElem?_map, Option.map_eq_some_iff] at hq'
          obtain ⟨q0, hq0, rfl⟩ := hq'
          obtain ⟨f, inf, h1, h2, h3, h4, h5⟩ := l2 j p0 q0 hp0 hq0
          refine ⟨?_, h5⟩
          simp only [Array.getElem?_map, h1, Option.map_some, h3, h4, Program.cellsOf, h2, Option.getD_some]) hf
        obtain ⟨ov, h1, h2⟩ := hq
        refine ok_value hs (v' := .agg ⟨ov⟩) ?_ ⟨ov, rfl, h2⟩
        have hpl : (fs.mapM fun f => (do pure (f.offset, ← sizeOf f.type) : Sem (Nat × Nat))).run P w = .ok (fs.map fun f => (f.offset, P.cellsOf f.type)) w := by
          rw [Array.mapM_eq_mapM_toList]
          simp only [Sem.run_map]
          rw [mapM_places (fun f hf => by
            simp only [fieldsKnown, List.all_eq_true] at hk
            exact hk f hf)]
          simp only [Result.andThen_ok]
          congr 1
          rw [← Array.toList_inj]
          simp
        simp only [execOp, ho, Instr.build, Sem.run_bind, run_zero hi hzv, Result.andThen_ok, run_und hu, hpl]
        have h1' : Instr.fill (fun j => (fs.map fun f => (f.offset, P.cellsOf f.type))[j]?) zv.cells (parts.map fun (i, x) => (i, ρ x)).toList = some ⟨ov⟩ := h1
        simp only [h1', Sem.run_pure, Result.andThen_ok]
      · simp at hc
    · simp at hc
  · rename_i n e hu
    split at hc
    · rename_i sz z hsz hz
      simp only [Option.map_eq_some_iff] at hc
      obtain ⟨ps, hp, rfl⟩ := hc
      simp only [rop, Option.map_eq_some_iff, Prod.mk.injEq] at hr
      obtain ⟨cs, hf, rfl, rfl⟩ := hr
      obtain ⟨i, zv, hi, hzv, hcz⟩ := zeroOf_info hz
      obtain ⟨ie, hie, hie2⟩ := szOf_info hsz
      obtain ⟨l1, l2⟩ := partsRow_rel hX hp
      have hq := fill_rel (m := m) (place := fun j => some (j * sz, sz)) (qs := (parts.map fun (i, x) => (i, ρ x)).toList) (ofConsts_rel m hcz) (by simpa using l1) (fun j p q hp' hq' => by
        simp only [List.getElem?_map, Option.map_eq_some_iff] at hp'
        obtain ⟨p0, hp0, rfl⟩ := hp'
        simp only [Array.toList_map, List.getElem?_map, Option.map_eq_some_iff] at hq'
        obtain ⟨q0, hq0, rfl⟩ := hq'
        obtain ⟨h3, h4, h5⟩ := l2 j p0 q0 hp0 hq0
        exact ⟨by simp only [h3, h4], h5⟩) hf
      obtain ⟨ov, h1, h2⟩ := hq
      refine ok_value hs (v' := .agg ⟨ov⟩) ?_ ⟨ov, rfl, h2⟩
      simp only [execOp, ho, Instr.build, Sem.run_bind, run_zero hi hzv, Result.andThen_ok, run_und hu, run_size hie, hie2]
      have h1' : Instr.fill (fun j => some (j * sz, sz)) zv.cells (parts.map fun (i, x) => (i, ρ x)).toList = some ⟨ov⟩ := h1
      simp only [h1', Sem.run_pure, Result.andThen_ok]
    · simp at hc
  · simp at hc

theorem op_buildSlice {t : TypeId} {len : Nat} {parts : Array (Nat × Operand)} {r : ROp} {v : AV} {H' : Heap} {call} {free : Bool} {ap : List RX} (ho : o.op = .buildSlice t len parts)
    (hc : compileOp P res ap (.buildSlice t len parts) = some r) (hr : rop call fl free X H r = some (v, H')) (hX : ∀ x rx, res x = some rx → VRel m (X rx) (ρ x)) (hs : Sim n0 base m H w)
    (hn : m H.length = none) : OpOk P ρ o n0 base fl m H w v H' := by
  simp only [compileOp] at hc
  split at hc
  · rename_i e hu
    split at hc
    · rename_i n z ps hsz hz hp
      split at hc
      · rename_i hcond
        obtain ⟨c1, c2, c3⟩ := hcond
        simp only [Option.some.injEq] at hc; subst hc
        simp only [rop, Option.map_eq_some_iff, Prod.mk.injEq] at hr
        obtain ⟨cs, hf, rfl, rfl⟩ := hr
        obtain ⟨i, zv, hi, hzv, hcz⟩ := zeroOf_info hz
        obtain ⟨ie, hie, hie2⟩ := szOf_info hsz
        have hcells : P.cellsOf e = n := by simp [Program.cellsOf, hie, hie2]
        have hin : i.size = n := by rw [hi] at hie; cases hie; exact hie2
        obtain ⟨l1, l2⟩ := partsRow_rel hX hp
        have hzl : zv.cells.toList.length = n := by rw [← (ofConsts_rel m hcz).length]; exact c2
        have hq := fill_rel (m := m) (place := fun j => some (j * n, n)) (qs := (parts.map fun (i, x) => (i, ρ x)).toList) (VRels.flatten (ofConsts_rel m hcz) len) (by simpa using l1) (fun j p q hp' hq' => by
          simp only [List.getElem?_map, Option.map_eq_some_iff] at hp'
          obtain ⟨p0, hp0, rfl⟩ := hp'
          simp only [Array.toList_map, List.getElem?_map, Option.map_eq_some_iff] at hq'
          obtain ⟨q0, hq0, rfl⟩ := hq'
          obtain ⟨h3, h4, h5⟩ := l2 j p0 q0 hp0 hq0
          exact ⟨by simp only [h3, h4, hcells], h5⟩) hf
        obtain ⟨ov, h1, h2⟩ := hq
        have hlen : ov.length = len * n := by
          have e1 := h2.length
          have e2 : ∀ (ps : List (Nat × Nat × AV)) (cells out : List AV), fillV cells ps = some out → out.length = cells.length := by
            intro ps
            induction ps with
            | nil => intro cells out h; simp only [fillV, Option.some.injEq] at h; rw [← h]
            | cons p ps ih =>
              intro cells out h
              obtain ⟨a, b, c⟩ := p
              simp only [fillV] at h
              split at h
              · rename_i hq
                rw [ih _ _ h, splice_length (by omega)]
              · simp at h
          rw [← e1, e2 _ _ _ hf]
          simp [zeros, c2]
        refine ok_push (cs := ov) (rest := []) (t := e) hs hn rfl h2 (v' := .slice (some ⟨w.heap.size, 0, none⟩) len len) ?_ fun m' hm' => ⟨_, _, rfl, Nat.le_refl _, _, hm', ?_, .inl (by simp)⟩
        · have h1' : Instr.fill (fun j => some (j * n, n)) ⟨(List.replicate len zv.cells.toList).flatten⟩ (parts.map fun (i, x) => (i, ρ x)).toList = some ⟨ov⟩ := h1
          by_cases h0 : len * n = 0
          · have : len = 0 := by
              rcases Nat.mul_eq_zero.1 h0 with h | h
              · exact h
              · omega
            subst this
            have hcyc : (Array.range (0 * n)).map (fun j => (#[] : Array Value)[j % (#[] : Array Value).size]!) = ⟨(List.replicate 0 zv.cells.toList).flatten⟩ := by simp
            simp only [execOp, ho, Instr.buildSlice, Sem.run_bind, run_und hu, Result.andThen_ok, run_size hie, hie2, Sem.run_ite, if_neg (show ¬ 0 * n > 2 ^ 24 by omega), Sem.run_pure, if_pos h0, hcyc, h1', newRow, run_newObj, List.append_nil]
            rfl
          · have hcyc : (Array.range (len * n)).map (fun j => zv.cells[j % zv.cells.size]!) = ⟨(List.replicate len zv.cells.toList).flatten⟩ := by
              rw [← Array.toList_inj]
              have := zero_cycle zv.cells.toList len (by omega)
              rw [hzl] at this
              simpa using this
            simp only [execOp, ho, Instr.buildSlice, Sem.run_bind, run_und hu, Result.andThen_ok, run_size hie, hie2, Sem.run_ite, if_neg (show ¬ len * n > 2 ^ 24 by omega), Sem.run_pure, if_neg h0, run_zero hi hzv, hcyc, h1', newRow, run_newObj, List.append_nil]
            rfl
        · exact ⟨rfl, by simp [hlen]⟩
      · simp at hc
    · simp at hc
  · simp at hc

end
end Go.RM
