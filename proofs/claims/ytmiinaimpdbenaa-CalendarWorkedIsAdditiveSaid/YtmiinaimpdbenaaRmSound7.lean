/-
  More operations.
-/
import Derived.Test.YtmiinaimpdbenaaRmSound6
namespace Go.RM
set_option linter.unusedSimpArgs false

variable {P : Program}

section
variable {ρ : Operand → Value} {o : Oper} {n0 base fl : Nat} {m : BMap} {H H' : Heap} {w : World} {X : RX → AV} {res : Operand → Option RX} {r : ROp} {v : AV} {call : Nat → Nat → List AV → Heap → Option (AV × Heap)} {free : Bool} {ap : List RX}

theorem op_move {x : Operand} (ho : o.op = .move x ∨ o.op = .assign x) (hc : (res x).map ROp.move = some r) (hr : rop call fl free X H r = some (v, H'))
    (hX : ∀ x rx, res x = some rx → VRel m (X rx) (ρ x)) (hs : Sim n0 base m H w) : OpOk P ρ o n0 base fl m H w v H' := by
  simp only [Option.map_eq_some_iff] at hc
  obtain ⟨rx, h1, rfl⟩ := hc
  simp only [rop, Option.some.injEq, Prod.mk.injEq] at hr
  obtain ⟨rfl, rfl⟩ := hr
  refine ok_value hs (v' := ρ x) ?_ (hX _ _ h1)
  rcases ho with ho | ho <;> simp only [execOp, ho, Sem.run_pure]

theorem op_pick {c a b : Operand} (ho : o.op = .pick c a b) (hc : compileOp P res ap (.pick c a b) = some r) (hr : rop call fl free X H r = some (v, H'))
    (hX : ∀ x rx, res x = some rx → VRel m (X rx) (ρ x)) (hs : Sim n0 base m H w) : OpOk P ρ o n0 base fl m H w v H' := by
  simp only [compileOp] at hc
  split at hc
  · rename_i rc ra rb h1 h2 h3
    simp only [Option.some.injEq] at hc; subst hc
    have hv := hX _ _ h1
    simp only [rop] at hr
    split at hr
    · rename_i t hb
      simp only [Option.some.injEq, Prod.mk.injEq] at hr
      obtain ⟨rfl, rfl⟩ := hr
      rw [hb] at hv
      cases t with
      | true =>
        refine ok_value hs (v' := ρ a) ?_ (by rw [pickV_true]; exact hX _ _ h2)
        simp only [execOp, ho, hv.bool_inv, asBool, Sem.run_bind, Sem.run_pure, Result.andThen_ok, if_true]
      | false =>
        refine ok_value hs (v' := ρ b) ?_ (by rw [pickV_false]; exact hX _ _ h3)
        simp only [execOp, ho, hv.bool_inv, asBool, Sem.run_bind, Sem.run_pure, Result.andThen_ok, Bool.false_eq_true, if_false]
    · simp at hr
  · simp at hc

theorem op_load {t : TypeId} {x : Operand} (ho : o.op = .load t x) (hc : compileOp P res ap (.load t x) = some r) (hr : rop call fl free X H r = some (v, H'))
    (hX : ∀ x rx, res x = some rx → VRel m (X rx) (ρ x)) (hs : Sim n0 base m H w) : OpOk P ρ o n0 base fl m H w v H' := by
  simp only [compileOp] at hc
  split at hc
  · rename_i sz rx h1 h2
    simp only [Option.some.injEq] at hc; subst hc
    have hv := hX _ _ h2
    simp only [rop] at hr
    split at hr
    · rename_i b off hb
      simp only [Option.map_eq_some_iff, Prod.mk.injEq] at hr
      obtain ⟨v0, hl, rfl, rfl⟩ := hr
      rw [hb] at hv
      obtain ⟨l, hm, hx⟩ := hv
      obtain ⟨cv, hrun, hrel⟩ := run_loadVar_rel (P := P) hs h1 hl hm
      refine ok_value hs (v' := cv) ?_ hrel
      simp only [execOp, ho, hx, Instr.loadAt, Instr.sureAddr, Sem.run_bind, Sem.run_pure, Result.andThen_ok, hrun]
    · simp at hr
  · simp at hc

theorem op_store {t : TypeId} {x y : Operand} (ho : o.op = .store t x y) (hc : compileOp P res ap (.store t x y) = some r) (hr : rop call fl free X H r = some (v, H'))
    (hX : ∀ x rx, res x = some rx → VRel m (X rx) (ρ x)) (hs : Sim n0 base m H w) (hfl : n0 ≤ fl) : OpOk P ρ o n0 base fl m H w v H' := by
  simp only [compileOp] at hc
  split at hc
  · rename_i n rx ry h1 h2 h3
    simp only [Option.some.injEq] at hc; subst hc
    have hv := hX _ _ h2
    have hy := hX _ _ h3
    simp only [rop] at hr
    split at hr
    · rename_i b off hb
      split at hr
      · rename_i hn
        simp only [Option.map_eq_some_iff, Prod.mk.injEq] at hr
        obtain ⟨H1, hp, rfl, rfl⟩ := hr
        rw [hb] at hv
        obtain ⟨l, hm, hx⟩ := hv
        obtain ⟨w', hrun, hst⟩ := run_storeVar_rel (P := P) hs hfl h1 hp hn.1 hm hy.cells
        refine ⟨Go.undef, w', m, .inr ⟨?_, rfl⟩, VRel.undef m, hst⟩
        simp only [execOp, ho, hx, Instr.storeAt, Instr.sureAddr, Sem.run_bind, Sem.run_pure, Result.andThen_ok, hrun]
      · simp at hr
    · simp at hr
  · simp at hc

theorem op_nilCheck {x : Operand} (ho : o.op = .nilCheck x) (hc : compileOp P res ap (.nilCheck x) = some r) (hr : rop call fl free X H r = some (v, H'))
    (hX : ∀ x rx, res x = some rx → VRel m (X rx) (ρ x)) (hs : Sim n0 base m H w) : OpOk P ρ o n0 base fl m H w v H' := by
  simp only [compileOp, Option.map_eq_some_iff] at hc
  obtain ⟨rx, h1, rfl⟩ := hc
  have hv := hX _ _ h1
  simp only [rop] at hr
  split at hr
  · rename_i b off hb
    simp only [Option.some.injEq, Prod.mk.injEq] at hr
    obtain ⟨rfl, rfl⟩ := hr
    rw [hb] at hv
    obtain ⟨l, hm, hx⟩ := hv
    refine ok_value hs (v' := ρ x) ?_ ⟨l, hm, hx⟩
    simp only [execOp, ho, hx, Sem.run_pure]
  · rename_i f caps hb
    simp only [Option.some.injEq, Prod.mk.injEq] at hr
    obtain ⟨rfl, rfl⟩ := hr
    rw [hb] at hv
    obtain ⟨cs, hx, hcs⟩ := hv
    refine ok_value hs (v' := ρ x) ?_ ⟨cs, hx, hcs⟩
    simp only [execOp, ho, hx, Sem.run_pure]
  · simp at hr

theorem op_bin {op : BinOp} {t t2 : TypeId} {x y : Operand} (ho : o.op = .binOp op t x y t2) (hc : compileOp P res ap (.binOp op t x y t2) = some r) (hr : rop call fl free X H r = some (v, H'))
    (hX : ∀ x rx, res x = some rx → VRel m (X rx) (ρ x)) (hs : Sim n0 base m H w) : OpOk P ρ o n0 base fl m H w v H' := by
  simp only [compileOp] at hc
  split at hc
  · rename_i ra rb h1 h2
    simp only [Option.some.injEq] at hc; subst hc
    simp only [rop, Option.map_eq_some_iff, Prod.mk.injEq] at hr
    obtain ⟨v0, hb, rfl, rfl⟩ := hr
    obtain ⟨h3, h4⟩ := binV_run (P := P) hb (hX _ _ h1) (hX _ _ h2) x y w
    refine ok_value hs (v' := toV v0) ?_ (h4 m)
    simp only [execOp, ho]
    rw [Sem.run_bind, h3]
    rfl
  · simp at hc

theorem op_un {op : UnOp} {t : TypeId} {x : Operand} (ho : o.op = .unOp op t x) (hc : compileOp P res ap (.unOp op t x) = some r) (hr : rop call fl free X H r = some (v, H'))
    (hX : ∀ x rx, res x = some rx → VRel m (X rx) (ρ x)) (hs : Sim n0 base m H w) : OpOk P ρ o n0 base fl m H w v H' := by
  simp only [compileOp, Option.map_eq_some_iff] at hc
  obtain ⟨rx, h1, rfl⟩ := hc
  have hv := hX _ _ h1
  simp only [rop, Option.map_eq_some_iff, Prod.mk.injEq] at hr
  obtain ⟨v0, hb, rfl, rfl⟩ := hr
  unfold unV at hb
  split at hb
  · rename_i k n hx
    rw [hx] at hv
    cases op <;> simp only [Option.some.injEq, reduceCtorEq] at hb
    · subst hb
      refine ok_value hs (v' := .int k (k.wrap (0 - n))) ?_ rfl
      simp only [execOp, ho, hv.int_inv, Op.unary, Op.intArith, Sem.run_bind, Sem.run_pure, Result.andThen_ok]
    · subst hb
      refine ok_value hs (v' := .int k (k.wrap (BitVec.ofInt k.bits (if k.signed then -1 else k.max) ^^^ BitVec.ofInt k.bits n).toNat)) ?_ rfl
      simp only [execOp, ho, hv.int_inv, Op.unary, Op.intBits, Sem.run_bind, Sem.run_pure, Result.andThen_ok]
  · rename_i b hx
    rw [hx] at hv
    cases op <;> simp only [Option.some.injEq, reduceCtorEq] at hb
    subst hb
    refine ok_value hs (v' := .bool (!b)) ?_ rfl
    simp only [execOp, ho, hv.bool_inv, Op.unary, Sem.run_bind, Sem.run_pure, Result.andThen_ok]
  · simp at hb

theorem op_convert {t u : TypeId} {x : Operand} (ho : o.op = .convert t u x) (hc : compileOp P res ap (.convert t u x) = some r) (hr : rop call fl free X H r = some (v, H'))
    (hX : ∀ x rx, res x = some rx → VRel m (X rx) (ρ x)) (hs : Sim n0 base m H w) : OpOk P ρ o n0 base fl m H w v H' := by
  simp only [compileOp] at hc
  split at hc
  · rename_i k0 k rx hu1 hu2 h1
    simp only [Option.some.injEq] at hc; subst hc
    have hv := hX _ _ h1
    simp only [rop] at hr
    split at hr
    · rename_i k1 n hb
      simp only [Option.some.injEq, Prod.mk.injEq] at hr
      obtain ⟨rfl, rfl⟩ := hr
      rw [hb] at hv
      refine ok_value hs (v' := .int k (k.wrap n)) ?_ rfl
      simp only [execOp, ho, hv.int_inv, convert, Sem.run_bind, run_und hu1, run_und hu2, Result.andThen_ok, Conv.intToInt, Sem.run_pure]
    · simp at hr
  · simp at hc

theorem op_makeFunc {f : Fn} {first caps : Array Operand} (ho : o.op = .makeFunc f first caps) (hc : compileOp P res ap (.makeFunc f first caps) = some r) (hr : rop call fl free X H r = some (v, H'))
    (hX : ∀ x rx, res x = some rx → VRel m (X rx) (ρ x)) (hs : Sim n0 base m H w) : OpOk P ρ o n0 base fl m H w v H' := by
  cases f <;> simp only [compileOp, reduceCtorEq] at hc
  rename_i f
  split at hc
  · rename_i hf
    simp only [Option.map_eq_some_iff] at hc
    obtain ⟨l, h1, rfl⟩ := hc
    simp only [rop, Option.some.injEq, Prod.mk.injEq] at hr
    obtain ⟨rfl, rfl⟩ := hr
    have hl := resL_rel hX h1
    refine ok_value hs (v' := .func (.func f) #[] ⟨caps.toList.map ρ⟩) ?_ ⟨_, rfl, hl⟩
    have hf0 : first = #[] := Array.eq_empty_of_size_eq_zero hf
    subst hf0
    simp only [execOp, ho, Instr.makeFunc, Sem.run_bind, Sem.run_pure, Result.andThen_ok]
    have : Array.map ρ caps = ⟨caps.toList.map ρ⟩ := by rw [← Array.toList_inj]; simp
    rw [this, Array.map_empty]
  · simp at hc

theorem wrap_id {l : Int} (h0 : 0 ≤ l) (h1 : l < 2 ^ 62) : IntKind.i64.wrap l = l := by
  unfold IntKind.wrap
  simp only [IntKind.bits, IntKind.signed]
  have : l % (2 ^ 64 : Int) = l := Int.emod_eq_of_lt h0 (by omega)
  simp only [this]
  rw [if_neg]
  simp
  omega

theorem op_makeSlice {t : TypeId} {x y : Operand} (ho : o.op = .makeSlice t x y) (hc : compileOp P res ap (.makeSlice t x y) = some r) (hr : rop call fl free X H r = some (v, H'))
    (hX : ∀ x rx, res x = some rx → VRel m (X rx) (ρ x)) (hs : Sim n0 base m H w) (hn : m H.length = none) : OpOk P ρ o n0 base fl m H w v H' := by
  simp only [compileOp] at hc
  split at hc
  · rename_i e hu
    split at hc
    · rename_i n b z rx ry hsz hby hz h1 h2
      split at hc
      · rename_i hcond
        obtain ⟨c1, c2⟩ := hcond
        simp only [Option.some.injEq] at hc; subst hc
        have hx := hX _ _ h1
        have hy := hX _ _ h2
        simp only [rop] at hr
        split at hr
        · rename_i l c hl hcc
          split at hr
          · rename_i hb
            obtain ⟨b1, b2, b3, b4⟩ := hb
            simp only [Option.some.injEq, Prod.mk.injEq] at hr
            obtain ⟨rfl, rfl⟩ := hr
            rw [hl] at hx
            rw [hcc] at hy
            obtain ⟨i, zv, hi, hzv, hcz⟩ := zeroOf_info hz
            obtain ⟨ie, hie, hie2⟩ := szOf_info hsz
            obtain ⟨ib, hib, hib2⟩ := bytesOf_info hby
            rw [hi] at hie hib; cases hie; cases hib
            have hzl : zv.cells.toList.length = n := by rw [← (ofConsts_rel m hcz).length]; exact c2
            have hlen : ((List.replicate c.toNat zv.cells.toList).flatten).length = c.toNat * n := by simp [hzl]
            have hcap : (c.toNat : Int) = c := by omega
            refine ok_push (cs := (List.replicate c.toNat zv.cells.toList).flatten) (rest := []) (t := e) hs hn rfl (VRels.flatten (ofConsts_rel m hcz) c.toNat)
              (v' := .slice (some ⟨w.heap.size, 0, none⟩) l.toNat c.toNat) ?_ fun m' hm' => ⟨_, _, rfl, by omega, _, hm', ⟨rfl, by simp [hlen]⟩, .inl (by simp)⟩
            have w1 : IntKind.i64.wrap l = l := wrap_id b1 (by omega)
            have w2 : IntKind.i64.wrap c = c := wrap_id (by omega) b4
            have hnb : (decide (c < 0) || decide ((b : Int) * c > 2 ^ 48)) = false := by
              simp only [Bool.or_eq_false_iff, decide_eq_false_iff_not]
              omega
            have hcond2 : ((decide (c < 0) || decide ((i.bytes : Int) * c > 2 ^ 48) || decide (l < 0) || decide (l > c)) = true) = False := by
              simp only [hib2, hnb, Bool.false_or, Bool.or_eq_true, decide_eq_true_eq, eq_iff_iff, iff_false]
              omega
            by_cases h0 : c.toNat * n = 0
            · have : c.toNat = 0 := by
                rcases Nat.mul_eq_zero.1 h0 with h | h
                · exact h
                · omega
              simp only [execOp, ho, hx.int_inv, hy.int_inv, Instr.makeSlice, Sem.run_bind, run_und hu, run_asInt, run_info hi, Result.andThen_ok, w1, w2, hcond2, if_false, run_askRoom, run_size hi, hie2, Sem.run_ite, if_pos h0, Sem.run_pure, newRow, run_newObj]
              have hA : (Array.range (c.toNat * n)).map (fun j => (#[] : Array Value)[j % (#[] : Array Value).size]!) = ((List.replicate c.toNat zv.cells.toList).flatten ++ []).toArray := by rw [h0, this]; simp
              rw [hA]
              rfl
            · have hcyc : (Array.range (c.toNat * n)).map (fun j => zv.cells[j % zv.cells.size]!) = ⟨(List.replicate c.toNat zv.cells.toList).flatten⟩ := by
                rw [← Array.toList_inj]
                have := zero_cycle zv.cells.toList c.toNat (by omega)
                rw [hzl] at this
                simpa using this
              simp only [execOp, ho, hx.int_inv, hy.int_inv, Instr.makeSlice, Sem.run_bind, run_und hu, run_asInt, run_info hi, Result.andThen_ok, w1, w2, hcond2, if_false, run_askRoom, run_size hi, hie2, Sem.run_ite, if_neg h0, run_zero hi hzv, Sem.run_pure, hcyc, newRow, run_newObj, List.append_nil]
              rfl
          · simp at hr
        · simp at hr
      · simp at hc
    · simp at hc
  · simp at hc

theorem op_fieldAddr {t : TypeId} {x : Operand} {f : Nat} (ho : o.op = .fieldAddr t x f) (hc : compileOp P res ap (.fieldAddr t x f) = some r) (hr : rop call fl free X H r = some (v, H'))
    (hX : ∀ x rx, res x = some rx → VRel m (X rx) (ρ x)) (hs : Sim n0 base m H w) : OpOk P ρ o n0 base fl m H w v H' := by
  simp only [compileOp] at hc
  split at hc
  · rename_i fs hu
    split at hc
    · rename_i fd hf
      split at hc
      · rename_i n rx hsz h1
        split at hc
        · rename_i hn
          simp only [Option.some.injEq] at hc; subst hc
          have hv := hX _ _ h1
          simp only [rop] at hr
          split at hr
          · rename_i b off hb
            simp only [Option.some.injEq, Prod.mk.injEq] at hr
            obtain ⟨rfl, rfl⟩ := hr
            rw [hb] at hv
            obtain ⟨l, hm, hx⟩ := hv
            obtain ⟨i, hi, hi2⟩ := szOf_info hsz
            refine ok_value hs (v' := .pointer (some ⟨l.cb, l.co + (off + fd.offset), none⟩)) ?_ ⟨l, hm, rfl⟩
            simp only [execOp, ho, hx, Instr.fieldAt, Sem.run_bind, run_und hu, hf, Instr.sureAddr, Sem.run_pure, Result.andThen_ok, fieldPlace, run_size hi, hi2, Sem.run_ite, if_neg (show ¬ n = 0 by omega), add_mk, Nat.add_assoc]
          · simp at hr
        · simp at hc
      · simp at hc
    · simp at hc
  · simp at hc

theorem op_field {t : TypeId} {x : Operand} {f : Nat} (ho : o.op = .field t x f) (hc : compileOp P res ap (.field t x f) = some r) (hr : rop call fl free X H r = some (v, H'))
    (hX : ∀ x rx, res x = some rx → VRel m (X rx) (ρ x)) (hs : Sim n0 base m H w) : OpOk P ρ o n0 base fl m H w v H' := by
  simp only [compileOp] at hc
  split at hc
  · rename_i fs hu
    split at hc
    · rename_i fd hf
      split at hc
      · rename_i sz rx hsz h1
        simp only [Option.some.injEq] at hc; subst hc
        have hv := hX _ _ h1
        simp only [rop] at hr
        split at hr
        · rename_i cs hb
          rw [hb] at hv
          obtain ⟨vs, hx, hrel⟩ := hv
          simp only [Option.map_eq_some_iff, Prod.mk.injEq] at hr
          obtain ⟨v0, hk, rfl, rfl⟩ := hr
          obtain ⟨cv, hrun, hcv⟩ := run_part_rel (P := P) hsz hrel hk w
          refine ok_value hs (v' := cv) ?_ hcv
          simp only [execOp, ho, hx, Instr.field, Sem.run_bind, run_und hu, hf, asAgg, Sem.run_pure, Result.andThen_ok, hrun]
        · simp at hr
      · simp at hc
    · simp at hc
  · simp at hc

theorem op_indexAddr {t : TypeId} {x y : Operand} (ho : o.op = .indexAddr t x y) (hc : compileOp P res ap (.indexAddr t x y) = some r) (hr : rop call fl free X H r = some (v, H'))
    (hX : ∀ x rx, res x = some rx → VRel m (X rx) (ρ x)) (hs : Sim n0 base m H w) : OpOk P ρ o n0 base fl m H w v H' := by
  simp only [compileOp] at hc
  split at hc
  · rename_i e hu
    split at hc
    · rename_i n rx ry hsz h1 h2
      simp only [Option.some.injEq] at hc; subst hc
      have hx := hX _ _ h1
      have hy := hX _ _ h2
      obtain ⟨i, hi, hi2⟩ := szOf_info hsz
      simp only [rop] at hr
      split at hr
      · rename_i b off len lim k j hb hj
        split at hr
        · rename_i hjb
          simp only [Option.some.injEq, Prod.mk.injEq] at hr
          obtain ⟨rfl, rfl⟩ := hr
          rw [hb] at hx
          rw [hj] at hy
          obtain ⟨a, cap, hxv, hcap, l, hm, _, ha⟩ := hx
          rcases ha with ha | h0
          · refine ok_value hs (v' := .pointer (some ⟨l.cb, l.co + (off + j.toNat * n), none⟩)) ?_ ⟨l, hm, rfl⟩
            simp only [execOp, ho, hxv, hy.int_inv, ha, Instr.indexAt, Sem.run_bind, run_asIntOf, run_und hu, Sem.run_pure, Result.andThen_ok, Sem.run_ite, if_pos hjb, run_size hi, hi2, add_mk, Nat.add_assoc]
          · omega
        · simp at hr
      · simp at hr
    · simp at hc
  · rename_i len e hu
    split at hc
    · rename_i n rx ry hsz h1 h2
      simp only [Option.some.injEq] at hc; subst hc
      have hx := hX _ _ h1
      have hy := hX _ _ h2
      obtain ⟨i, hi, hi2⟩ := szOf_info hsz
      simp only [rop] at hr
      split at hr
      · rename_i b off k j hb hj
        split at hr
        · rename_i hjb
          simp only [Option.some.injEq, Prod.mk.injEq] at hr
          obtain ⟨rfl, rfl⟩ := hr
          rw [hb] at hx
          rw [hj] at hy
          obtain ⟨l, hm, hxv⟩ := hx
          refine ok_value hs (v' := .pointer (some ⟨l.cb, l.co + (off + j.toNat * n), none⟩)) ?_ ⟨l, hm, rfl⟩
          simp only [execOp, ho, hxv, hy.int_inv, Instr.indexAt, Instr.sureAddr, Sem.run_bind, run_asIntOf, run_und hu, Sem.run_pure, Result.andThen_ok, Sem.run_ite, if_pos hjb, run_size hi, hi2, add_mk, Nat.add_assoc]
        · simp at hr
      · simp at hr
    · simp at hc
  · simp at hc

theorem op_index {t : TypeId} {x y : Operand} (ho : o.op = .index t x y) (hc : compileOp P res ap (.index t x y) = some r) (hr : rop call fl free X H r = some (v, H'))
    (hX : ∀ x rx, res x = some rx → VRel m (X rx) (ρ x)) (hs : Sim n0 base m H w) : OpOk P ρ o n0 base fl m H w v H' := by
  simp only [compileOp] at hc
  split at hc
  · rename_i hu
    split at hc
    · rename_i rx ry h1 h2
      simp only [Option.some.injEq] at hc; subst hc
      have hx := hX _ _ h1
      have hy := hX _ _ h2
      simp only [rop] at hr
      split at hr
      · rename_i s k j hb hj
        split at hr
        · rename_i c hcc
          simp only [Option.some.injEq, Prod.mk.injEq] at hr
          obtain ⟨rfl, rfl⟩ := hr
          rw [hb] at hx
          rw [hj] at hy
          refine ok_value hs (v' := .int .u8 c.toNat) ?_ rfl
          simp only [execOp, ho, hx.str_inv, hy.int_inv, Instr.index, Sem.run_bind, run_asIntOf, run_und hu, Result.andThen_ok, hcc, Sem.run_pure]
        · simp at hr
      · simp at hr
    · simp at hc
  · simp at hc

theorem op_extract {x : Operand} {i : Nat} (ho : o.op = .extract x i) (hc : compileOp P res ap (.extract x i) = some r) (hr : rop call fl free X H r = some (v, H'))
    (hX : ∀ x rx, res x = some rx → VRel m (X rx) (ρ x)) (hs : Sim n0 base m H w) : OpOk P ρ o n0 base fl m H w v H' := by
  simp only [compileOp, Option.map_eq_some_iff] at hc
  obtain ⟨rx, h1, rfl⟩ := hc
  have hv := hX _ _ h1
  simp only [rop] at hr
  split at hr
  · rename_i vs hb
    simp only [Option.map_eq_some_iff, Prod.mk.injEq] at hr
    obtain ⟨v0, h2, rfl, rfl⟩ := hr
    rw [hb] at hv
    obtain ⟨cs, hx, hrel⟩ := hv
    obtain ⟨cv, h3, h4⟩ := hrel.get i v0 h2
    refine ok_value hs (v' := cv) ?_ h4
    have h5 : (⟨cs⟩ : Array Value)[i]? = some cv := by simpa using h3
    simp only [execOp, ho, hx, Instr.extract, h5, Sem.run_bind, Sem.run_pure, Result.andThen_ok]
  · simp at hr

end
end Go.RM
