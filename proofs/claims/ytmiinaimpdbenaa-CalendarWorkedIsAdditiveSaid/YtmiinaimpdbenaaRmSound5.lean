/-
  Each operation but calls and append: what the abstract machine does, the model does.
-/
import Derived.Test.YtmiinaimpdbenaaRmSound4
import Derived.Laws.StructEq
namespace Go.RM

variable {P : Program}

def OpOk (P : Program) (ρ : Operand → Value) (o : Oper) (n0 base fl : Nat) (m : BMap) (H : Heap) (w : World) (v : AV) (H' : Heap) : Prop :=
  ∃ v' w' m', ((execOp ρ o).run P w = .ok (.value v') w' ∨ ((execOp ρ o).run P w = .ok .skip w' ∧ v' = Go.undef)) ∧ VRel m' v v' ∧ Step n0 base fl m H w m' H' w'

theorem OpOk.same {ρ : Operand → Value} {o : Oper} {n0 base fl : Nat} {m : BMap} {H : Heap} {w : World} {v : AV} {v' : Value} (hs : Sim n0 base m H w)
    (hr : (execOp ρ o).run P w = .ok (.value v') w) (hv : VRel m v v') : OpOk P ρ o n0 base fl m H w v H :=
  ⟨v', w, m, .inl hr, hv, Step.refl hs⟩

theorem resL_rel {m : BMap} {res : Operand → Option RX} {X : RX → AV} {ρ : Operand → Value} (hX : ∀ x rx, res x = some rx → VRel m (X rx) (ρ x)) :
    ∀ {l : List Operand} {r : List RX}, resL res l = some r → VRels m (r.map X) (l.map ρ)
  | [], r, h => by simp only [resL, Option.some.injEq] at h; subst h; trivial
  | x :: l, r, h => by
    simp only [resL] at h
    split at h
    · rename_i a r' h1 h2
      simp only [Option.some.injEq] at h; subst h
      exact ⟨hX _ _ h1, resL_rel hX h2⟩
    · simp at h

theorem VRel.int_inv {m : BMap} {k : IntKind} {n : Int} {v : Value} (h : VRel m (.int k n) v) : v = .int k n := h
theorem VRel.bool_inv {m : BMap} {b : Bool} {v : Value} (h : VRel m (.bool b) v) : v = .bool b := h
theorem VRel.str_inv {m : BMap} {b : ByteArray} {v : Value} (h : VRel m (.str b) v) : v = .string b := h

def toV : AV → Value
  | .int k n => .int k n
  | .bool b => .bool b
  | .str s => .string s
  | _ => .nilIface

theorem binI_run {op : BinOp} {k : IntKind} {a b : Int} {v : AV} (hsh : isShift op = false) (h : binI op k a b = some v) (t : TypeId) (w : World) :
    (binOp op t (.int k a) (.int k b)).run P w = .ok (toV v) w ∧ ∀ m, VRel m v (toV v) := by
  cases op with
  | shl => simp [isShift] at hsh
  | shr => simp [isShift] at hsh
  | quo =>
    simp only [binI] at h
    split at h
    · simp at h
    · rename_i hb
      simp only [Option.some.injEq] at h; subst h
      exact ⟨by simp [binOp, Op.intDiv, hb, toV], fun _ => rfl⟩
  | rem =>
    simp only [binI] at h
    split at h
    · simp at h
    · rename_i hb
      simp only [Option.some.injEq] at h; subst h
      exact ⟨by simp [binOp, Op.intDiv, hb, toV], fun _ => rfl⟩
  | add => simp only [binI, Option.some.injEq] at h; subst h; exact ⟨by simp [binOp, Op.intArith, toV], fun _ => rfl⟩
  | sub => simp only [binI, Option.some.injEq] at h; subst h; exact ⟨by simp [binOp, Op.intArith, toV], fun _ => rfl⟩
  | mul => simp only [binI, Option.some.injEq] at h; subst h; exact ⟨by simp [binOp, Op.intArith, toV], fun _ => rfl⟩
  | and => simp only [binI, Option.some.injEq] at h; subst h; exact ⟨by simp [binOp, Op.intBits, toV], fun _ => rfl⟩
  | or => simp only [binI, Option.some.injEq] at h; subst h; exact ⟨by simp [binOp, Op.intBits, toV], fun _ => rfl⟩
  | xor => simp only [binI, Option.some.injEq] at h; subst h; exact ⟨by simp [binOp, Op.intBits, toV], fun _ => rfl⟩
  | andNot => simp only [binI, Option.some.injEq] at h; subst h; exact ⟨by simp [binOp, Op.intBits, toV], fun _ => rfl⟩
  | eql => simp only [binI, Option.some.injEq] at h; subst h; exact ⟨by simp [binOp, Op.intCmp, toV], fun _ => rfl⟩
  | neq => simp only [binI, Option.some.injEq] at h; subst h; exact ⟨by simp [binOp, Op.intCmp, toV], fun _ => rfl⟩
  | lss => simp only [binI, Option.some.injEq] at h; subst h; exact ⟨by simp [binOp, Op.intCmp, toV], fun _ => rfl⟩
  | leq => simp only [binI, Option.some.injEq] at h; subst h; exact ⟨by simp [binOp, Op.intCmp, toV], fun _ => rfl⟩
  | gtr => simp only [binI, Option.some.injEq] at h; subst h; exact ⟨by simp [binOp, Op.intCmp, toV], fun _ => rfl⟩
  | geq => simp only [binI, Option.some.injEq] at h; subst h; exact ⟨by simp [binOp, Op.intCmp, toV], fun _ => rfl⟩

theorem shiftI_run {op : BinOp} {k k' : IntKind} {a b : Int} {v : AV} (h : shiftI op k a b = some v) (t : TypeId) (w : World) :
    (binOp op t (.int k a) (.int k' b)).run P w = .ok (toV v) w ∧ ∀ m, VRel m v (toV v) := by
  unfold shiftI at h
  split at h
  · simp at h
  · rename_i hb
    cases op with
    | shl => simp only [Option.some.injEq] at h; subst h; exact ⟨by simp [binOp, Op.shift, hb, toV], fun _ => rfl⟩
    | shr => simp only [Option.some.injEq] at h; subst h; exact ⟨by simp [binOp, Op.shift, hb, toV], fun _ => rfl⟩
    | _ => simp at h

theorem binS_run {op : BinOp} {a b : ByteArray} {v : AV} (h : binS op a b = some v) (t : TypeId) (w : World) :
    (binOp op t (.string a) (.string b)).run P w = .ok (toV v) w ∧ ∀ m, VRel m v (toV v) := by
  cases op with
  | add =>
    simp only [binS] at h
    split at h
    · simp at h
    · rename_i hb
      simp only [Option.some.injEq] at h; subst h
      refine ⟨?_, fun _ => rfl⟩
      simp only [binOp, Op.stringOp, if_neg hb]
      rfl
  | eql => simp only [binS, Option.some.injEq] at h; subst h; exact ⟨by simp [binOp, Op.stringOp, toV], fun _ => rfl⟩
  | neq => simp only [binS, Option.some.injEq] at h; subst h; exact ⟨by simp [binOp, Op.stringOp, toV], fun _ => rfl⟩
  | lss => simp only [binS, Option.some.injEq] at h; subst h; exact ⟨by simp [binOp, Op.stringOp, toV], fun _ => rfl⟩
  | leq => simp only [binS, Option.some.injEq] at h; subst h; exact ⟨by simp [binOp, Op.stringOp, toV], fun _ => rfl⟩
  | gtr => simp only [binS, Option.some.injEq] at h; subst h; exact ⟨by simp [binOp, Op.stringOp, toV], fun _ => rfl⟩
  | geq => simp only [binS, Option.some.injEq] at h; subst h; exact ⟨by simp [binOp, Op.stringOp, toV], fun _ => rfl⟩
  | _ => simp [binS] at h

def aggD : TypeDesc → Bool
  | .struct _ => true
  | .array _ _ => true
  | _ => false

theorem isAgg_plain {t : TypeId} {d : TypeDesc} (h : P.underlying t = some d) (hd : aggD d = false) (w : World) : (isAgg t).run P w = .ok false w := by
  unfold isAgg
  simp only [Sem.run_bind, run_und h, Result.andThen_ok]
  cases d <;> first | rfl | (simp [aggD] at hd)

theorem part_plain {t : TypeId} {d : TypeDesc} (h : P.underlying t = some d) (hd : aggD d = false) {cs : List Value} {off : Nat} {v : Value}
    (hv : cs[off]? = some v) (w : World) : (part t ⟨cs⟩ off).run P w = .ok v w := by
  unfold part
  simp [isAgg_plain h hd, hv]

theorem flat_step {m : BMap} {D : Nat} {w : World} {f : Field} {fs : List Field} {i : Nat} {x y : AV} {xs ys : List AV} {vs ws : List Value} {q b' : Bool} {d : TypeDesc}
    (ho : f.offset = i) (hnm : f.name ≠ "_") (hu : P.underlying f.type = some d) (hd : aggD d = false)
    (h1 : VRels m (x :: xs) (vs.drop i)) (h2 : VRels m (y :: ys) (ws.drop i))
    (ih : VRels m xs (vs.drop (i + 1)) → VRels m ys (ws.drop (i + 1)) → (Op.eqFields (D + 1) ⟨vs⟩ ⟨ws⟩ fs).run P w = .ok b' w)
    (hq : ∀ vx vy, VRel m x vx → VRel m y vy → (Op.equalIn (D + 1) f.type vx vy).run P w = .ok q w) :
    (Op.eqFields (D + 1) ⟨vs⟩ ⟨ws⟩ (f :: fs)).run P w = .ok (q && b') w := by
  obtain ⟨vx, g1, g2⟩ := h1.get 0 x rfl
  obtain ⟨vy, g3, g4⟩ := h2.get 0 y rfl
  rw [List.getElem?_drop, Nat.add_zero] at g1 g3
  have hl1 := VRels.drop 1 h1
  have hl2 := VRels.drop 1 h2
  rw [List.drop_drop] at hl1 hl2
  simp only [List.drop_succ_cons, List.drop_zero] at hl1 hl2
  have ih := ih hl1 hl2
  have p1 := part_plain (P := P) hu hd g1 w
  have p2 := part_plain (P := P) hu hd g3 w
  simp only [Op.eqFields, ne_eq, hnm, not_false_eq_true, if_true, Sem.run_bind, ho, p1, p2, Result.andThen_ok, hq vx vy g2 g4, Sem.run_ite]
  cases q
  · simp
  · simp [ih]

theorem flat_eq {m : BMap} {D : Nat} {w : World} : ∀ {fs : List Field} {ks : List FK} {i : Nat} {xs ys : List AV} {vs ws : List Value} {b : Bool},
    flatFields P fs i = some ks → eqCells ks xs ys = some b → VRels m xs (vs.drop i) → VRels m ys (ws.drop i) →
    (Op.eqFields (D + 1) ⟨vs⟩ ⟨ws⟩ fs).run P w = .ok b w
  | [], ks, i, xs, ys, vs, ws, b, hf, he, h1, h2 => by
    simp only [flatFields, Option.some.injEq] at hf
    subst hf
    cases xs <;> cases ys <;> simp [eqCells] at he
    subst he
    simp [Op.eqFields]
  | f :: fs, ks, i, xs, ys, vs, ws, b, hf, he, h1, h2 => by
    simp only [flatFields] at hf
    split at hf
    · rename_i hfo
      obtain ⟨ho, hnm⟩ := hfo
      split at hf
      · rename_i k r hu hfs
        simp only [Option.some.injEq] at hf; subst hf
        cases xs with
        | nil => simp [eqCells] at he
        | cons x xs =>
        cases ys with
        | nil => simp [eqCells] at he
        | cons y ys =>
        cases x <;> cases y <;> simp only [eqCells, reduceCtorEq] at he
        rename_i k1 a1 k2 b1
        split at he
        · rename_i hk
          subst hk
          simp only [Option.map_eq_some_iff] at he
          obtain ⟨b', hb', rfl⟩ := he
          exact flat_step ho hnm hu rfl h1 h2 (fun u1 u2 => flat_eq hfs hb' u1 u2) (fun vx vy hx hy => by rw [hx.int_inv, hy.int_inv]; exact run_equalIn_int w D f.type k1 k a1 b1 hu)
        · simp at he
      · rename_i r hu hfs
        simp only [Option.some.injEq] at hf; subst hf
        cases xs with
        | nil => simp [eqCells] at he
        | cons x xs =>
        cases ys with
        | nil => simp [eqCells] at he
        | cons y ys =>
        cases x <;> cases y <;> simp only [eqCells, reduceCtorEq] at he
        rename_i a1 b1
        simp only [Option.map_eq_some_iff] at he
        obtain ⟨b', hb', rfl⟩ := he
        exact flat_step ho hnm hu rfl h1 h2 (fun u1 u2 => flat_eq hfs hb' u1 u2) (fun vx vy hx hy => by rw [hx.bool_inv, hy.bool_inv]; exact run_equalIn_bool' w D f.type a1 b1 hu)
      · rename_i r hu hfs
        simp only [Option.some.injEq] at hf; subst hf
        cases xs with
        | nil => simp [eqCells] at he
        | cons x xs =>
        cases ys with
        | nil => simp [eqCells] at he
        | cons y ys =>
        cases x <;> cases y <;> simp only [eqCells, reduceCtorEq] at he
        rename_i a1 b1
        simp only [Option.map_eq_some_iff] at he
        obtain ⟨b', hb', rfl⟩ := he
        exact flat_step ho hnm hu rfl h1 h2 (fun u1 u2 => flat_eq hfs hb' u1 u2) (fun vx vy hx hy => by rw [hx.str_inv, hy.str_inv]; exact run_equalIn_string w D f.type a1 b1 hu)
      · simp at hf
    · simp at hf

/-- Two values compared or reckoned with. -/
theorem binV_run {m : BMap} {op : BinOp} {t : TypeId} {x y : AV} {vx vy : Value} {v : AV} (h : binV op (eqClsOf P op t) x y = some v) (hx : VRel m x vx) (hy : VRel m y vy) (ox oy : Operand) (w : World) :
    (do eqGuard op t ox oy vx vy; binOp op t vx vy : Sem Value).run P w = .ok (toV v) w ∧ ∀ m, VRel m v (toV v) := by
  cases x with
  | int k a =>
    cases y <;> simp only [binV, reduceCtorEq] at h
    rename_i k' b
    rw [hx.int_inv, hy.int_inv]
    have hg : (eqGuard op t ox oy (.int k a) (.int k' b)).run P w = .ok () w := by
      unfold eqGuard; split <;> rfl
    split at h
    · rename_i hsh
      have := shiftI_run (P := P) (k' := k') h t w
      exact ⟨by simp only [Sem.run_bind, hg, Result.andThen_ok]; exact this.1, this.2⟩
    · rename_i hsh
      split at h
      · rename_i hk
        subst hk
        have := binI_run (P := P) (by simpa using hsh) h t w
        exact ⟨by simp only [Sem.run_bind, hg, Result.andThen_ok]; exact this.1, this.2⟩
      · simp at h
  | str a =>
    cases y <;> simp only [binV, reduceCtorEq] at h
    rename_i b
    rw [hx.str_inv, hy.str_inv]
    have hg : (eqGuard op t ox oy (.string a) (.string b)).run P w = .ok () w := by
      unfold eqGuard; split <;> rfl
    have := binS_run (P := P) h t w
    exact ⟨by simp only [Sem.run_bind, hg, Result.andThen_ok]; exact this.1, this.2⟩
  | bool a =>
    cases y <;> simp only [binV, reduceCtorEq] at h
    rename_i b
    rw [hx.bool_inv, hy.bool_inv]
    have hg : (eqGuard op t ox oy (.bool a) (.bool b)).run P w = .ok () w := by
      unfold eqGuard; split <;> rfl
    split at h
    · rename_i hcls
      have hu : P.underlying t = some .bool := by
        cases op <;> simp only [eqClsOf, reduceCtorEq] at hcls <;>
        (unfold flatOk at hcls
         split at hcls
         · split at hcls
           · split at hcls <;> simp at hcls
           · simp at hcls
         · assumption
         · simp at hcls)
      cases op with
      | eql =>
        simp only [Option.some.injEq] at h; subst h
        exact ⟨by simp only [Sem.run_bind, hg, Result.andThen_ok]; exact run_eql_bool w t a b hu, fun _ => rfl⟩
      | neq =>
        simp only [Option.some.injEq] at h; subst h
        exact ⟨by simp only [Sem.run_bind, hg, Result.andThen_ok]; exact run_neq_bool w t a b hu, fun _ => rfl⟩
      | _ => simp at h
    · simp at h
  | agg xs =>
    cases y <;> simp only [binV, reduceCtorEq] at h
    rename_i ys
    obtain ⟨vs, rfl, r1⟩ := hx
    obtain ⟨ws, rfl, r2⟩ := hy
    split at h
    · rename_i ks hcls
      have hcls' : (op = .eql ∨ op = .neq) ∧ flatOk P t = .agg ks := by
        cases op <;> simp_all [eqClsOf]
      obtain ⟨hop, hfl⟩ := hcls'
      unfold flatOk at hfl
      split at hfl
      · rename_i fs hu
        split at hfl
        · rename_i hc
          split at hfl
          · rename_i ks' hks
            cases hfl
            have hfo : P.fieldsOf t = fs := by simp [Program.fieldsOf, hu]
            have hg : (eqGuard op t ox oy (.agg ⟨vs⟩) (.agg ⟨ws⟩)).run P w = .ok () w := by
              unfold eqGuard
              rcases hop with rfl | rfl <;> simp [hc.2]
            have hrun : ∀ b, eqCells ks xs ys = some b → (Op.equal t (.agg ⟨vs⟩) (.agg ⟨ws⟩)).run P w = .ok b w := fun b hb => by
              have := run_equalIn_struct (P := P) w 9999 t ⟨vs⟩ ⟨ws⟩ (by rw [hfo]; exact hu) hc.1
              unfold Op.equal
              show (Op.equalIn (9999 + 1) _ _ _).run P w = _
              rw [this, hfo]
              exact flat_eq (m := m) (D := 9998) hks hb (by simpa using r1) (by simpa using r2)
            rcases hop with rfl | rfl
            · simp only [Option.map_eq_some_iff] at h
              obtain ⟨b, hb, rfl⟩ := h
              refine ⟨?_, fun _ => rfl⟩
              simp only [Sem.run_bind, hg, Result.andThen_ok, binOp, hrun b hb, Sem.run_pure]
              rfl
            · simp only [Option.map_eq_some_iff] at h
              obtain ⟨b, hb, rfl⟩ := h
              refine ⟨?_, fun _ => rfl⟩
              simp only [Sem.run_bind, hg, Result.andThen_ok, binOp, hrun b hb, Sem.run_pure]
              rfl
          · simp at hfl
        · simp at hfl
      · simp at hfl
      · simp at hfl
    · simp at h
  | _ => simp [binV] at h

end Go.RM
