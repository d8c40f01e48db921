import Derived.Test.YtpjbnjgckbhohaaRmDefs
import Derived.Laws.StructEq
/-
  The model's operations, run: small lemmas.
-/
namespace Go.RM

variable {P : Program}

theorem add_mk (b o i : Nat) : (⟨b, o, none⟩ : Addr).add i = ⟨b, o + i, none⟩ := by unfold Addr.add; split <;> simp_all

theorem run_info {t : TypeId} {i : TypeInfo} (h : P.info? t = some i) (w : World) : (typeInfo t).run P w = .ok i w := by
  simp [typeInfo, h]
theorem run_und {t : TypeId} {d : TypeDesc} (h : P.underlying t = some d) (w : World) : (underlying t).run P w = .ok d w := by
  simp [underlying, h]
theorem run_size {t : TypeId} {i : TypeInfo} (h : P.info? t = some i) (w : World) : (sizeOf t).run P w = .ok i.size w := by
  simp [sizeOf, run_info h]
theorem run_zero {t : TypeId} {i : TypeInfo} {z : Value} (h : P.info? t = some i) (hz : i.zero = some z) (w : World) : (zeroValue t).run P w = .ok z w := by
  simp [zeroValue, run_info h, hz]

theorem run_isAgg {t : TypeId} {sz : Option Nat} (h : aggSz P t = some sz) (w : World) : (isAgg t).run P w = .ok sz.isSome w := by
  unfold aggSz at h
  unfold isAgg
  cases hu : P.underlying t with
  | none => simp [hu] at h
  | some d =>
    rw [hu] at h
    simp only [Sem.run_bind, run_und hu, Result.andThen_ok]
    cases d <;> simp_all <;> (obtain ⟨i, _, rfl⟩ := h; rfl)

theorem aggSz_info {t : TypeId} {n : Nat} (h : aggSz P t = some (some n)) : ∃ i, P.info? t = some i ∧ i.size = n := by
  unfold aggSz at h
  cases hu : P.underlying t with
  | none => simp [hu] at h
  | some d =>
    rw [hu] at h
    cases d <;> simp_all

theorem szOf_info {t : TypeId} {n : Nat} (h : szOf P t = some n) : ∃ i, P.info? t = some i ∧ i.size = n := by
  simpa [szOf] using h
theorem bytesOf_info {t : TypeId} {n : Nat} (h : bytesOf? P t = some n) : ∃ i, P.info? t = some i ∧ i.bytes = n := by
  simpa [bytesOf?] using h
theorem zeroOf_info {t : TypeId} {z : List AV} (h : zeroOf P t = some z) : ∃ i v, P.info? t = some i ∧ i.zero = some v ∧ ofConsts v.cells.toList = some z := by
  unfold zeroOf at h
  split at h
  · rename_i i hi
    split at h
    · rename_i v hv
      exact ⟨i, v, hi, hv, h⟩
    · simp at h
  · simp at h

/-- The cells of a stretch of a block, as the world has them. -/
theorem stretch {n0 base : Nat} {m : BMap} {H : Heap} {w : World} (hs : Sim n0 base m H w) {b off n : Nat} {k : Blk} {l : Loc}
    (hact : H.act b = some k) (hm : m b = some l) (hn : off + n ≤ k.cells.length) :
    ∃ cs : List Value, VRels m ((k.cells.drop off).take n) cs ∧ cs.length = n ∧ ∀ j v, cs[j]? = some v → w.cell? ⟨l.cb, l.co + off + j, none⟩ = some v := by
  obtain ⟨_, _, h⟩ := hs.cells b k l hact hm
  refine ⟨(List.range n).map fun j => (w.cell? ⟨l.cb, l.co + (off + j), none⟩).getD Go.undef, ?_, by simp, ?_⟩
  · refine VRels.of (by simp; omega) fun i a v ha hv => ?_
    have hi : i < n := by
      rcases Nat.lt_or_ge i n with h | h
      · exact h
      · rw [List.getElem?_eq_none (by simp; omega)] at hv; simp at hv
    rw [List.getElem?_take_of_lt hi, List.getElem?_drop] at ha
    obtain ⟨cv, h1, h2⟩ := h _ _ ha
    simp [hi] at hv
    rw [h1] at hv
    simp at hv
    subst hv
    exact h2
  · intro j v hv
    have hi : j < n := by
      rcases Nat.lt_or_ge j n with h | h
      · exact h
      · rw [List.getElem?_eq_none (by simp; omega)] at hv; simp at hv
    simp [hi] at hv
    have : off + j < k.cells.length := by omega
    obtain ⟨cv, h1, h2⟩ := h (off + j) _ (List.getElem?_eq_getElem this)
    rw [h1] at hv
    simp at hv
    rw [Nat.add_assoc, h1, hv]

theorem run_loads (w : World) (b o : Nat) (cs : List Value) (h : ∀ j v, cs[j]? = some v → w.cell? ⟨b, o + j, none⟩ = some v) :
    (loadCells ⟨b, o, none⟩ cs.length).run P w = .ok ⟨cs⟩ w := by
  have := run_loadCells_list (P := P) w ⟨b, o, none⟩ cs (fun j v hv => by rw [add_mk]; exact h j v hv)
  simpa using this

theorem run_loadVar_rel {n0 base : Nat} {m : BMap} {H : Heap} {w : World} (hs : Sim n0 base m H w) {t : TypeId} {sz : Option Nat} (ht : aggSz P t = some sz)
    {b off : Nat} {v : AV} (hl : rload H sz b off = some v) {l : Loc} (hm : m b = some l) :
    ∃ cv, (loadVar t ⟨l.cb, l.co + off, none⟩).run P w = .ok cv w ∧ VRel m v cv := by
  unfold rload at hl
  split at hl
  · rename_i k hact
    cases sz with
    | none =>
      simp only at hl
      obtain ⟨_, _, hc⟩ := hs.cells b k l hact hm
      obtain ⟨cv, h1, h2⟩ := hc off v hl
      refine ⟨cv, ?_, h2⟩
      unfold loadVar
      simp [run_isAgg ht, h1]
    | some n =>
      simp only at hl
      split at hl
      · rename_i hn
        cases hl
        obtain ⟨cs, h1, h2, h3⟩ := stretch hs hact hm hn
        obtain ⟨i, hi, hin⟩ := aggSz_info ht
        refine ⟨.agg ⟨cs⟩, ?_, ⟨cs, rfl, h1⟩⟩
        unfold loadVar
        have := run_loads (P := P) w l.cb (l.co + off) cs h3
        rw [h2] at this
        simp [run_isAgg ht, run_size hi, hin, this]
      · simp at hl
  · simp at hl

theorem run_part_rel {m : BMap} {t : TypeId} {sz : Option Nat} (ht : aggSz P t = some sz) {cs : List AV} {vs : List Value} (hr : VRels m cs vs) {off : Nat} {v : AV}
    (hv : rpart sz cs off = some v) (w : World) :
    ∃ cv, (part t ⟨vs⟩ off).run P w = .ok cv w ∧ VRel m v cv := by
  cases sz with
  | none =>
    simp only [rpart] at hv
    obtain ⟨cv, h1, h2⟩ := hr.get off v hv
    refine ⟨cv, ?_, h2⟩
    unfold part
    simp [run_isAgg ht, h1]
  | some n =>
    simp only [rpart] at hv
    split at hv
    · rename_i hn
      cases hv
      obtain ⟨i, hi, hin⟩ := aggSz_info ht
      refine ⟨.agg ⟨(vs.drop off).take n⟩, ?_, ⟨_, rfl, (hr.drop off).take n⟩⟩
      unfold part
      simp [run_isAgg ht, run_size hi, hin, List.extract_eq_take_drop]
    · simp at hv

theorem run_storeVar_rel {n0 base fl : Nat} {m : BMap} {H H' : Heap} {w : World} (hs : Sim n0 base m H w) (hfl : n0 ≤ fl) {t : TypeId} {n : Nat} (ht : szOf P t = some n)
    {b off : Nat} {xs : List AV} (hp : rput fl H b off xs = some H') (hn : xs.length = n) {l : Loc} (hm : m b = some l) {v : Value} (hr : VRels m xs v.cells.toList) :
    ∃ w', (storeVar t ⟨l.cb, l.co + off, none⟩ v).run P w = .ok () w' ∧ Step n0 base fl m H w m H' w' := by
  obtain ⟨h1, h2, h3⟩ := put_step hs hfl hp hm hr
  refine ⟨_, ?_, h3⟩
  obtain ⟨i, hi, hin⟩ := szOf_info ht
  have hlen := hr.length
  simp only [Array.length_toList] at hlen
  unfold storeVar
  simp only [Sem.run_bind, run_size hi, Result.andThen_ok]
  rw [if_neg (by omega)]
  have := run_storeCells_cells (P := P) l.cb (l.co + off) v.cells.toList 0 w (fun j hj => by simpa using (h1 j hj).1) (fun j hj => by simpa using (h1 j hj).2) h2
  simpa using this

/-! ### sums over lists of parts -/

theorem splice3_get (l cs : List Value) (off j : Nat) (h : off + cs.length ≤ l.length) :
    (l.take off ++ cs ++ l.drop (off + cs.length))[j]? = if off ≤ j ∧ j < off + cs.length then cs[j - off]? else l[j]? := by
  have h1 : (l.take off).length = off := by simp; omega
  split
  · rw [List.getElem?_append_left (by simp; omega), List.getElem?_append_right (by omega), h1]
  · by_cases h2 : j < off
    · rw [List.getElem?_append_left (by simp; omega), List.getElem?_append_left (by omega), List.getElem?_take_of_lt h2]
    · rw [List.getElem?_append_right (by simp; omega)]
      simp only [List.length_append, h1, List.getElem?_drop]
      congr 1
      omega

theorem foldl_set (l : List Value) : ∀ (cells : List Value) (off j0 : Nat), off + j0 + l.length ≤ cells.length →
    ((l.zipIdx j0).foldl (fun (cs : Array Value) (p : Value × Nat) => cs.setIfInBounds (off + p.2) p.1) ⟨cells⟩).toList = cells.take (off + j0) ++ l ++ cells.drop (off + j0 + l.length) := by
  induction l with
  | nil => intro cells off j0 h; simp
  | cons v l ih =>
    intro cells off j0 h
    simp only [List.length_cons] at h
    simp only [List.zipIdx_cons, List.foldl_cons]
    have h1 : (⟨cells⟩ : Array Value).setIfInBounds (off + j0) v = ⟨cells.set (off + j0) v⟩ := by simp
    rw [h1, ih (cells.set (off + j0) v) off (j0 + 1) (by simp; omega)]
    apply List.ext_getElem?
    intro i
    rw [splice3_get _ _ _ _ (by simp; omega), splice3_get _ _ _ _ (by simp; omega)]
    simp only [List.length_cons]
    rcases Nat.lt_trichotomy i (off + j0) with hi | hi | hi
    · rw [if_neg (by omega), if_neg (by omega), List.getElem?_set_ne (by omega)]
    · subst hi
      rw [if_neg (by omega), if_pos (by omega), List.getElem?_set_self (by omega), Nat.sub_self]
      rfl
    · by_cases h2 : i < off + (j0 + 1) + l.length
      · rw [if_pos (by omega), if_pos (by omega), show i - (off + j0) = (i - (off + (j0 + 1))) + 1 by omega, List.getElem?_cons_succ]
      · rw [if_neg (by omega), if_neg (by omega), List.getElem?_set_ne (by omega)]

theorem fill_rel {m : BMap} {place : Nat → Option (Nat × Nat)} : ∀ {ps : List (Nat × Nat × AV)} {qs : List (Nat × Value)} {cells out : List AV} {cv : List Value},
    VRels m cells cv → ps.length = qs.length →
    (∀ (i : Nat) (p : Nat × Nat × AV) (q : Nat × Value), ps[i]? = some p → qs[i]? = some q → place q.1 = some (p.1, p.2.1) ∧ VRel m p.2.2 q.2) →
    fillV cells ps = some out → ∃ ov, Instr.fill place ⟨cv⟩ qs = some ⟨ov⟩ ∧ VRels m out ov
  | [], [], cells, out, cv, hr, _, _, h => by
    simp only [fillV, Option.some.injEq] at h
    subst h
    exact ⟨cv, rfl, hr⟩
  | (off, size, v) :: ps, (i, x) :: qs, cells, out, cv, hr, hl, hp, h => by
    simp only [fillV] at h
    split at h
    · rename_i hc
      obtain ⟨hp1, hp2⟩ := hp 0 _ _ rfl rfl
      have hcl := hp2.cells.length
      simp only [Array.length_toList] at hcl
      have hlen := hr.length
      have hq := VRels.splice hr hp2.cells off
      have hfold := foldl_set x.cells.toList cv off 0 (by simp; omega)
      obtain ⟨ov, h1, h2⟩ := fill_rel (ps := ps) (qs := qs) hq (by simpa using hl) (fun j p q hj hk => hp (j + 1) p q (by simpa using hj) (by simpa using hk)) h
      refine ⟨ov, ?_, h2⟩
      simp only [Instr.fill]
      simp only at hp1
      rw [hp1]
      simp only []
      rw [if_neg (by simp; omega)]
      rw [← h1]
      congr 1
      rw [← Array.toList_inj]
      simp only [Nat.add_zero] at hfold
      rw [← hfold]
      congr 1
      rw [← Array.foldl_toList, Array.toList_zipIdx]
    · simp at h
  | [], _ :: _, _, _, _, _, hl, _, _ => by simp at hl
  | _ :: _, [], _, _, _, _, hl, _, _ => by simp at hl

theorem zero_cycle (zs : List Value) (n : Nat) (hz : 0 < zs.length) :
    ((Array.range (n * zs.length)).map (fun i => (⟨zs⟩ : Array Value)[i % (⟨zs⟩ : Array Value).size]!)).toList = (List.replicate n zs).flatten := by
  apply List.ext_getElem?
  intro i
  simp only [Array.toList_map, Array.toList_range, List.getElem?_map]
  by_cases hi : i < n * zs.length
  · rw [List.getElem?_range hi]
    simp only [Option.map_some]
    have hm : i % zs.length < zs.length := Nat.mod_lt _ hz
    have hd : i / zs.length < n := by rw [Nat.div_lt_iff_lt_mul hz]; exact hi
    have : ∀ (n i : Nat), i < n * zs.length → (List.replicate n zs).flatten[i]? = zs[i % zs.length]? := by
      intro n
      induction n with
      | zero => intro i h; simp at h
      | succ n ih =>
        intro i h
        rw [List.replicate_succ, List.flatten_cons]
        by_cases h2 : i < zs.length
        · rw [List.getElem?_append_left h2, Nat.mod_eq_of_lt h2]
        · rw [List.getElem?_append_right (by omega), ih (i - zs.length) (by rw [Nat.succ_mul] at h; omega)]
          congr 1
          rw [← Nat.mod_eq_sub_mod (by omega)]
    rw [this n i hi, List.getElem?_eq_getElem hm]
    simp [hm]
  · rw [List.getElem?_eq_none (by simp; omega), List.getElem?_eq_none (by simp; omega)]
    rfl

end Go.RM

/-
  Each operation but calls and append: what the abstract machine does, the model does.
-/
namespace Go.RM

variable {P : Program}

def OpOk (P : Program) (ρ : Operand → Value) (o : Oper) (n0 base fl : Nat) (m : BMap) (H : Heap) (w : World) (v : AV) (H' : Heap) : Prop :=
  ∃ v' w' m', ((execOp ρ o).run P w = .ok (.value v') w' ∨ ((execOp ρ o).run P w = .ok .skip w' ∧ v' = Go.undef)) ∧ VRel m' v v' ∧ Step n0 base fl m H w m' H' w'

theorem OpOk.same {ρ : Operand → Value} {o : Oper} {n0 base fl : Nat} {m : BMap} {H : Heap} {w : World} {v : AV} {v' : Value} (hs : Sim n0 base m H w)
    (hr : (execOp ρ o).run P w = .ok (.value v') w) (hv : VRel m v v') : OpOk P ρ o n0 base fl m H w v H :=
  ⟨v', w, m, .inl hr, hv, Step.refl hs⟩

theorem resL_rel {m : BMap} {res : Operand → Option RX} {X : RX → AV} {ρ : Operand → Value} (hX : ∀ x rx, res x = some rx → VRel m (X rx) (ρ x)) :
    ∀ {l : List Operand} {r : List RX}, resL res l = some r → VRels m (r.map X) (l.map ρ)
  | [], r, h => by simp only [resL, Option.some.injEq] at h; subst h; trivial
  | x :: l, r, h => by
    simp only [resL] at h
    split at h
    · rename_i a r' h1 h2
      simp only [Option.some.injEq] at h; subst h
      exact ⟨hX _ _ h1, resL_rel hX h2⟩
    · simp at h

theorem VRel.int_inv {m : BMap} {k : IntKind} {n : Int} {v : Value} (h : VRel m (.int k n) v) : v = .int k n := h
theorem VRel.bool_inv {m : BMap} {b : Bool} {v : Value} (h : VRel m (.bool b) v) : v = .bool b := h
theorem VRel.str_inv {m : BMap} {b : ByteArray} {v : Value} (h : VRel m (.str b) v) : v = .string b := h

def toV : AV → Value
  | .int k n => .int k n
  | .bool b => .bool b
  | .str s => .string s
  | _ => .nilIface

theorem binI_run {op : BinOp} {k : IntKind} {a b : Int} {v : AV} (hsh : isShift op = false) (h : binI op k a b = some v) (t : TypeId) (w : World) :
    (binOp op t (.int k a) (.int k b)).run P w = .ok (toV v) w ∧ ∀ m, VRel m v (toV v) := by
  cases op with
  | shl => simp [isShift] at hsh
  | shr => simp [isShift] at hsh
  | quo =>
    simp only [binI] at h
    split at h
    · simp at h
    · rename_i hb
      simp only [Option.some.injEq] at h; subst h
      exact ⟨by simp [binOp, Op.intDiv, hb, toV], fun _ => rfl⟩
  | rem =>
    simp only [binI] at h
    split at h
    · simp at h
    · rename_i hb
      simp only [Option.some.injEq] at h; subst h
      exact ⟨by simp [binOp, Op.intDiv, hb, toV], fun _ => rfl⟩
  | add => simp only [binI, Option.some.injEq] at h; subst h; exact ⟨by simp [binOp, Op.intArith, toV], fun _ => rfl⟩
  | sub => simp only [binI, Option.some.injEq] at h; subst h; exact ⟨by simp [binOp, Op.intArith, toV], fun _ => rfl⟩
  | mul => simp only [binI, Option.some.injEq] at h; subst h; exact ⟨by simp [binOp, Op.intArith, toV], fun _ => rfl⟩
  | and => simp only [binI, Option.some.injEq] at h; subst h; exact ⟨by simp [binOp, Op.intBits, toV], fun _ => rfl⟩
  | or => simp only [binI, Option.some.injEq] at h; subst h; exact ⟨by simp [binOp, Op.intBits, toV], fun _ => rfl⟩
  | xor => simp only [binI, Option.some.injEq] at h; subst h; exact ⟨by simp [binOp, Op.intBits, toV], fun _ => rfl⟩
  | andNot => simp only [binI, Option.some.injEq] at h; subst h; exact ⟨by simp [binOp, Op.intBits, toV], fun _ => rfl⟩
  | eql => simp only [binI, Option.some.injEq] at h; subst h; exact ⟨by simp [binOp, Op.intCmp, toV], fun _ => rfl⟩
  | neq => simp only [binI, Option.some.injEq] at h; subst h; exact ⟨by simp [binOp, Op.intCmp, toV], fun _ => rfl⟩
  | lss => simp only [binI, Option.some.injEq] at h; subst h; exact ⟨by simp [binOp, Op.intCmp, toV], fun _ => rfl⟩
  | leq => simp only [binI, Option.some.injEq] at h; subst h; exact ⟨by simp [binOp, Op.intCmp, toV], fun _ => rfl⟩
  | gtr => simp only [binI, Option.some.injEq] at h; subst h; exact ⟨by simp [binOp, Op.intCmp, toV], fun _ => rfl⟩
  | geq => simp only [binI, Option.some.injEq] at h; subst h; exact ⟨by simp [binOp, Op.intCmp, toV], fun _ => rfl⟩

theorem shiftI_run {op : BinOp} {k k' : IntKind} {a b : Int} {v : AV} (h : shiftI op k a b = some v) (t : TypeId) (w : World) :
    (binOp op t (.int k a) (.int k' b)).run P w = .ok (toV v) w ∧ ∀ m, VRel m v (toV v) := by
  unfold shiftI at h
  split at h
  · simp at h
  · rename_i hb
    cases op with
    | shl => simp only [Option.some.injEq] at h; subst h; exact ⟨by simp [binOp, Op.shift, hb, toV], fun _ => rfl⟩
    | shr => simp only [Option.some.injEq] at h; subst h; exact ⟨by simp [binOp, Op.shift, hb, toV], fun _ => rfl⟩
    | _ => simp at h

theorem binS_run {op : BinOp} {a b : ByteArray} {v : AV} (h : binS op a b = some v) (t : TypeId) (w : World) :
    (binOp op t (.string a) (.string b)).run P w = .ok (toV v) w ∧ ∀ m, VRel m v (toV v) := by
  cases op with
  | add =>
    simp only [binS] at h
    split at h
    · simp at h
    · rename_i hb
      simp only [Option.some.injEq] at h; subst h
      refine ⟨?_, fun _ => rfl⟩
      simp only [binOp, Op.stringOp, if_neg hb]
      rfl
  | eql => simp only [binS, Option.some.injEq] at h; subst h; exact ⟨by simp [binOp, Op.stringOp, toV], fun _ => rfl⟩
  | neq => simp only [binS, Option.some.injEq] at h; subst h; exact ⟨by simp [binOp, Op.stringOp, toV], fun _ => rfl⟩
  | lss => simp only [binS, Option.some.injEq] at h; subst h; exact ⟨by simp [binOp, Op.stringOp, toV], fun _ => rfl⟩
  | leq => simp only [binS, Option.some.injEq] at h; subst h; exact ⟨by simp [binOp, Op.stringOp, toV], fun _ => rfl⟩
  | gtr => simp only [binS, Option.some.injEq] at h; subst h; exact ⟨by simp [binOp, Op.stringOp, toV], fun _ => rfl⟩
  | geq => simp only [binS, Option.some.injEq] at h; subst h; exact ⟨by simp [binOp, Op.stringOp, toV], fun _ => rfl⟩
  | _ => simp [binS] at h

def aggD : TypeDesc → Bool
  | .struct _ => true
  | .array _ _ => true
  | _ => false

theorem isAgg_plain {t : TypeId} {d : TypeDesc} (h : P.underlying t = some d) (hd : aggD d = false) (w : World) : (isAgg t).run P w = .ok false w := by
  unfold isAgg
  simp only [Sem.run_bind, run_und h, Result.andThen_ok]
  cases d <;> first | rfl | (simp [aggD] at hd)

theorem part_plain {t : TypeId} {d : TypeDesc} (h : P.underlying t = some d) (hd : aggD d = false) {cs : List Value} {off : Nat} {v : Value}
    (hv : cs[off]? = some v) (w : World) : (part t ⟨cs⟩ off).run P w = .ok v w := by
  unfold part
  simp [isAgg_plain h hd, hv]

theorem flat_step {m : BMap} {D : Nat} {w : World} {f : Field} {fs : List Field} {i : Nat} {x y : AV} {xs ys : List AV} {vs ws : List Value} {q b' : Bool} {d : TypeDesc}
    (ho : f.offset = i) (hnm : f.name ≠ "_") (hu : P.underlying f.type = some d) (hd : aggD d = false)
    (h1 : VRels m (x :: xs) (vs.drop i)) (h2 : VRels m (y :: ys) (ws.drop i))
    (ih : VRels m xs (vs.drop (i + 1)) → VRels m ys (ws.drop (i + 1)) → (Op.eqFields (D + 1) ⟨vs⟩ ⟨ws⟩ fs).run P w = .ok b' w)
    (hq : ∀ vx vy, VRel m x vx → VRel m y vy → (Op.equalIn (D + 1) f.type vx vy).run P w = .ok q w) :
    (Op.eqFields (D + 1) ⟨vs⟩ ⟨ws⟩ (f :: fs)).run P w = .ok (q && b') w := by
  obtain ⟨vx, g1, g2⟩ := h1.get 0 x rfl
  obtain ⟨vy, g3, g4⟩ := h2.get 0 y rfl
  rw [List.getElem?_drop, Nat.add_zero] at g1 g3
  have hl1 := VRels.drop 1 h1
  have hl2 := VRels.drop 1 h2
  rw [List.drop_drop] at hl1 hl2
  simp only [List.drop_succ_cons, List.drop_zero] at hl1 hl2
  have ih := ih hl1 hl2
  have p1 := part_plain (P := P) hu hd g1 w
  have p2 := part_plain (P := P) hu hd g3 w
  simp only [Op.eqFields, ne_eq, hnm, not_false_eq_true, if_true, Sem.run_bind, ho, p1, p2, Result.andThen_ok, hq vx vy g2 g4, Sem.run_ite]
  cases q
  · simp
  · simp [ih]

theorem flat_eq {m : BMap} {D : Nat} {w : World} : ∀ {fs : List Field} {ks : List FK} {i : Nat} {xs ys : List AV} {vs ws : List Value} {b : Bool},
    flatFields P fs i = some ks → eqCells ks xs ys = some b → VRels m xs (vs.drop i) → VRels m ys (ws.drop i) →
    (Op.eqFields (D + 1) ⟨vs⟩ ⟨ws⟩ fs).run P w = .ok b w
  | [], ks, i, xs, ys, vs, ws, b, hf, he, h1, h2 => by
    simp only [flatFields, Option.some.injEq] at hf
    subst hf
    cases xs <;> cases ys <;> simp [eqCells] at he
    subst he
    simp [Op.eqFields]
  | f :: fs, ks, i, xs, ys, vs, ws, b, hf, he, h1, h2 => by
    simp only [flatFields] at hf
    split at hf
    · rename_i hfo
      obtain ⟨ho, hnm⟩ := hfo
      split at hf
      · rename_i k r hu hfs
        simp only [Option.some.injEq] at hf; subst hf
        cases xs with
        | nil => simp [eqCells] at he
        | cons x xs =>
        cases ys with
        | nil => simp [eqCells] at he
        | cons y ys =>
        cases x <;> cases y <;> simp only [eqCells, reduceCtorEq] at he
        rename_i k1 a1 k2 b1
        split at he
        · rename_i hk
          subst hk
          simp only [Option.map_eq_some_iff] at he
          obtain ⟨b', hb', rfl⟩ := he
          exact flat_step ho hnm hu rfl h1 h2 (fun u1 u2 => flat_eq hfs hb' u1 u2) (fun vx vy hx hy => by rw [hx.int_inv, hy.int_inv]; exact run_equalIn_int w D f.type k1 k a1 b1 hu)
        · simp at he
      · rename_i r hu hfs
        simp only [Option.some.injEq] at hf; subst hf
        cases xs with
        | nil => simp [eqCells] at he
        | cons x xs =>
        cases ys with
        | nil => simp [eqCells] at he
        | cons y ys =>
        cases x <;> cases y <;> simp only [eqCells, reduceCtorEq] at he
        rename_i a1 b1
        simp only [Option.map_eq_some_iff] at he
        obtain ⟨b', hb', rfl⟩ := he
        exact flat_step ho hnm hu rfl h1 h2 (fun u1 u2 => flat_eq hfs hb' u1 u2) (fun vx vy hx hy => by rw [hx.bool_inv, hy.bool_inv]; exact run_equalIn_bool' w D f.type a1 b1 hu)
      · rename_i r hu hfs
        simp only [Option.some.injEq] at hf; subst hf
        cases xs with
        | nil => simp [eqCells] at he
        | cons x xs =>
        cases ys with
        | nil => simp [eqCells] at he
        | cons y ys =>
        cases x <;> cases y <;> simp only [eqCells, reduceCtorEq] at he
        rename_i a1 b1
        simp only [Option.map_eq_some_iff] at he
        obtain ⟨b', hb', rfl⟩ := he
        exact flat_step ho hnm hu rfl h1 h2 (fun u1 u2 => flat_eq hfs hb' u1 u2) (fun vx vy hx hy => by rw [hx.str_inv, hy.str_inv]; exact run_equalIn_string w D f.type a1 b1 hu)
      · simp at hf
    · simp at hf

/-- Two values compared or reckoned with. -/
theorem binV_run {m : BMap} {op : BinOp} {t : TypeId} {x y : AV} {vx vy : Value} {v : AV} (h : binV op (eqClsOf P op t) x y = some v) (hx : VRel m x vx) (hy : VRel m y vy) (ox oy : Operand) (w : World) :
    (do eqGuard op t ox oy vx vy; binOp op t vx vy : Sem Value).run P w = .ok (toV v) w ∧ ∀ m, VRel m v (toV v) := by
  cases x with
  | int k a =>
    cases y <;> simp only [binV, reduceCtorEq] at h
    rename_i k' b
    rw [hx.int_inv, hy.int_inv]
    have hg : (eqGuard op t ox oy (.int k a) (.int k' b)).run P w = .ok () w := by
      unfold eqGuard; split <;> rfl
    split at h
    · rename_i hsh
      have := shiftI_run (P := P) (k' := k') h t w
      exact ⟨by simp only [Sem.run_bind, hg, Result.andThen_ok]; exact this.1, this.2⟩
    · rename_i hsh
      split at h
      · rename_i hk
        subst hk
        have := binI_run (P := P) (by simpa using hsh) h t w
        exact ⟨by simp only [Sem.run_bind, hg, Result.andThen_ok]; exact this.1, this.2⟩
      · simp at h
  | str a =>
    cases y <;> simp only [binV, reduceCtorEq] at h
    rename_i b
    rw [hx.str_inv, hy.str_inv]
    have hg : (eqGuard op t ox oy (.string a) (.string b)).run P w = .ok () w := by
      unfold eqGuard; split <;> rfl
    have := binS_run (P := P) h t w
    exact ⟨by simp only [Sem.run_bind, hg, Result.andThen_ok]; exact this.1, this.2⟩
  | bool a =>
    cases y <;> simp only [binV, reduceCtorEq] at h
    rename_i b
    rw [hx.bool_inv, hy.bool_inv]
    have hg : (eqGuard op t ox oy (.bool a) (.bool b)).run P w = .ok () w := by
      unfold eqGuard; split <;> rfl
    split at h
    · rename_i hcls
      have hu : P.underlying t = some .bool := by
        cases op <;> simp only [eqClsOf, reduceCtorEq] at hcls <;>
        (unfold flatOk at hcls
         split at hcls
         · split at hcls
           · split at hcls <;> simp at hcls
           · simp at hcls
         · assumption
         · simp at hcls)
      cases op with
      | eql =>
        simp only [Option.some.injEq] at h; subst h
        exact ⟨by simp only [Sem.run_bind, hg, Result.andThen_ok]; exact run_eql_bool w t a b hu, fun _ => rfl⟩
      | neq =>
        simp only [Option.some.injEq] at h; subst h
        exact ⟨by simp only [Sem.run_bind, hg, Result.andThen_ok]; exact run_neq_bool w t a b hu, fun _ => rfl⟩
      | _ => simp at h
    · simp at h
  | agg xs =>
    cases y <;> simp only [binV, reduceCtorEq] at h
    rename_i ys
    obtain ⟨vs, rfl, r1⟩ := hx
    obtain ⟨ws, rfl, r2⟩ := hy
    split at h
    · rename_i ks hcls
      have hcls' : (op = .eql ∨ op = .neq) ∧ flatOk P t = .agg ks := by
        cases op <;> simp_all [eqClsOf]
      obtain ⟨hop, hfl⟩ := hcls'
      unfold flatOk at hfl
      split at hfl
      · rename_i fs hu
        split at hfl
        · rename_i hc
          split at hfl
          · rename_i ks' hks
            cases hfl
            have hfo : P.fieldsOf t = fs := by simp [Program.fieldsOf, hu]
            have hg : (eqGuard op t ox oy (.agg ⟨vs⟩) (.agg ⟨ws⟩)).run P w = .ok () w := by
              unfold eqGuard
              rcases hop with rfl | rfl <;> simp [hc.2]
            have hrun : ∀ b, eqCells ks xs ys = some b → (Op.equal t (.agg ⟨vs⟩) (.agg ⟨ws⟩)).run P w = .ok b w := fun b hb => by
              have := run_equalIn_struct (P := P) w 9999 t ⟨vs⟩ ⟨ws⟩ (by rw [hfo]; exact hu) hc.1
              unfold Op.equal
              show (Op.equalIn (9999 + 1) _ _ _).run P w = _
              rw [this, hfo]
              exact flat_eq (m := m) (D := 9998) hks hb (by simpa using r1) (by simpa using r2)
            rcases hop with rfl | rfl
            · simp only [Option.map_eq_some_iff] at h
              obtain ⟨b, hb, rfl⟩ := h
              refine ⟨?_, fun _ => rfl⟩
              simp only [Sem.run_bind, hg, Result.andThen_ok, binOp, hrun b hb, Sem.run_pure]
              rfl
            · simp only [Option.map_eq_some_iff] at h
              obtain ⟨b, hb, rfl⟩ := h
              refine ⟨?_, fun _ => rfl⟩
              simp only [Sem.run_bind, hg, Result.andThen_ok, binOp, hrun b hb, Sem.run_pure]
              rfl
          · simp at hfl
        · simp at hfl
      · simp at hfl
      · simp at hfl
    · simp at h
  | _ => simp [binV] at h

end Go.RM

/-
  Each operation but calls and append, as a step.
-/
namespace Go.RM
set_option linter.unusedSimpArgs false

variable {P : Program}

section
variable {ρ : Operand → Value} {o : Oper} {n0 base fl : Nat} {m : BMap} {H : Heap} {w : World} {X : RX → AV} {res : Operand → Option RX}

theorem ok_value {v : AV} {v' : Value} (hs : Sim n0 base m H w) (hr : (execOp ρ o).run P w = .ok (.value v') w) (hv : VRel m v v') : OpOk P ρ o n0 base fl m H w v H :=
  ⟨v', w, m, .inl hr, hv, Step.refl hs⟩

theorem run_asIntOf {k : IntKind} {n : Int} (w : World) : (asIntOf (.int k n)).run P w = .ok (k, n) w := rfl
theorem run_asInt {k : IntKind} {n : Int} (w : World) : (asInt (.int k n)).run P w = .ok n w := rfl

/-- A new block. -/
theorem ok_push {v' : Value} {t : TypeId} {k : Blk} {cs rest : List Value} (hs : Sim n0 base m H w) (hn : m H.length = none) (hk : k.kid = none) (hr : VRels m k.cells cs)
    (hrun : (execOp ρ o).run P w = .ok (.value v') (w.alloc (.cells (cs ++ rest).toArray t)))
    {v : AV} (hv : ∀ m', m' H.length = some ⟨w.heap.size, 0, (cs ++ rest).length, k.e⟩ → VRel m' v v') : OpOk P ρ o n0 base fl m H w v (H ++ [k]) :=
  ⟨v', _, _, .inl hrun, hv _ (upd_same _ _ _), push_step hs hn hk hr rfl rfl rfl rfl⟩

theorem op_alloc {t : TypeId} {z : List AV} (ho : o.op = .alloc t) (hz : zeroOf P t = some z) (hs : Sim n0 base m H w) (hn : m H.length = none) (e : Nat) :
    OpOk P ρ o n0 base fl m H w (.ptr H.length 0) (H ++ [{ cells := z, e }]) := by
  obtain ⟨i, zv, hi, hzv, hc⟩ := zeroOf_info hz
  refine ok_push (cs := zv.cells.toList) (rest := []) (t := t) hs hn rfl (ofConsts_rel m hc) (v' := .pointer (some ⟨w.heap.size, 0, none⟩)) ?_ fun m' hm' => ⟨_, hm', by simp⟩
  simp only [execOp, ho, Instr.alloc, Sem.run_bind, run_zero hi hzv, Result.andThen_ok, newVar, newRow, run_newObj, Sem.run_pure, List.append_nil, Array.toArray_toList]
  rfl

theorem op_box {t : TypeId} {x : Operand} {rx : RX} (ho : o.op = .box t x) (hx : VRel m (X rx) (ρ x)) (hs : Sim n0 base m H w) (hn : m H.length = none) (e : Nat) :
    OpOk P ρ o n0 base fl m H w (.ptr H.length 0) (H ++ [{ cells := (X rx).cells, e }]) := by
  refine ok_push (cs := (ρ x).cells.toList) (rest := []) (t := t) hs hn rfl hx.cells (v' := .pointer (some ⟨w.heap.size, 0, none⟩)) ?_ fun m' hm' => ⟨_, hm', by simp⟩
  simp only [execOp, ho, Instr.box, Sem.run_bind, Result.andThen_ok, newVar, newRow, run_newObj, Sem.run_pure, List.append_nil, Array.toArray_toList]
  rfl

theorem partsRow_rel (hX : ∀ x rx, res x = some rx → VRel m (X rx) (ρ x)) {size : Nat} : ∀ {l : List (Nat × Operand)} {ps : List (Nat × Nat × RX)}, partsRow res size l = some ps →
    ps.length = l.length ∧ ∀ (i : Nat) (p : Nat × Nat × RX) (q : Nat × Operand), ps[i]? = some p → l[i]? = some q → p.1 = q.1 * size ∧ p.2.1 = size ∧ VRel m (X p.2.2) (ρ q.2)
  | [], ps, h => by
    simp only [partsRow, Option.some.injEq] at h; subst h
    exact ⟨rfl, fun i p q hp _ => by simp at hp⟩
  | (i, x) :: l, ps, h => by
    simp only [partsRow] at h
    split at h
    · rename_i a r h1 h2
      simp only [Option.some.injEq] at h; subst h
      obtain ⟨e1, e2⟩ := partsRow_rel hX h2
      refine ⟨by simp [e1], fun j p q hp hq => ?_⟩
      cases j with
      | zero => simp at hp hq; subst hp; subst hq; exact ⟨rfl, rfl, hX _ _ h1⟩
      | succ j => exact e2 j p q (by simpa using hp) (by simpa using hq)
    · simp at h

theorem partsStruct_rel (hX : ∀ x rx, res x = some rx → VRel m (X rx) (ρ x)) {fs : Array Field} : ∀ {l : List (Nat × Operand)} {ps : List (Nat × Nat × RX)}, partsStruct P res fs l = some ps →
    ps.length = l.length ∧ ∀ (i : Nat) (p : Nat × Nat × RX) (q : Nat × Operand), ps[i]? = some p → l[i]? = some q →
      ∃ f inf, fs[q.1]? = some f ∧ P.info? f.type = some inf ∧ p.1 = f.offset ∧ p.2.1 = inf.size ∧ VRel m (X p.2.2) (ρ q.2)
  | [], ps, h => by
    simp only [partsStruct, Option.some.injEq] at h; subst h
    exact ⟨rfl, fun i p q hp _ => by simp at hp⟩
  | (i, x) :: l, ps, h => by
    simp only [partsStruct] at h
    split at h
    · simp at h
    · rename_i f hf
      split at h
      · rename_i n a r h1 h2 h3
        simp only [Option.some.injEq] at h; subst h
        obtain ⟨e1, e2⟩ := partsStruct_rel hX h3
        obtain ⟨inf, hinf, hn⟩ := szOf_info h1
        refine ⟨by simp [e1], fun j p q hp hq => ?_⟩
        cases j with
        | zero => simp at hp hq; subst hp; subst hq; exact ⟨f, inf, hf, hinf, rfl, hn.symm, hX _ _ h2⟩
        | succ j => exact e2 j p q (by simpa using hp) (by simpa using hq)
      · simp at h

theorem mapM_places {l : List Field} (h : ∀ f ∈ l, (P.info? f.type).isSome = true) (w : World) :
    (l.mapM fun f => (do pure (f.offset, ← sizeOf f.type) : Sem (Nat × Nat))).run P w = .ok (l.map fun f => (f.offset, P.cellsOf f.type)) w := by
  induction l with
  | nil => rfl
  | cons f l ih =>
    obtain ⟨i, hi⟩ := Option.isSome_iff_exists.1 (h f (by simp))
    have := ih (fun g hg => h g (by simp [hg]))
    simp only [List.mapM_cons, Sem.run_bind, run_size hi, Result.andThen_ok, Sem.run_pure, this, List.map_cons, Program.cellsOf, hi, Option.map_some, Option.getD_some]

theorem op_build {t : TypeId} {parts : Array (Nat × Operand)} {r : ROp} {v : AV} {H' : Heap} {call} {free : Bool} {ap : List RX} (ho : o.op = .build t parts) (hc : compileOp P res ap (.build t parts) = some r)
    (hr : rop call fl free X H r = some (v, H')) (hX : ∀ x rx, res x = some rx → VRel m (X rx) (ρ x)) (hs : Sim n0 base m H w) : OpOk P ρ o n0 base fl m H w v H' := by
  simp only [compileOp] at hc
  split at hc
  · rename_i fs hu
    split at hc
    · rename_i hk
      split at hc
      · rename_i z ps hz hp
        simp only [Option.some.injEq] at hc; subst hc
        simp only [rop, Option.map_eq_some_iff, Prod.mk.injEq] at hr
        obtain ⟨cs, hf, rfl, rfl⟩ := hr
        obtain ⟨i, zv, hi, hzv, hcz⟩ := zeroOf_info hz
        obtain ⟨l1, l2⟩ := partsStruct_rel hX hp
        have hq := fill_rel (m := m) (place := fun j => (fs.map fun f => (f.offset, P.cellsOf f.type))[j]?) (qs := (parts.map fun (i, x) => (i, ρ x)).toList) (ofConsts_rel m hcz) (by simpa using l1) (fun j p q hp' hq' => by
          simp only [List.getElem?_map, Option.map_eq_some_iff] at hp'
          obtain ⟨p0, hp0, rfl⟩ := hp'
          simp only [Array.toList_map, List.getElem?_map, Option.map_eq_some_iff] at hq'
          obtain ⟨q0, hq0, rfl⟩ := hq'
          obtain ⟨f, inf, h1, h2, h3, h4, h5⟩ := l2 j p0 q0 hp0 hq0
          refine ⟨?_, h5⟩
          simp only [Array.getElem?_map, h1, Option.map_some, h3, h4, Program.cellsOf, h2, Option.getD_some]) hf
        obtain ⟨ov, h1, h2⟩ := hq
        refine ok_value hs (v' := .agg ⟨ov⟩) ?_ ⟨ov, rfl, h2⟩
        have hpl : (fs.mapM fun f => (do pure (f.offset, ← sizeOf f.type) : Sem (Nat × Nat))).run P w = .ok (fs.map fun f => (f.offset, P.cellsOf f.type)) w := by
          rw [Array.mapM_eq_mapM_toList]
          simp only [Sem.run_map]
          rw [mapM_places (fun f hf => by
            simp only [fieldsKnown, List.all_eq_true] at hk
            exact hk f hf)]
          simp only [Result.andThen_ok]
          congr 1
          rw [← Array.toList_inj]
          simp
        simp only [execOp, ho, Instr.build, Sem.run_bind, run_zero hi hzv, Result.andThen_ok, run_und hu, hpl]
        have h1' : Instr.fill (fun j => (fs.map fun f => (f.offset, P.cellsOf f.type))[j]?) zv.cells (parts.map fun (i, x) => (i, ρ x)).toList = some ⟨ov⟩ := h1
        simp only [h1', Sem.run_pure, Result.andThen_ok]
      · simp at hc
    · simp at hc
  · rename_i n e hu
    split at hc
    · rename_i sz z hsz hz
      simp only [Option.map_eq_some_iff] at hc
      obtain ⟨ps, hp, rfl⟩ := hc
      simp only [rop, Option.map_eq_some_iff, Prod.mk.injEq] at hr
      obtain ⟨cs, hf, rfl, rfl⟩ := hr
      obtain ⟨i, zv, hi, hzv, hcz⟩ := zeroOf_info hz
      obtain ⟨ie, hie, hie2⟩ := szOf_info hsz
      obtain ⟨l1, l2⟩ := partsRow_rel hX hp
      have hq := fill_rel (m := m) (place := fun j => some (j * sz, sz)) (qs := (parts.map fun (i, x) => (i, ρ x)).toList) (ofConsts_rel m hcz) (by simpa using l1) (fun j p q hp' hq' => by
        simp only [List.getElem?_map, Option.map_eq_some_iff] at hp'
        obtain ⟨p0, hp0, rfl⟩ := hp'
        simp only [Array.toList_map, List.getElem?_map, Option.map_eq_some_iff] at hq'
        obtain ⟨q0, hq0, rfl⟩ := hq'
        obtain ⟨h3, h4, h5⟩ := l2 j p0 q0 hp0 hq0
        exact ⟨by simp only [h3, h4], h5⟩) hf
      obtain ⟨ov, h1, h2⟩ := hq
      refine ok_value hs (v' := .agg ⟨ov⟩) ?_ ⟨ov, rfl, h2⟩
      simp only [execOp, ho, Instr.build, Sem.run_bind, run_zero hi hzv, Result.andThen_ok, run_und hu, run_size hie, hie2]
      have h1' : Instr.fill (fun j => some (j * sz, sz)) zv.cells (parts.map fun (i, x) => (i, ρ x)).toList = some ⟨ov⟩ := h1
      simp only [h1', Sem.run_pure, Result.andThen_ok]
    · simp at hc
  · simp at hc

theorem op_buildSlice {t : TypeId} {len : Nat} {parts : Array (Nat × Operand)} {r : ROp} {v : AV} {H' : Heap} {call} {free : Bool} {ap : List RX} (ho : o.op = .buildSlice t len parts)
    (hc : compileOp P res ap (.buildSlice t len parts) = some r) (hr : rop call fl free X H r = some (v, H')) (hX : ∀ x rx, res x = some rx → VRel m (X rx) (ρ x)) (hs : Sim n0 base m H w)
    (hn : m H.length = none) : OpOk P ρ o n0 base fl m H w v H' := by
  simp only [compileOp] at hc
  split at hc
  · rename_i e hu
    split at hc
    · rename_i n z ps hsz hz hp
      split at hc
      · rename_i hcond
        obtain ⟨c1, c2, c3⟩ := hcond
        simp only [Option.some.injEq] at hc; subst hc
        simp only [rop, Option.map_eq_some_iff, Prod.mk.injEq] at hr
        obtain ⟨cs, hf, rfl, rfl⟩ := hr
        obtain ⟨i, zv, hi, hzv, hcz⟩ := zeroOf_info hz
        obtain ⟨ie, hie, hie2⟩ := szOf_info hsz
        have hcells : P.cellsOf e = n := by simp [Program.cellsOf, hie, hie2]
        have hin : i.size = n := by rw [hi] at hie; cases hie; exact hie2
        obtain ⟨l1, l2⟩ := partsRow_rel hX hp
        have hzl : zv.cells.toList.length = n := by rw [← (ofConsts_rel m hcz).length]; exact c2
        have hq := fill_rel (m := m) (place := fun j => some (j * n, n)) (qs := (parts.map fun (i, x) => (i, ρ x)).toList) (VRels.flatten (ofConsts_rel m hcz) len) (by simpa using l1) (fun j p q hp' hq' => by
          simp only [List.getElem?_map, Option.map_eq_some_iff] at hp'
          obtain ⟨p0, hp0, rfl⟩ := hp'
          simp only [Array.toList_map, List.getElem?_map, Option.map_eq_some_iff] at hq'
          obtain ⟨q0, hq0, rfl⟩ := hq'
          obtain ⟨h3, h4, h5⟩ := l2 j p0 q0 hp0 hq0
          exact ⟨by simp only [h3, h4, hcells], h5⟩) hf
        obtain ⟨ov, h1, h2⟩ := hq
        have hlen : ov.length = len * n := by
          have e1 := h2.length
          have e2 : ∀ (ps : List (Nat × Nat × AV)) (cells out : List AV), fillV cells ps = some out → out.length = cells.length := by
            intro ps
            induction ps with
            | nil => intro cells out h; simp only [fillV, Option.some.injEq] at h; rw [← h]
            | cons p ps ih =>
              intro cells out h
              obtain ⟨a, b, c⟩ := p
              simp only [fillV] at h
              split at h
              · rename_i hq
                rw [ih _ _ h, splice_length (by omega)]
              · simp at h
          rw [← e1, e2 _ _ _ hf]
          simp [zeros, c2]
        refine ok_push (cs := ov) (rest := []) (t := e) hs hn rfl h2 (v' := .slice (some ⟨w.heap.size, 0, none⟩) len len) ?_ fun m' hm' => ⟨_, _, rfl, Nat.le_refl _, _, hm', ?_, .inl (by simp)⟩
        · have h1' : Instr.fill (fun j => some (j * n, n)) ⟨(List.replicate len zv.cells.toList).flatten⟩ (parts.map fun (i, x) => (i, ρ x)).toList = some ⟨ov⟩ := h1
          by_cases h0 : len * n = 0
          · have : len = 0 := by
              rcases Nat.mul_eq_zero.1 h0 with h | h
              · exact h
              · omega
            subst this
            have hcyc : (Array.range (0 * n)).map (fun j => (#[] : Array Value)[j % (#[] : Array Value).size]!) = ⟨(List.replicate 0 zv.cells.toList).flatten⟩ := by simp
            simp only [execOp, ho, Instr.buildSlice, Sem.run_bind, run_und hu, Result.andThen_ok, run_size hie, hie2, Sem.run_ite, if_neg (show ¬ 0 * n > 2 ^ 24 by omega), Sem.run_pure, if_pos h0, hcyc, h1', newRow, run_newObj, List.append_nil]
            rfl
          · have hcyc : (Array.range (len * n)).map (fun j => zv.cells[j % zv.cells.size]!) = ⟨(List.replicate len zv.cells.toList).flatten⟩ := by
              rw [← Array.toList_inj]
              have := zero_cycle zv.cells.toList len (by omega)
              rw [hzl] at this
              simpa using this
            simp only [execOp, ho, Instr.buildSlice, Sem.run_bind, run_und hu, Result.andThen_ok, run_size hie, hie2, Sem.run_ite, if_neg (show ¬ len * n > 2 ^ 24 by omega), Sem.run_pure, if_neg h0, run_zero hi hzv, hcyc, h1', newRow, run_newObj, List.append_nil]
            rfl
        · exact ⟨rfl, by simp [hlen]⟩
      · simp at hc
    · simp at hc
  · simp at hc

end
end Go.RM

/-
  More operations.
-/
namespace Go.RM
set_option linter.unusedSimpArgs false

variable {P : Program}

section
variable {ρ : Operand → Value} {o : Oper} {n0 base fl : Nat} {m : BMap} {H H' : Heap} {w : World} {X : RX → AV} {res : Operand → Option RX} {r : ROp} {v : AV} {call : Nat → Nat → List AV → Heap → Option (AV × Heap)} {free : Bool} {ap : List RX}

theorem op_move {x : Operand} (ho : o.op = .move x ∨ o.op = .assign x) (hc : (res x).map ROp.move = some r) (hr : rop call fl free X H r = some (v, H'))
    (hX : ∀ x rx, res x = some rx → VRel m (X rx) (ρ x)) (hs : Sim n0 base m H w) : OpOk P ρ o n0 base fl m H w v H' := by
  simp only [Option.map_eq_some_iff] at hc
  obtain ⟨rx, h1, rfl⟩ := hc
  simp only [rop, Option.some.injEq, Prod.mk.injEq] at hr
  obtain ⟨rfl, rfl⟩ := hr
  refine ok_value hs (v' := ρ x) ?_ (hX _ _ h1)
  rcases ho with ho | ho <;> simp only [execOp, ho, Sem.run_pure]

theorem op_pick {c a b : Operand} (ho : o.op = .pick c a b) (hc : compileOp P res ap (.pick c a b) = some r) (hr : rop call fl free X H r = some (v, H'))
    (hX : ∀ x rx, res x = some rx → VRel m (X rx) (ρ x)) (hs : Sim n0 base m H w) : OpOk P ρ o n0 base fl m H w v H' := by
  simp only [compileOp] at hc
  split at hc
  · rename_i rc ra rb h1 h2 h3
    simp only [Option.some.injEq] at hc; subst hc
    have hv := hX _ _ h1
    simp only [rop] at hr
    split at hr
    · rename_i t hb
      simp only [Option.some.injEq, Prod.mk.injEq] at hr
      obtain ⟨rfl, rfl⟩ := hr
      rw [hb] at hv
      cases t with
      | true =>
        refine ok_value hs (v' := ρ a) ?_ (by rw [pickV_true]; exact hX _ _ h2)
        simp only [execOp, ho, hv.bool_inv, asBool, Sem.run_bind, Sem.run_pure, Result.andThen_ok, if_true]
      | false =>
        refine ok_value hs (v' := ρ b) ?_ (by rw [pickV_false]; exact hX _ _ h3)
        simp only [execOp, ho, hv.bool_inv, asBool, Sem.run_bind, Sem.run_pure, Result.andThen_ok, Bool.false_eq_true, if_false]
    · simp at hr
  · simp at hc

theorem op_load {t : TypeId} {x : Operand} (ho : o.op = .load t x) (hc : compileOp P res ap (.load t x) = some r) (hr : rop call fl free X H r = some (v, H'))
    (hX : ∀ x rx, res x = some rx → VRel m (X rx) (ρ x)) (hs : Sim n0 base m H w) : OpOk P ρ o n0 base fl m H w v H' := by
  simp only [compileOp] at hc
  split at hc
  · rename_i sz rx h1 h2
    simp only [Option.some.injEq] at hc; subst hc
    have hv := hX _ _ h2
    simp only [rop] at hr
    split at hr
    · rename_i b off hb
      simp only [Option.map_eq_some_iff, Prod.mk.injEq] at hr
      obtain ⟨v0, hl, rfl, rfl⟩ := hr
      rw [hb] at hv
      obtain ⟨l, hm, hx⟩ := hv
      obtain ⟨cv, hrun, hrel⟩ := run_loadVar_rel (P := P) hs h1 hl hm
      refine ok_value hs (v' := cv) ?_ hrel
      simp only [execOp, ho, hx, Instr.loadAt, Instr.sureAddr, Sem.run_bind, Sem.run_pure, Result.andThen_ok, hrun]
    · simp at hr
  · simp at hc

theorem op_store {t : TypeId} {x y : Operand} (ho : o.op = .store t x y) (hc : compileOp P res ap (.store t x y) = some r) (hr : rop call fl free X H r = some (v, H'))
    (hX : ∀ x rx, res x = some rx → VRel m (X rx) (ρ x)) (hs : Sim n0 base m H w) (hfl : n0 ≤ fl) : OpOk P ρ o n0 base fl m H w v H' := by
  simp only [compileOp] at hc
  split at hc
  · rename_i n rx ry h1 h2 h3
    simp only [Option.some.injEq] at hc; subst hc
    have hv := hX _ _ h2
    have hy := hX _ _ h3
    simp only [rop] at hr
    split at hr
    · rename_i b off hb
      split at hr
      · rename_i hn
        simp only [Option.map_eq_some_iff, Prod.mk.injEq] at hr
        obtain ⟨H1, hp, rfl, rfl⟩ := hr
        rw [hb] at hv
        obtain ⟨l, hm, hx⟩ := hv
        obtain ⟨w', hrun, hst⟩ := run_storeVar_rel (P := P) hs hfl h1 hp hn.1 hm hy.cells
        refine ⟨Go.undef, w', m, .inr ⟨?_, rfl⟩, VRel.undef m, hst⟩
        simp only [execOp, ho, hx, Instr.storeAt, Instr.sureAddr, Sem.run_bind, Sem.run_pure, Result.andThen_ok, hrun]
      · simp at hr
    · simp at hr
  · simp at hc

theorem op_nilCheck {x : Operand} (ho : o.op = .nilCheck x) (hc : compileOp P res ap (.nilCheck x) = some r) (hr : rop call fl free X H r = some (v, H'))
    (hX : ∀ x rx, res x = some rx → VRel m (X rx) (ρ x)) (hs : Sim n0 base m H w) : OpOk P ρ o n0 base fl m H w v H' := by
  simp only [compileOp, Option.map_eq_some_iff] at hc
  obtain ⟨rx, h1, rfl⟩ := hc
  have hv := hX _ _ h1
  simp only [rop] at hr
  split at hr
  · rename_i b off hb
    simp only [Option.some.injEq, Prod.mk.injEq] at hr
    obtain ⟨rfl, rfl⟩ := hr
    rw [hb] at hv
    obtain ⟨l, hm, hx⟩ := hv
    refine ok_value hs (v' := ρ x) ?_ ⟨l, hm, hx⟩
    simp only [execOp, ho, hx, Sem.run_pure]
  · rename_i f caps hb
    simp only [Option.some.injEq, Prod.mk.injEq] at hr
    obtain ⟨rfl, rfl⟩ := hr
    rw [hb] at hv
    obtain ⟨cs, hx, hcs⟩ := hv
    refine ok_value hs (v' := ρ x) ?_ ⟨cs, hx, hcs⟩
    simp only [execOp, ho, hx, Sem.run_pure]
  · simp at hr

theorem op_bin {op : BinOp} {t t2 : TypeId} {x y : Operand} (ho : o.op = .binOp op t x y t2) (hc : compileOp P res ap (.binOp op t x y t2) = some r) (hr : rop call fl free X H r = some (v, H'))
    (hX : ∀ x rx, res x = some rx → VRel m (X rx) (ρ x)) (hs : Sim n0 base m H w) : OpOk P ρ o n0 base fl m H w v H' := by
  simp only [compileOp] at hc
  split at hc
  · rename_i ra rb h1 h2
    simp only [Option.some.injEq] at hc; subst hc
    simp only [rop, Option.map_eq_some_iff, Prod.mk.injEq] at hr
    obtain ⟨v0, hb, rfl, rfl⟩ := hr
    obtain ⟨h3, h4⟩ := binV_run (P := P) hb (hX _ _ h1) (hX _ _ h2) x y w
    refine ok_value hs (v' := toV v0) ?_ (h4 m)
    simp only [execOp, ho]
    rw [Sem.run_bind, h3]
    rfl
  · simp at hc

theorem op_un {op : UnOp} {t : TypeId} {x : Operand} (ho : o.op = .unOp op t x) (hc : compileOp P res ap (.unOp op t x) = some r) (hr : rop call fl free X H r = some (v, H'))
    (hX : ∀ x rx, res x = some rx → VRel m (X rx) (ρ x)) (hs : Sim n0 base m H w) : OpOk P ρ o n0 base fl m H w v H' := by
  simp only [compileOp, Option.map_eq_some_iff] at hc
  obtain ⟨rx, h1, rfl⟩ := hc
  have hv := hX _ _ h1
  simp only [rop, Option.map_eq_some_iff, Prod.mk.injEq] at hr
  obtain ⟨v0, hb, rfl, rfl⟩ := hr
  unfold unV at hb
  split at hb
  · rename_i k n hx
    rw [hx] at hv
    cases op <;> simp only [Option.some.injEq, reduceCtorEq] at hb
    · subst hb
      refine ok_value hs (v' := .int k (k.wrap (0 - n))) ?_ rfl
      simp only [execOp, ho, hv.int_inv, Op.unary, Op.intArith, Sem.run_bind, Sem.run_pure, Result.andThen_ok]
    · subst hb
      refine ok_value hs (v' := .int k (k.wrap (BitVec.ofInt k.bits (if k.signed then -1 else k.max) ^^^ BitVec.ofInt k.bits n).toNat)) ?_ rfl
      simp only [execOp, ho, hv.int_inv, Op.unary, Op.intBits, Sem.run_bind, Sem.run_pure, Result.andThen_ok]
  · rename_i b hx
    rw [hx] at hv
    cases op <;> simp only [Option.some.injEq, reduceCtorEq] at hb
    subst hb
    refine ok_value hs (v' := .bool (!b)) ?_ rfl
    simp only [execOp, ho, hv.bool_inv, Op.unary, Sem.run_bind, Sem.run_pure, Result.andThen_ok]
  · simp at hb

theorem op_convert {t u : TypeId} {x : Operand} (ho : o.op = .convert t u x) (hc : compileOp P res ap (.convert t u x) = some r) (hr : rop call fl free X H r = some (v, H'))
    (hX : ∀ x rx, res x = some rx → VRel m (X rx) (ρ x)) (hs : Sim n0 base m H w) : OpOk P ρ o n0 base fl m H w v H' := by
  simp only [compileOp] at hc
  split at hc
  · rename_i k0 k rx hu1 hu2 h1
    simp only [Option.some.injEq] at hc; subst hc
    have hv := hX _ _ h1
    simp only [rop] at hr
    split at hr
    · rename_i k1 n hb
      simp only [Option.some.injEq, Prod.mk.injEq] at hr
      obtain ⟨rfl, rfl⟩ := hr
      rw [hb] at hv
      refine ok_value hs (v' := .int k (k.wrap n)) ?_ rfl
      simp only [execOp, ho, hv.int_inv, convert, Sem.run_bind, run_und hu1, run_und hu2, Result.andThen_ok, Conv.intToInt, Sem.run_pure]
    · simp at hr
  · simp at hc

theorem op_makeFunc {f : Fn} {first caps : Array Operand} (ho : o.op = .makeFunc f first caps) (hc : compileOp P res ap (.makeFunc f first caps) = some r) (hr : rop call fl free X H r = some (v, H'))
    (hX : ∀ x rx, res x = some rx → VRel m (X rx) (ρ x)) (hs : Sim n0 base m H w) : OpOk P ρ o n0 base fl m H w v H' := by
  cases f <;> simp only [compileOp, reduceCtorEq] at hc
  rename_i f
  split at hc
  · rename_i hf
    simp only [Option.map_eq_some_iff] at hc
    obtain ⟨l, h1, rfl⟩ := hc
    simp only [rop, Option.some.injEq, Prod.mk.injEq] at hr
    obtain ⟨rfl, rfl⟩ := hr
    have hl := resL_rel hX h1
    refine ok_value hs (v' := .func (.func f) #[] ⟨caps.toList.map ρ⟩) ?_ ⟨_, rfl, hl⟩
    have hf0 : first = #[] := Array.eq_empty_of_size_eq_zero hf
    subst hf0
    simp only [execOp, ho, Instr.makeFunc, Sem.run_bind, Sem.run_pure, Result.andThen_ok]
    have : Array.map ρ caps = ⟨caps.toList.map ρ⟩ := by rw [← Array.toList_inj]; simp
    rw [this, Array.map_empty]
  · simp at hc

theorem wrap_id {l : Int} (h0 : 0 ≤ l) (h1 : l < 2 ^ 62) : IntKind.i64.wrap l = l := by
  unfold IntKind.wrap
  simp only [IntKind.bits, IntKind.signed]
  have : l % (2 ^ 64 : Int) = l := Int.emod_eq_of_lt h0 (by omega)
  simp only [this]
  rw [if_neg]
  simp
  omega

theorem op_makeSlice {t : TypeId} {x y : Operand} (ho : o.op = .makeSlice t x y) (hc : compileOp P res ap (.makeSlice t x y) = some r) (hr : rop call fl free X H r = some (v, H'))
    (hX : ∀ x rx, res x = some rx → VRel m (X rx) (ρ x)) (hs : Sim n0 base m H w) (hn : m H.length = none) : OpOk P ρ o n0 base fl m H w v H' := by
  simp only [compileOp] at hc
  split at hc
  · rename_i e hu
    split at hc
    · rename_i n b z rx ry hsz hby hz h1 h2
      split at hc
      · rename_i hcond
        obtain ⟨c1, c2⟩ := hcond
        simp only [Option.some.injEq] at hc; subst hc
        have hx := hX _ _ h1
        have hy := hX _ _ h2
        simp only [rop] at hr
        split at hr
        · rename_i l c hl hcc
          split at hr
          · rename_i hb
            obtain ⟨b1, b2, b3, b4⟩ := hb
            simp only [Option.some.injEq, Prod.mk.injEq] at hr
            obtain ⟨rfl, rfl⟩ := hr
            rw [hl] at hx
            rw [hcc] at hy
            obtain ⟨i, zv, hi, hzv, hcz⟩ := zeroOf_info hz
            obtain ⟨ie, hie, hie2⟩ := szOf_info hsz
            obtain ⟨ib, hib, hib2⟩ := bytesOf_info hby
            rw [hi] at hie hib; cases hie; cases hib
            have hzl : zv.cells.toList.length = n := by rw [← (ofConsts_rel m hcz).length]; exact c2
            have hlen : ((List.replicate c.toNat zv.cells.toList).flatten).length = c.toNat * n := by simp [hzl]
            have hcap : (c.toNat : Int) = c := by omega
            refine ok_push (cs := (List.replicate c.toNat zv.cells.toList).flatten) (rest := []) (t := e) hs hn rfl (VRels.flatten (ofConsts_rel m hcz) c.toNat)
              (v' := .slice (some ⟨w.heap.size, 0, none⟩) l.toNat c.toNat) ?_ fun m' hm' => ⟨_, _, rfl, by omega, _, hm', ⟨rfl, by simp [hlen]⟩, .inl (by simp)⟩
            have w1 : IntKind.i64.wrap l = l := wrap_id b1 (by omega)
            have w2 : IntKind.i64.wrap c = c := wrap_id (by omega) b4
            have hnb : (decide (c < 0) || decide ((b : Int) * c > 2 ^ 48)) = false := by
              simp only [Bool.or_eq_false_iff, decide_eq_false_iff_not]
              omega
            have hcond2 : ((decide (c < 0) || decide ((i.bytes : Int) * c > 2 ^ 48) || decide (l < 0) || decide (l > c)) = true) = False := by
              simp only [hib2, hnb, Bool.false_or, Bool.or_eq_true, decide_eq_true_eq, eq_iff_iff, iff_false]
              omega
            by_cases h0 : c.toNat * n = 0
            · have : c.toNat = 0 := by
                rcases Nat.mul_eq_zero.1 h0 with h | h
                · exact h
                · omega
              simp only [execOp, ho, hx.int_inv, hy.int_inv, Instr.makeSlice, Sem.run_bind, run_und hu, run_asInt, run_info hi, Result.andThen_ok, w1, w2, hcond2, if_false, run_askRoom, run_size hi, hie2, Sem.run_ite, if_pos h0, Sem.run_pure, newRow, run_newObj]
              have hA : (Array.range (c.toNat * n)).map (fun j => (#[] : Array Value)[j % (#[] : Array Value).size]!) = ((List.replicate c.toNat zv.cells.toList).flatten ++ []).toArray := by rw [h0, this]; simp
              rw [hA]
              rfl
            · have hcyc : (Array.range (c.toNat * n)).map (fun j => zv.cells[j % zv.cells.size]!) = ⟨(List.replicate c.toNat zv.cells.toList).flatten⟩ := by
                rw [← Array.toList_inj]
                have := zero_cycle zv.cells.toList c.toNat (by omega)
                rw [hzl] at this
                simpa using this
              simp only [execOp, ho, hx.int_inv, hy.int_inv, Instr.makeSlice, Sem.run_bind, run_und hu, run_asInt, run_info hi, Result.andThen_ok, w1, w2, hcond2, if_false, run_askRoom, run_size hi, hie2, Sem.run_ite, if_neg h0, run_zero hi hzv, Sem.run_pure, hcyc, newRow, run_newObj, List.append_nil]
              rfl
          · simp at hr
        · simp at hr
      · simp at hc
    · simp at hc
  · simp at hc

theorem op_fieldAddr {t : TypeId} {x : Operand} {f : Nat} (ho : o.op = .fieldAddr t x f) (hc : compileOp P res ap (.fieldAddr t x f) = some r) (hr : rop call fl free X H r = some (v, H'))
    (hX : ∀ x rx, res x = some rx → VRel m (X rx) (ρ x)) (hs : Sim n0 base m H w) : OpOk P ρ o n0 base fl m H w v H' := by
  simp only [compileOp] at hc
  split at hc
  · rename_i fs hu
    split at hc
    · rename_i fd hf
      split at hc
      · rename_i n rx hsz h1
        split at hc
        · rename_i hn
          simp only [Option.some.injEq] at hc; subst hc
          have hv := hX _ _ h1
          simp only [rop] at hr
          split at hr
          · rename_i b off hb
            simp only [Option.some.injEq, Prod.mk.injEq] at hr
            obtain ⟨rfl, rfl⟩ := hr
            rw [hb] at hv
            obtain ⟨l, hm, hx⟩ := hv
            obtain ⟨i, hi, hi2⟩ := szOf_info hsz
            refine ok_value hs (v' := .pointer (some ⟨l.cb, l.co + (off + fd.offset), none⟩)) ?_ ⟨l, hm, rfl⟩
            simp only [execOp, ho, hx, Instr.fieldAt, Sem.run_bind, run_und hu, hf, Instr.sureAddr, Sem.run_pure, Result.andThen_ok, fieldPlace, run_size hi, hi2, Sem.run_ite, if_neg (show ¬ n = 0 by omega), add_mk, Nat.add_assoc]
          · simp at hr
        · simp at hc
      · simp at hc
    · simp at hc
  · simp at hc

theorem op_field {t : TypeId} {x : Operand} {f : Nat} (ho : o.op = .field t x f) (hc : compileOp P res ap (.field t x f) = some r) (hr : rop call fl free X H r = some (v, H'))
    (hX : ∀ x rx, res x = some rx → VRel m (X rx) (ρ x)) (hs : Sim n0 base m H w) : OpOk P ρ o n0 base fl m H w v H' := by
  simp only [compileOp] at hc
  split at hc
  · rename_i fs hu
    split at hc
    · rename_i fd hf
      split at hc
      · rename_i sz rx hsz h1
        simp only [Option.some.injEq] at hc; subst hc
        have hv := hX _ _ h1
        simp only [rop] at hr
        split at hr
        · rename_i cs hb
          rw [hb] at hv
          obtain ⟨vs, hx, hrel⟩ := hv
          simp only [Option.map_eq_some_iff, Prod.mk.injEq] at hr
          obtain ⟨v0, hk, rfl, rfl⟩ := hr
          obtain ⟨cv, hrun, hcv⟩ := run_part_rel (P := P) hsz hrel hk w
          refine ok_value hs (v' := cv) ?_ hcv
          simp only [execOp, ho, hx, Instr.field, Sem.run_bind, run_und hu, hf, asAgg, Sem.run_pure, Result.andThen_ok, hrun]
        · simp at hr
      · simp at hc
    · simp at hc
  · simp at hc

theorem op_indexAddr {t : TypeId} {x y : Operand} (ho : o.op = .indexAddr t x y) (hc : compileOp P res ap (.indexAddr t x y) = some r) (hr : rop call fl free X H r = some (v, H'))
    (hX : ∀ x rx, res x = some rx → VRel m (X rx) (ρ x)) (hs : Sim n0 base m H w) : OpOk P ρ o n0 base fl m H w v H' := by
  simp only [compileOp] at hc
  split at hc
  · rename_i e hu
    split at hc
    · rename_i n rx ry hsz h1 h2
      simp only [Option.some.injEq] at hc; subst hc
      have hx := hX _ _ h1
      have hy := hX _ _ h2
      obtain ⟨i, hi, hi2⟩ := szOf_info hsz
      simp only [rop] at hr
      split at hr
      · rename_i b off len lim k j hb hj
        split at hr
        · rename_i hjb
          simp only [Option.some.injEq, Prod.mk.injEq] at hr
          obtain ⟨rfl, rfl⟩ := hr
          rw [hb] at hx
          rw [hj] at hy
          obtain ⟨a, cap, hxv, hcap, l, hm, _, ha⟩ := hx
          rcases ha with ha | h0
          · refine ok_value hs (v' := .pointer (some ⟨l.cb, l.co + (off + j.toNat * n), none⟩)) ?_ ⟨l, hm, rfl⟩
            simp only [execOp, ho, hxv, hy.int_inv, ha, Instr.indexAt, Sem.run_bind, run_asIntOf, run_und hu, Sem.run_pure, Result.andThen_ok, Sem.run_ite, if_pos hjb, run_size hi, hi2, add_mk, Nat.add_assoc]
          · omega
        · simp at hr
      · simp at hr
    · simp at hc
  · rename_i len e hu
    split at hc
    · rename_i n rx ry hsz h1 h2
      simp only [Option.some.injEq] at hc; subst hc
      have hx := hX _ _ h1
      have hy := hX _ _ h2
      obtain ⟨i, hi, hi2⟩ := szOf_info hsz
      simp only [rop] at hr
      split at hr
      · rename_i b off k j hb hj
        split at hr
        · rename_i hjb
          simp only [Option.some.injEq, Prod.mk.injEq] at hr
          obtain ⟨rfl, rfl⟩ := hr
          rw [hb] at hx
          rw [hj] at hy
          obtain ⟨l, hm, hxv⟩ := hx
          refine ok_value hs (v' := .pointer (some ⟨l.cb, l.co + (off + j.toNat * n), none⟩)) ?_ ⟨l, hm, rfl⟩
          simp only [execOp, ho, hxv, hy.int_inv, Instr.indexAt, Instr.sureAddr, Sem.run_bind, run_asIntOf, run_und hu, Sem.run_pure, Result.andThen_ok, Sem.run_ite, if_pos hjb, run_size hi, hi2, add_mk, Nat.add_assoc]
        · simp at hr
      · simp at hr
    · simp at hc
  · simp at hc

theorem op_index {t : TypeId} {x y : Operand} (ho : o.op = .index t x y) (hc : compileOp P res ap (.index t x y) = some r) (hr : rop call fl free X H r = some (v, H'))
    (hX : ∀ x rx, res x = some rx → VRel m (X rx) (ρ x)) (hs : Sim n0 base m H w) : OpOk P ρ o n0 base fl m H w v H' := by
  simp only [compileOp] at hc
  split at hc
  · rename_i hu
    split at hc
    · rename_i rx ry h1 h2
      simp only [Option.some.injEq] at hc; subst hc
      have hx := hX _ _ h1
      have hy := hX _ _ h2
      simp only [rop] at hr
      split at hr
      · rename_i s k j hb hj
        split at hr
        · rename_i c hcc
          simp only [Option.some.injEq, Prod.mk.injEq] at hr
          obtain ⟨rfl, rfl⟩ := hr
          rw [hb] at hx
          rw [hj] at hy
          refine ok_value hs (v' := .int .u8 c.toNat) ?_ rfl
          simp only [execOp, ho, hx.str_inv, hy.int_inv, Instr.index, Sem.run_bind, run_asIntOf, run_und hu, Result.andThen_ok, hcc, Sem.run_pure]
        · simp at hr
      · simp at hr
    · simp at hc
  · rename_i len e hu
    split at hc
    · rename_i n sz rx ry hsz hag h1 h2
      simp only [Option.some.injEq] at hc; subst hc
      have hx := hX _ _ h1
      have hy := hX _ _ h2
      obtain ⟨i, hi, hi2⟩ := szOf_info hsz
      simp only [rop] at hr
      split at hr
      · rename_i cs k j hb hj
        split at hr
        · rename_i hjb
          simp only [Option.map_eq_some_iff, Prod.mk.injEq] at hr
          obtain ⟨v0, hk, rfl, rfl⟩ := hr
          rw [hb] at hx
          rw [hj] at hy
          obtain ⟨vs, hxv, hrel⟩ := hx
          obtain ⟨cv, hrun, hcv⟩ := run_part_rel (P := P) hag hrel hk w
          refine ok_value hs (v' := cv) ?_ hcv
          simp only [execOp, ho, hxv, hy.int_inv, Instr.index, Sem.run_bind, run_asIntOf, run_und hu, Sem.run_pure, Result.andThen_ok, Sem.run_ite, if_pos hjb, run_size hi, hi2, hrun]
        · simp at hr
      · simp at hr
    · simp at hc
  · simp at hc

theorem op_extract {x : Operand} {i : Nat} (ho : o.op = .extract x i) (hc : compileOp P res ap (.extract x i) = some r) (hr : rop call fl free X H r = some (v, H'))
    (hX : ∀ x rx, res x = some rx → VRel m (X rx) (ρ x)) (hs : Sim n0 base m H w) : OpOk P ρ o n0 base fl m H w v H' := by
  simp only [compileOp, Option.map_eq_some_iff] at hc
  obtain ⟨rx, h1, rfl⟩ := hc
  have hv := hX _ _ h1
  simp only [rop] at hr
  split at hr
  · rename_i vs hb
    simp only [Option.map_eq_some_iff, Prod.mk.injEq] at hr
    obtain ⟨v0, h2, rfl, rfl⟩ := hr
    rw [hb] at hv
    obtain ⟨cs, hx, hrel⟩ := hv
    obtain ⟨cv, h3, h4⟩ := hrel.get i v0 h2
    refine ok_value hs (v' := cv) ?_ h4
    have h5 : (⟨cs⟩ : Array Value)[i]? = some cv := by simpa using h3
    simp only [execOp, ho, hx, Instr.extract, h5, Sem.run_bind, Sem.run_pure, Result.andThen_ok]
  · simp at hr

end
end Go.RM

/-
  Slices of slices and of strings; len, min, max, copy, clear.
-/
namespace Go.RM
set_option linter.unusedSimpArgs false

variable {P : Program}

section
variable {ρ : Operand → Value} {o : Oper} {n0 base fl : Nat} {m : BMap} {H H' : Heap} {w : World} {X : RX → AV} {res : Operand → Option RX} {r : ROp} {v : AV} {call : Nat → Nat → List AV → Heap → Option (AV × Heap)} {free : Bool} {ap : List RX}

theorem optX_rel (hX : ∀ x rx, res x = some rx → VRel m (X rx) (ρ x)) {x : Option Operand} {r : Option RX} (h : optX res x = some r) :
    (x = none ∧ r = none) ∨ ∃ y rx, x = some y ∧ r = some rx ∧ VRel m (X rx) (ρ y) := by
  cases x with
  | none => simp only [optX, Option.some.injEq] at h; exact .inl ⟨rfl, h.symm⟩
  | some y =>
    simp only [optX, Option.map_eq_some_iff] at h
    obtain ⟨rx, h1, rfl⟩ := h
    exact .inr ⟨y, rx, rfl, rfl, hX _ _ h1⟩

/-- A bound, where there is one, and what it is in the model. -/
theorem bound_rel (hX : ∀ x rx, res x = some rx → VRel m (X rx) (ρ x)) {x : Option Operand} {r : Option RX} (h : optX res x = some r) {d n : Nat} (hb : boundOf (r.map X) d = some n) :
    (x = none ∧ r = none ∧ n = d) ∨ ∃ y k i, x = some y ∧ r.isSome = true ∧ ρ y = .int k i ∧ 0 ≤ i ∧ i.toNat = n := by
  rcases optX_rel hX h with ⟨rfl, rfl⟩ | ⟨y, rx, rfl, rfl, hv⟩
  · simp only [Option.map_none, boundOf, Option.some.injEq] at hb
    exact .inl ⟨rfl, rfl, hb.symm⟩
  · simp only [Option.map_some] at hb
    unfold boundOf at hb
    split at hb
    · rename_i he; simp at he
    · rename_i k i he
      split at hb
      · rename_i h0
        simp only [Option.some.injEq] at hb he
        rw [he] at hv
        exact .inr ⟨y, k, i, rfl, rfl, hv.int_inv, h0, hb⟩
      · simp at hb
    · simp at hb

theorem run_sliceBound {v : Value} {k : IntKind} {i : Int} {y n : Nat} (hv : v = .int k i) (h0 : 0 ≤ i) (hn : i.toNat = n) (hy : n ≤ y) (c : BoundsCode) (w : World) : (Instr.sliceBound v y c).run P w = .ok n w := by
  subst hv
  simp only [Instr.sliceBound, Sem.run_bind, run_asIntOf, Result.andThen_ok, Sem.run_ite, if_pos (show 0 ≤ i ∧ i ≤ (y : Int) by omega), Sem.run_pure, hn]

/-- The three bounds of a slice expression, reckoned. -/
theorem run_sliceBounds (hX : ∀ x rx, res x = some rx → VRel m (X rx) (ρ x)) {lo hi mx : Option Operand} {rl rh rm : Option RX}
    (h1 : optX res lo = some rl) (h2 : optX res hi = some rh) (h3 : optX res mx = some rm) (hmx : mx.isSome = true → hi.isSome = true) {len cap l h q : Nat} {isS : Bool}
    (b1 : boundOf (rl.map X) 0 = some l) (b2 : boundOf (rh.map X) len = some h) (b3 : mx.isSome = true → boundOf (rm.map X) 0 = some q) (b4 : mx = none → q = cap)
    (c1 : l ≤ h) (c2 : h ≤ q) (c3 : q ≤ cap) (w : World) : (Instr.sliceBounds isS len cap (lo.map ρ) (hi.map ρ) (mx.map ρ)).run P w = .ok (l, h, q) w := by
  have e1 := bound_rel hX h1 b1
  have e2 := bound_rel hX h2 b2
  cases mx with
  | none =>
    have hq := b4 rfl
    subst hq
    rcases e1 with ⟨rfl, _, rfl⟩ | ⟨y, k, i, rfl, _, hy, hi0, hin⟩ <;> rcases e2 with ⟨rfl, _, rfl⟩ | ⟨y', k', i', rfl, _, hy', hi0', hin'⟩
    · simp [Instr.sliceBounds]
    · simp [Instr.sliceBounds, run_sliceBound hy' hi0' hin' c2]
    · simp [Instr.sliceBounds, run_sliceBound hy hi0 hin c1]
    · simp [Instr.sliceBounds, run_sliceBound hy' hi0' hin' c2, run_sliceBound hy hi0 hin c1]
  | some mx =>
    have e3 := bound_rel hX h3 (b3 rfl)
    rcases e3 with ⟨h, _⟩ | ⟨y3, k3, i3, h3', _, hy3, hi3, hin3⟩
    · simp at h
    · simp only [Option.some.injEq] at h3'
      subst h3'
      rcases e2 with ⟨rfl, _, rfl⟩ | ⟨y', k', i', rfl, _, hy', hi0', hin'⟩
      · simp at hmx
      · rcases e1 with ⟨rfl, _, rfl⟩ | ⟨y, k, i, rfl, _, hy, hi0, hin⟩
        · simp [Instr.sliceBounds, run_sliceBound hy' hi0' hin' c2, run_sliceBound hy3 hi3 hin3 c3]
        · simp [Instr.sliceBounds, run_sliceBound hy' hi0' hin' c2, run_sliceBound hy3 hi3 hin3 c3, run_sliceBound hy hi0 hin c1]

theorem op_slice {t : TypeId} {x : Operand} {lo hi mx : Option Operand} (ho : o.op = .slice t x lo hi mx) (hc : compileOp P res ap (.slice t x lo hi mx) = some r) (hr : rop call fl free X H r = some (v, H'))
    (hX : ∀ x rx, res x = some rx → VRel m (X rx) (ρ x)) (hs : Sim n0 base m H w) : OpOk P ρ o n0 base fl m H w v H' := by
  simp only [compileOp] at hc
  split at hc
  · rename_i e rx rl rh rm hu h1 hl hh hm
    split at hc
    · simp at hc
    · rename_i hmh
      simp only [Option.map_eq_some_iff] at hc
      obtain ⟨n, hsz, rfl⟩ := hc
      obtain ⟨i, hi', hi2⟩ := szOf_info hsz
      have hmx : mx.isSome = true → hi.isSome = true := fun h => by
        rcases optX_rel hX hm with ⟨rfl, rfl⟩ | ⟨_, _, rfl, rfl, _⟩
        · simp at h
        · rcases optX_rel hX hh with ⟨rfl, rfl⟩ | ⟨_, _, rfl, rfl, _⟩
          · simp at hmh
          · rfl
      have hms : mx.isSome = rm.isSome := by
        rcases optX_rel hX hm with ⟨rfl, rfl⟩ | ⟨_, _, rfl, rfl, _⟩ <;> rfl
      have hx := hX _ _ h1
      simp only [rop, Option.map_eq_some_iff, Prod.mk.injEq] at hr
      obtain ⟨v0, hv, rfl, rfl⟩ := hr
      have hexec : ∀ (a : Option Addr) (len cap l h q : Nat), ρ x = .slice a len cap → (Instr.sliceBounds true len cap (lo.map ρ) (hi.map ρ) (mx.map ρ)).run P w = .ok (l, h, q) w →
          (execOp ρ o).run P w = .ok (.value (.slice (if q = l then a else a.map (·.add (l * n))) (h - l) (q - l))) w := fun a len cap l h q hxv hb => by
        simp only [execOp, ho, Instr.sliceAt, Sem.run_bind, run_und hu, Result.andThen_ok, Instr.slice, hxv, hb, run_size hi', hi2, Sem.run_pure]
      have bmx : ∀ d q, boundOf (rm.map X) d = some q → rm.isSome = true → boundOf (rm.map X) 0 = some q := fun d q h hs => by
        cases rm with
        | none => simp at hs
        | some rm => rw [← h]; simp only [Option.map_some]; cases X rm <;> rfl
      unfold rslice at hv
      split at hv
      · rename_i hxe
        rw [hxe] at hx
        obtain ⟨a, hxv⟩ := hx
        split at hv
        · rename_i g1 g2 g3
          simp only [Option.some.injEq] at hv; subst hv
          have hb := run_sliceBounds (P := P) (isS := true) hX hl hh hm hmx (len := 0) (cap := 0) g1 g2 (fun h => bmx _ _ g3 (by rw [← hms]; exact h)) (fun _ => rfl) (Nat.le_refl 0) (Nat.le_refl 0) (Nat.le_refl 0) w
          exact ok_value hs (hexec a 0 0 0 0 0 hxv hb) ⟨a, by simp⟩
        · simp at hv
      · rename_i b off len lim hxe
        rw [hxe] at hx
        obtain ⟨a, cap, hxv, hcap, ll, hml, hco, haa⟩ := hx
        split at hv
        · rename_i l h q g1 g2 g3
          split at hv
          · rename_i hcond
            obtain ⟨d1, d2', d3, d4⟩ := hcond
            simp only [Option.some.injEq] at hv; subst hv
            have hlim : lim.getD len ≤ cap := by
              cases lim with
              | none => exact hcap
              | some c => simp [hco.1]
            -- the bound that the model takes: the third one, or the capacity
            obtain ⟨Q, hQs, hQn⟩ : ∃ Q, (mx.isSome = true → Q = q) ∧ (mx = none → Q = cap) := by
              cases mx with
              | none => exact ⟨cap, by simp, fun _ => rfl⟩
              | some _ => exact ⟨q, fun _ => rfl, by simp⟩
            have hq : mx = none → q = lim.getD len := fun h => by
              have : rm = none := by rw [h] at hms; cases rm <;> simp at hms ⊢
              subst this
              simp only [Option.map_none, boundOf, Option.some.injEq] at g3
              exact g3.symm
            have hqQ : q ≤ Q := by
              cases mx with
              | none => rw [hQn rfl, hq rfl]; exact hlim
              | some _ => rw [hQs rfl]; exact Nat.le_refl _
            have d2 : h ≤ Q := by
              rcases d2' with d2 | hup
              · omega
              · unfold upB at hup
                simp only [Bool.and_eq_true, Option.isNone_iff_eq_none, Option.map_eq_none_iff] at hup
                obtain ⟨⟨⟨_, hm0⟩, hl0⟩, hk⟩ := hup
                have hmx0 : mx = none := by rw [hm0] at hms; cases mx <;> simp at hms ⊢
                rw [hQn hmx0]
                subst hl0
                split at hk
                · rename_i k hact
                  simp only [Bool.and_eq_true, decide_eq_true_eq] at hk
                  obtain ⟨⟨k1, k2⟩, k3⟩ := hk
                  obtain ⟨c1, c2, _⟩ := hs.cells b k ll hact hml
                  have hco' : off + cap * ll.e = ll.room := hco
                  rw [c1, k1] at hco'
                  exact Nat.le_of_mul_le_mul_right (show h * n ≤ cap * n by omega) k2
                · simp at hk
            have hQc : Q ≤ cap := by
              cases mx with
              | none => rw [hQn rfl]; exact Nat.le_refl _
              | some _ => rw [hQs rfl]; omega
            have hb := run_sliceBounds (P := P) (isS := true) hX hl hh hm hmx (len := len) (cap := cap) (q := Q) g1 g2 (fun h => by rw [hQs h]; exact bmx _ _ g3 (by rw [← hms]; exact h)) hQn d1 (by omega) hQc w
            refine ok_value hs (hexec a len cap l h Q hxv hb) ⟨_, _, rfl, by omega, ?_⟩
            have hboth : (rm.isSome || lim.isSome) = true → q = Q := fun h => by
              cases mx with
              | some _ => rw [hQs rfl]
              | none =>
                have hr0 : rm = none := by cases rm <;> simp at hms ⊢
                subst hr0
                cases lim with
                | none => simp at h
                | some c =>
                  rw [hQn rfl, hq rfl]
                  simp [hco.1]
            have hle : l = 0 ∨ ll.e = n := by
              rcases d4 with h | h
              · exact .inl h
              · right
                simp only [Option.map_eq_some_iff] at h
                obtain ⟨kb, hkb, hke⟩ := h
                rw [hs.es b kb ll hkb hml, hke]
            have hoff : ∀ x, l ≤ x → off + l * n + (x - l) * ll.e = off + x * ll.e := fun x hx => by
              rcases hle with h | h
              · subst h; simp
              · rw [h, Nat.add_assoc, ← Nat.add_mul]; congr 2; omega
            refine ⟨ll, hml, ?_, ?_⟩
            · split
              · rename_i hsome
                have hqe := hboth (by simpa using hsome)
                refine ⟨by omega, ?_⟩
                rw [hoff q (by omega)]
                cases lim with
                | none =>
                  have hco' : off + cap * ll.e = ll.room := hco
                  have : q * ll.e ≤ cap * ll.e := Nat.mul_le_mul_right _ (by omega)
                  omega
                | some c =>
                  obtain ⟨e1, e2⟩ := hco
                  have : q * ll.e ≤ c * ll.e := Nat.mul_le_mul_right _ (by omega)
                  omega
              · rename_i hnone
                have hr0 : rm = none := by cases rm <;> simp at hnone ⊢
                have hl0 : lim = none := by cases lim <;> simp at hnone ⊢
                have hm0 : mx = none := by rw [hr0] at hms; cases mx <;> simp at hms ⊢
                subst hl0
                have hco' : off + cap * ll.e = ll.room := hco
                show off + l * n + (Q - l) * ll.e = ll.room
                rw [hoff Q (by omega), hQn hm0]
                exact hco'
            · by_cases hz : Q = l
              · right; omega
              · rcases haa with ha | h0
                · left
                  rw [if_neg hz, ha]
                  simp only [Option.map_some, add_mk, Nat.add_assoc]
                · omega
          · simp at hv
        · simp at hv
      · simp at hv
  · rename_i rx rl rh hu h1 hl hh hm
    simp only [Option.some.injEq] at hc; subst hc
    have hx := hX _ _ h1
    simp only [rop] at hr
    split at hr
    · rename_i s hxe
      rw [hxe] at hx
      split at hr
      · rename_i l h g1 g2
        split at hr
        · rename_i hcond
          simp only [Option.some.injEq, Prod.mk.injEq] at hr
          obtain ⟨rfl, rfl⟩ := hr
          have hm0 : mx = none := by
            rcases optX_rel hX hm with ⟨h, _⟩ | ⟨_, _, _, h, _⟩
            · exact h
            · simp at h
          subst hm0
          have hb := run_sliceBounds (P := P) (isS := false) hX hl hh hm (by simp) (len := s.size) (cap := s.size) (q := s.size) g1 g2 (by simp) (fun _ => rfl) hcond.1 hcond.2 (Nat.le_refl _) w
          refine ok_value hs (v' := .string (s.extract l h)) ?_ rfl
          simp only [Option.map_none] at hb
          simp only [execOp, ho, Instr.sliceAt, Sem.run_bind, run_und hu, Result.andThen_ok, Instr.slice, hx.str_inv, Option.map_none, Option.isSome_none, Bool.false_eq_true, if_false, hb, Sem.run_pure]
        · simp at hr
      · simp at hr
    · simp at hr
  · simp at hc

end
end Go.RM

