/-
  The model's operations, run: small lemmas.
-/
import Derived.Test.YtmiinaimpdbenaaRmSound3
namespace Go.RM

variable {P : Program}

theorem add_mk (b o i : Nat) : (⟨b, o, none⟩ : Addr).add i = ⟨b, o + i, none⟩ := by unfold Addr.add; split <;> simp_all

theorem run_info {t : TypeId} {i : TypeInfo} (h : P.info? t = some i) (w : World) : (typeInfo t).run P w = .ok i w := by
  simp [typeInfo, h]
theorem run_und {t : TypeId} {d : TypeDesc} (h : P.underlying t = some d) (w : World) : (underlying t).run P w = .ok d w := by
  simp [underlying, h]
theorem run_size {t : TypeId} {i : TypeInfo} (h : P.info? t = some i) (w : World) : (sizeOf t).run P w = .ok i.size w := by
  simp [sizeOf, run_info h]
theorem run_zero {t : TypeId} {i : TypeInfo} {z : Value} (h : P.info? t = some i) (hz : i.zero = some z) (w : World) : (zeroValue t).run P w = .ok z w := by
  simp [zeroValue, run_info h, hz]

theorem run_isAgg {t : TypeId} {sz : Option Nat} (h : aggSz P t = some sz) (w : World) : (isAgg t).run P w = .ok sz.isSome w := by
  unfold aggSz at h
  unfold isAgg
  cases hu : P.underlying t with
  | none => simp [hu] at h
  | some d =>
    rw [hu] at h
    simp only [Sem.run_bind, run_und hu, Result.andThen_ok]
    cases d <;> simp_all <;> (obtain ⟨i, _, rfl⟩ := h; rfl)

theorem aggSz_info {t : TypeId} {n : Nat} (h : aggSz P t = some (some n)) : ∃ i, P.info? t = some i ∧ i.size = n := by
  unfold aggSz at h
  cases hu : P.underlying t with
  | none => simp [hu] at h
  | some d =>
    rw [hu] at h
    cases d <;> simp_all

theorem szOf_info {t : TypeId} {n : Nat} (h : szOf P t = some n) : ∃ i, P.info? t = some i ∧ i.size = n := by
  simpa [szOf] using h
theorem bytesOf_info {t : TypeId} {n : Nat} (h : bytesOf? P t = some n) : ∃ i, P.info? t = some i ∧ i.bytes = n := by
  simpa [bytesOf?] using h
theorem zeroOf_info {t : TypeId} {z : List AV} (h : zeroOf P t = some z) : ∃ i v, P.info? t = some i ∧ i.zero = some v ∧ ofConsts v.cells.toList = some z := by
  unfold zeroOf at h
  split at h
  · rename_i i hi
    split at h
    · rename_i v hv
      exact ⟨i, v, hi, hv, h⟩
    · simp at h
  · simp at h

/-- The cells of a stretch of a block, as the world has them. -/
theorem stretch {n0 base : Nat} {m : BMap} {H : Heap} {w : World} (hs : Sim n0 base m H w) {b off n : Nat} {k : Blk} {l : Loc}
    (hact : H.act b = some k) (hm : m b = some l) (hn : off + n ≤ k.cells.length) :
    ∃ cs : List Value, VRels m ((k.cells.drop off).take n) cs ∧ cs.length = n ∧ ∀ j v, cs[j]? = some v → w.cell? ⟨l.cb, l.co + off + j, none⟩ = some v := by
  obtain ⟨_, _, h⟩ := hs.cells b k l hact hm
  refine ⟨(List.range n).map fun j => (w.cell? ⟨l.cb, l.co + (off + j), none⟩).getD Go.undef, ?_, by simp, ?_⟩
  · refine VRels.of (by simp; omega) fun i a v ha hv => ?_
    have hi : i < n := by
      rcases Nat.lt_or_ge i n with h | h
      · exact h
      · rw [List.getElem?_eq_none (by simp; omega)] at hv; simp at hv
    rw [List.getElem?_take_of_lt hi, List.getElem?_drop] at ha
    obtain ⟨cv, h1, h2⟩ := h _ _ ha
    simp [hi] at hv
    rw [h1] at hv
    simp at hv
    subst hv
    exact h2
  · intro j v hv
    have hi : j < n := by
      rcases Nat.lt_or_ge j n with h | h
      · exact h
      · rw [List.getElem?_eq_none (by simp; omega)] at hv; simp at hv
    simp [hi] at hv
    have : off + j < k.cells.length := by omega
    obtain ⟨cv, h1, h2⟩ := h (off + j) _ (List.getElem?_eq_getElem this)
    rw [h1] at hv
    simp at hv
    rw [Nat.add_assoc, h1, hv]

theorem run_loads (w : World) (b o : Nat) (cs : List Value) (h : ∀ j v, cs[j]? = some v → w.cell? ⟨b, o + j, none⟩ = some v) :
    (loadCells ⟨b, o, none⟩ cs.length).run P w = .ok ⟨cs⟩ w := by
  have := run_loadCells_list (P := P) w ⟨b, o, none⟩ cs (fun j v hv => by rw [add_mk]; exact h j v hv)
  simpa using this

theorem run_loadVar_rel {n0 base : Nat} {m : BMap} {H : Heap} {w : World} (hs : Sim n0 base m H w) {t : TypeId} {sz : Option Nat} (ht : aggSz P t = some sz)
    {b off : Nat} {v : AV} (hl : rload H sz b off = some v) {l : Loc} (hm : m b = some l) :
    ∃ cv, (loadVar t ⟨l.cb, l.co + off, none⟩).run P w = .ok cv w ∧ VRel m v cv := by
  unfold rload at hl
  split at hl
  · rename_i k hact
    cases sz with
    | none =>
      simp only at hl
      obtain ⟨_, _, hc⟩ := hs.cells b k l hact hm
      obtain ⟨cv, h1, h2⟩ := hc off v hl
      refine ⟨cv, ?_, h2⟩
      unfold loadVar
      simp [run_isAgg ht, h1]
    | some n =>
      simp only at hl
      split at hl
      · rename_i hn
        cases hl
        obtain ⟨cs, h1, h2, h3⟩ := stretch hs hact hm hn
        obtain ⟨i, hi, hin⟩ := aggSz_info ht
        refine ⟨.agg ⟨cs⟩, ?_, ⟨cs, rfl, h1⟩⟩
        unfold loadVar
        have := run_loads (P := P) w l.cb (l.co + off) cs h3
        rw [h2] at this
        simp [run_isAgg ht, run_size hi, hin, this]
      · simp at hl
  · simp at hl

theorem run_part_rel {m : BMap} {t : TypeId} {sz : Option Nat} (ht : aggSz P t = some sz) {cs : List AV} {vs : List Value} (hr : VRels m cs vs) {off : Nat} {v : AV}
    (hv : rpart sz cs off = some v) (w : World) :
    ∃ cv, (part t ⟨vs⟩ off).run P w = .ok cv w ∧ VRel m v cv := by
  cases sz with
  | none =>
    simp only [rpart] at hv
    obtain ⟨cv, h1, h2⟩ := hr.get off v hv
    refine ⟨cv, ?_, h2⟩
    unfold part
    simp [run_isAgg ht, h1]
  | some n =>
    simp only [rpart] at hv
    split at hv
    · rename_i hn
      cases hv
      obtain ⟨i, hi, hin⟩ := aggSz_info ht
      refine ⟨.agg ⟨(vs.drop off).take n⟩, ?_, ⟨_, rfl, (hr.drop off).take n⟩⟩
      unfold part
      simp [run_isAgg ht, run_size hi, hin, List.extract_eq_take_drop]
    · simp at hv

theorem run_storeVar_rel {n0 base fl : Nat} {m : BMap} {H H' : Heap} {w : World} (hs : Sim n0 base m H w) (hfl : n0 ≤ fl) {t : TypeId} {n : Nat} (ht : szOf P t = some n)
    {b off : Nat} {xs : List AV} (hp : rput fl H b off xs = some H') (hn : xs.length = n) {l : Loc} (hm : m b = some l) {v : Value} (hr : VRels m xs v.cells.toList) :
    ∃ w', (storeVar t ⟨l.cb, l.co + off, none⟩ v).run P w = .ok () w' ∧ Step n0 base fl m H w m H' w' := by
  obtain ⟨h1, h2, h3⟩ := put_step hs hfl hp hm hr
  refine ⟨_, ?_, h3⟩
  obtain ⟨i, hi, hin⟩ := szOf_info ht
  have hlen := hr.length
  simp only [Array.length_toList] at hlen
  unfold storeVar
  simp only [Sem.run_bind, run_size hi, Result.andThen_ok]
  rw [if_neg (by omega)]
  have := run_storeCells_cells (P := P) l.cb (l.co + off) v.cells.toList 0 w (fun j hj => by simpa using (h1 j hj).1) (fun j hj => by simpa using (h1 j hj).2) h2
  simpa using this

/-! ### sums over lists of parts -/

theorem splice3_get (l cs : List Value) (off j : Nat) (h : off + cs.length ≤ l.length) :
    (l.take off ++ cs ++ l.drop (off + cs.length))[j]? = if off ≤ j ∧ j < off + cs.length then cs[j - off]? else l[j]? := by
  have h1 : (l.take off).length = off := by simp; omega
  split
  · rw [List.getElem?_append_left (by simp; omega), List.getElem?_append_right (by omega), h1]
  · by_cases h2 : j < off
    · rw [List.getElem?_append_left (by simp; omega), List.getElem?_append_left (by omega), List.getElem?_take_of_lt h2]
    · rw [List.getElem?_append_right (by simp; omega)]
      simp only [List.length_append, h1, List.getElem?_drop]
      congr 1
      omega

theorem foldl_set (l : List Value) : ∀ (cells : List Value) (off j0 : Nat), off + j0 + l.length ≤ cells.length →
    ((l.zipIdx j0).foldl (fun (cs : Array Value) (p : Value × Nat) => cs.setIfInBounds (off + p.2) p.1) ⟨cells⟩).toList = cells.take (off + j0) ++ l ++ cells.drop (off + j0 + l.length) := by
  induction l with
  | nil => intro cells off j0 h; simp
  | cons v l ih =>
    intro cells off j0 h
    simp only [List.length_cons] at h
    simp only [List.zipIdx_cons, List.foldl_cons]
    have h1 : (⟨cells⟩ : Array Value).setIfInBounds (off + j0) v = ⟨cells.set (off + j0) v⟩ := by simp
    rw [h1, ih (cells.set (off + j0) v) off (j0 + 1) (by simp; omega)]
    apply List.ext_getElem?
    intro i
    rw [splice3_get _ _ _ _ (by simp; omega), splice3_get _ _ _ _ (by simp; omega)]
    simp only [List.length_cons]
    rcases Nat.lt_trichotomy i (off + j0) with hi | hi | hi
    · rw [if_neg (by omega), if_neg (by omega), List.getElem?_set_ne (by omega)]
    · subst hi
      rw [if_neg (by omega), if_pos (by omega), List.getElem?_set_self (by omega), Nat.sub_self]
      rfl
    · by_cases h2 : i < off + (j0 + 1) + l.length
      · rw [if_pos (by omega), if_pos (by omega), show i - (off + j0) = (i - (off + (j0 + 1))) + 1 by omega, List.getElem?_cons_succ]
      · rw [if_neg (by omega), if_neg (by omega), List.getElem?_set_ne (by omega)]

theorem fill_rel {m : BMap} {place : Nat → Option (Nat × Nat)} : ∀ {ps : List (Nat × Nat × AV)} {qs : List (Nat × Value)} {cells out : List AV} {cv : List Value},
    VRels m cells cv → ps.length = qs.length →
    (∀ (i : Nat) (p : Nat × Nat × AV) (q : Nat × Value), ps[i]? = some p → qs[i]? = some q → place q.1 = some (p.1, p.2.1) ∧ VRel m p.2.2 q.2) →
    fillV cells ps = some out → ∃ ov, Instr.fill place ⟨cv⟩ qs = some ⟨ov⟩ ∧ VRels m out ov
  | [], [], cells, out, cv, hr, _, _, h => by
    simp only [fillV, Option.some.injEq] at h
    subst h
    exact ⟨cv, rfl, hr⟩
  | (off, size, v) :: ps, (i, x) :: qs, cells, out, cv, hr, hl, hp, h => by
    simp only [fillV] at h
    split at h
    · rename_i hc
      obtain ⟨hp1, hp2⟩ := hp 0 _ _ rfl rfl
      have hcl := hp2.cells.length
      simp only [Array.length_toList] at hcl
      have hlen := hr.length
      have hq := VRels.splice hr hp2.cells off
      have hfold := foldl_set x.cells.toList cv off 0 (by simp; omega)
      obtain ⟨ov, h1, h2⟩ := fill_rel (ps := ps) (qs := qs) hq (by simpa using hl) (fun j p q hj hk => hp (j + 1) p q (by simpa using hj) (by simpa using hk)) h
      refine ⟨ov, ?_, h2⟩
      simp only [Instr.fill]
      simp only at hp1
      rw [hp1]
      simp only []
      rw [if_neg (by simp; omega)]
      rw [← h1]
      congr 1
      rw [← Array.toList_inj]
      simp only [Nat.add_zero] at hfold
      rw [← hfold]
      congr 1
      rw [← Array.foldl_toList, Array.toList_zipIdx]
    · simp at h
  | [], _ :: _, _, _, _, _, hl, _, _ => by simp at hl
  | _ :: _, [], _, _, _, _, hl, _, _ => by simp at hl

theorem zero_cycle (zs : List Value) (n : Nat) (hz : 0 < zs.length) :
    ((Array.range (n * zs.length)).map (fun i => (⟨zs⟩ : Array Value)[i % (⟨zs⟩ : Array Value).size]!)).toList = (List.replicate n zs).flatten := by
  apply List.ext_getElem?
  intro i
  simp only [Array.toList_map, Array.toList_range, List.getElem?_map]
  by_cases hi : i < n * zs.length
  · rw [List.getElem?_range hi]
    simp only [Option.map_some]
    have hm : i % zs.length < zs.length := Nat.mod_lt _ hz
    have hd : i / zs.length < n := by rw [Nat.div_lt_iff_lt_mul hz]; exact hi
    have : ∀ (n i : Nat), i < n * zs.length → (List.replicate n zs).flatten[i]? = zs[i % zs.length]? := by
      intro n
      induction n with
      | zero => intro i h; simp at h
      | succ n ih =>
        intro i h
        rw [List.replicate_succ, List.flatten_cons]
        by_cases h2 : i < zs.length
        · rw [List.getElem?_append_left h2, Nat.mod_eq_of_lt h2]
        · rw [List.getElem?_append_right (by omega), ih (i - zs.length) (by rw [Nat.succ_mul] at h; omega)]
          congr 1
          rw [← Nat.mod_eq_sub_mod (by omega)]
    rw [this n i hi, List.getElem?_eq_getElem hm]
    simp [hm]
  · rw [List.getElem?_eq_none (by simp; omega), List.getElem?_eq_none (by simp; omega)]
    rfl

end Go.RM
