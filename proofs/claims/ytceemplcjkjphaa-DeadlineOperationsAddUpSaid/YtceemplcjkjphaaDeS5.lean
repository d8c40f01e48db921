import Derived.Test.YtceemplcjkjphaaRmOwn
/-
  The order of a tick: insertion sort of pointers, run.
-/
namespace Go.RM
set_option linter.unusedSimpArgs false
set_option linter.unusedVariables false
namespace De
variable {F : Nat → Option RFunc}

/-- A comparison of two of a list's elements, whatever became of the slice that is sorted. -/
def Cmps (F : Nat → Option RFunc) (fl : Nat) (H : Heap) (dv : AV) (g : Nat) (fp : Nat → AV) (key : Nat → Int) (l : List Nat) : Prop :=
  ∀ H', H'.length = H.length → (∀ b, ¬ At dv b → H'[b]? = H[b]?) → ∀ x ∈ l, ∀ y ∈ l, ∀ {Q : AV → Heap → Prop}, (∀ r : Int, (r < 0 ↔ key x < key y) → Q (i64 r) H') → Ret F fl g [fp x, fp y] H' Q

theorem swap_at {α : Type} {a x : α} : ∀ {A B : List α}, ((A ++ a :: x :: B).set (A.length + 1) a).set A.length x = A ++ x :: a :: B
  | [], B => rfl
  | z :: A, B => by
    have := swap_at (a := a) (x := x) (A := A) (B := B)
    simp only [List.cons_append, List.length_cons, List.set_cons_succ, this]

/-- A cell of an owned slice of single cells is written. -/
theorem own_put1 {n : Nat} {H : Heap} {cs : List AV} {v : AV} (h : Own n H 1 v cs.length cs) {i : Nat} (hi : i < cs.length) {w : AV} {fl : Nat} (hfl : fl ≤ n) (hw : Scal w) :
    ∃ b o, ptrA 1 v (i : Int) = some (b, o) ∧ At v b ∧ ∃ H', putA fl H b o 1 w = some H' ∧ Own n H' 1 v cs.length (cs.set i w) ∧ KeepX b H H' := by
  obtain ⟨b, o, h1, h2, h3, h4, h5⟩ := h.elem hi
  obtain ⟨H', a1, a2, a3⟩ := h5 fl 0 1 w hfl (by rw [hw.1]; rfl) (by decide) (by rw [hw.1, List.all_cons, hw.2]; rfl)
  refine ⟨b, o, h1, h2, H', a1, ?_, a3⟩
  rw [hw.1, show i * 1 + 0 = i by omega, splice_one hi] at a2
  exact a2

abbrev InsSortC (F : Nat → Option RFunc) (f : Nat) : Prop := ∀ {fl H Q n dv g} {l : List Nat} {fp : Nat → AV} {key : Nat → Int}, Own n H 1 dv l.length (l.map fp) → fl ≤ n → (∀ x, Scal (fp x)) → Cmps F fl H dv g fp key l → l.length ≤ 20 →
  (∀ H', Own n H' 1 dv l.length ((sortP key l).map fp) → H'.length = H.length → (∀ b, ¬ At dv b → H'[b]? = H[b]?) → Q .undef H') → Ret F fl f [dv, i64 0, i64 l.length, .func g []] H Q
theorem insSort_c {f : Nat} (hF : F f = some rf_slices_insertionSortCmpFunc_deadline_process) : InsSortC F f := fun {fl H Q n dv g l fp key} h hfl hsc hcmp h20 hq => by
  refine v_slices_insertionSortCmpFunc_deadline_process hF _ _ _ _ _ ?_
  rw [wrap64 (n := 0 + 1) (by omega) (by omega)]
  refine ⟨fun m i H' => ∃ j : Nat, i = j ∧ 1 ≤ j ∧ j + m = l.length + 1 ∧ Own n H' 1 dv l.length ((sortP key (l.take j) ++ l.drop j).map fp) ∧ H'.length = H.length ∧ (∀ b, ¬ At dv b → H'[b]? = H[b]?), l.length, ⟨1, rfl, Nat.le_refl _, by omega, ?_, rfl, fun _ _ => rfl⟩, ?_⟩
  · cases l with
    | nil => exact h
    | cons x l => exact h
  rintro m _ H12 ⟨j, rfl, hj1, hm, ho, hlen, hfr⟩
  refine ⟨fun hlt => ?_, fun hge => ?_⟩
  · have hj : j < l.length := by omega
    obtain ⟨s1, s2, s3⟩ := sortP_all (key := key) (l.take j)
    have hpl : (sortP key (l.take j)).length = j := by rw [s2, List.length_take]; omega
    generalize hpre : sortP key (l.take j) = pre at ho s1 s2 s3 hpl
    have hx : l.drop j = l[j] :: l.drop (j + 1) := List.drop_eq_getElem_cons hj
    generalize hx' : l[j] = x at hx
    have hxl : x ∈ l := by rw [← hx']; exact List.getElem_mem hj
    have hrl : (l.drop (j + 1)).length + j + 1 = l.length := by rw [List.length_drop]; omega
    generalize l.drop (j + 1) = rest at hx hrl
    refine ⟨fun q i H' => ∃ p : Nat, i = p ∧ q = p ∧ p ≤ j ∧ (∀ y ∈ pre.drop p, key x < key y) ∧ Own n H' 1 dv l.length ((pre.take p ++ x :: (pre.drop p ++ rest)).map fp) ∧ H'.length = H.length ∧ (∀ b, ¬ At dv b → H'[b]? = H[b]?), j, ⟨j, rfl, rfl, Nat.le_refl _, ?_, ?_, hlen, hfr⟩, ?_⟩
    · rw [List.drop_eq_nil_of_le (by omega)]; intro y hy; cases hy
    · rw [List.take_of_length_le (by omega), List.drop_eq_nil_of_le (by omega), List.nil_append, ← hx]; exact ho
    rintro p _ H18 ⟨_, rfl, rfl, hpj, hgt, ho2, hlen2, hfr2⟩
    -- the prefix with x put into it
    have done : (p = 0 ∨ ∃ h : p - 1 < pre.length, ¬ key x < key pre[p - 1]) → ∃ m37 : Nat, m37 < m ∧ ∃ j' : Nat, IntKind.wrap .i64 ((j : Int) + 1) = j' ∧ 1 ≤ j' ∧ j' + m37 = l.length + 1 ∧ Own n H18 1 dv l.length ((sortP key (l.take j') ++ l.drop j').map fp) ∧ H18.length = H.length ∧ (∀ b, ¬ At dv b → H18[b]? = H[b]?) := by
      intro hp
      refine ⟨m - 1, by omega, j + 1, by rw [wrap64 (by omega) (by omega)]; omega, by omega, by omega, ?_, hlen2, hfr2⟩
      have e1 : sortP key (l.take (j + 1)) = pre.take p ++ x :: pre.drop p := by
        rw [List.take_succ_eq_append_getElem hj, sort_snoc, hpre, hx']
        refine insP_at (by omega) (fun y hy => ?_) hgt
        rcases hp with rfl | ⟨h1, h2⟩
        · simp at hy
        · rcases Nat.eq_zero_or_pos p with h0 | h0
          · subst h0; simp at hy
          · exact srt_take s1 h1 h2 y (by rw [show p - 1 + 1 = p by omega]; exact hy)
      have e2 : l.drop (j + 1) = rest := by
        have := List.drop_eq_getElem_cons hj
        rw [hx] at this
        exact (List.cons.inj this).2.symm
      rw [e1, e2, List.append_assoc, List.cons_append]; exact ho2
    refine ⟨fun hpos => ?_, fun h0 => done (.inl (by omega))⟩
    have hp1 : p - 1 < pre.length := by omega
    have ew : IntKind.wrap .i64 ((p : Int) - 1) = ((p - 1 : Nat) : Int) := by rw [wrap64 (by omega) (by omega)]; omega
    rw [ew]
    have hsplit : pre.take p = pre.take (p - 1) ++ [pre[p - 1]] := by
      have := List.take_succ_eq_append_getElem hp1
      rw [show p - 1 + 1 = p by omega] at this
      exact this
    have hD : (pre.take p ++ x :: (pre.drop p ++ rest)) = pre.take (p - 1) ++ pre[p - 1] :: x :: (pre.drop p ++ rest) := by rw [hsplit, List.append_assoc]; rfl
    rw [hD] at ho2
    have hAl : (pre.take (p - 1)).length = p - 1 := by rw [List.length_take]; omega
    have hDl : (pre.take (p - 1) ++ pre[p - 1] :: x :: (pre.drop p ++ rest)).length = l.length := by
      rw [← hD]; simp only [List.length_append, List.length_take, List.length_cons, List.length_drop]; omega
    generalize hA : pre.take (p - 1) = A at hD ho2 hAl hDl
    generalize hB : pre.drop p ++ rest = B at hD ho2 hDl
    generalize ha : pre[p - 1] = a at hD ho2 hDl
    have hal : a ∈ l := by
      have : a ∈ pre := by rw [← ha]; exact List.getElem_mem hp1
      exact List.mem_of_mem_take ((s3 a).1 this)
    have get0 : ∀ {H' : Heap}, Own n H' 1 dv l.length ((A ++ a :: x :: B).map fp) → getA H' 1 none dv ((p : Nat) : Int) 0 = some (fp x) ∧ getA H' 1 none dv ((p - 1 : Nat) : Int) 0 = some (fp a) := by
      intro H' ho'
      refine ⟨ho'.sl.cell (by omega) (by decide) ?_, ho'.sl.cell (by omega) (by decide) ?_⟩
      · rw [List.getElem?_map, show p * 1 + 0 = A.length + 1 by omega, List.getElem?_append_right (by omega)]; simp
      · rw [List.getElem?_map, show (p - 1) * 1 + 0 = A.length by omega, List.getElem?_append_right (Nat.le_refl _)]; simp
    obtain ⟨t1, t2⟩ := get0 ho2
    refine ⟨_, t1, _, t2, ?_⟩
    refine hcmp H18 hlen2 hfr2 x hxl a hal fun r hr => ⟨r, rfl, fun hneg => ?_, fun hnn => ?_⟩
    · have hk := hr.1 hneg
      refine ⟨_, t2, _, t1, ?_⟩
      have hml : ((A ++ a :: x :: B).map fp).length = l.length := by rw [List.length_map]; exact hDl
      have ho2' : Own n H18 1 dv ((A ++ a :: x :: B).map fp).length ((A ++ a :: x :: B).map fp) := by rw [hml]; exact ho2
      obtain ⟨b30, o31, u1, u2, H32, u3, u4, u5⟩ := own_put1 ho2' (i := p) (by omega) hfl (hsc a)
      refine ⟨b30, o31, u1, H32, u3, ?_⟩
      have u4' : Own n H32 1 dv (((A ++ a :: x :: B).map fp).set p (fp a)).length (((A ++ a :: x :: B).map fp).set p (fp a)) := by rw [List.length_set]; exact u4
      obtain ⟨b33, o34, w1, w2, H35, w3, w4, w5⟩ := own_put1 u4' (i := p - 1) (by rw [List.length_set]; omega) hfl (hsc x)
      refine ⟨b33, o34, w1, H35, w3, p - 1, by omega, p - 1, rfl, rfl, by omega, fun y hy => ?_, ?_, ?_, fun b hb => ?_⟩
      · rw [show pre.drop (p - 1) = a :: pre.drop p by
          have := List.drop_eq_getElem_cons hp1
          rw [ha, show p - 1 + 1 = p by omega] at this; exact this] at hy
        rcases List.mem_cons.1 hy with e | hy
        · rw [e]; exact hk
        · exact hgt y hy
      · rw [List.length_set, hml] at w4
        have e1 : (((A ++ a :: x :: B).map fp).set p (fp a)).set (p - 1) (fp x) = (A ++ x :: a :: B).map fp := by
          rw [← List.map_set, ← List.map_set]
          congr 1
          have := swap_at (a := a) (x := x) (A := A) (B := B)
          rw [hAl, show p - 1 + 1 = p by omega] at this
          exact this
        rw [e1] at w4
        have e2 : pre.take (p - 1) ++ x :: (pre.drop (p - 1) ++ rest) = A ++ x :: a :: B := by
          rw [hA, ← hB]
          have := List.drop_eq_getElem_cons hp1
          rw [ha, show p - 1 + 1 = p by omega] at this
          rw [this]; rfl
        rw [e2]; exact w4
      · rw [w5.len, u5.len]; exact hlen2
      · have n1 : b ≠ b30 := fun e => hb (e ▸ u2)
        have n2 : b ≠ b33 := fun e => hb (e ▸ w2)
        rw [w5.get b n2, u5.get b n1]; exact hfr2 b hb
    · have hk : ¬ key x < key a := fun hh => hnn (hr.2 hh)
      have := done (.inr ⟨hp1, by rw [ha]; exact hk⟩)
      exact this
  · have hjl : l.length ≤ j := by omega
    rw [List.take_of_length_le hjl, List.drop_eq_nil_of_le hjl, List.append_nil] at ho
    exact hq H12 ho hlen hfr

end De
end Go.RM

/-
  The order of a tick: the stable sort of few pointers.
-/
namespace Go.RM
set_option linter.unusedSimpArgs false
set_option linter.unusedVariables false
namespace De
variable {F : Nat → Option RFunc}

abbrev StabSortC (F : Nat → Option RFunc) (f : Nat) : Prop := ∀ {fl H Q n dv g} {l : List Nat} {fp : Nat → AV} {key : Nat → Int}, Own n H 1 dv l.length (l.map fp) → fl ≤ n → (∀ x, Scal (fp x)) → Cmps F fl H dv g fp key l → l.length ≤ 19 →
  (∀ H', Own n H' 1 dv l.length ((sortP key l).map fp) → H'.length = H.length → (∀ b, ¬ At dv b → H'[b]? = H[b]?) → Q .undef H') → Ret F fl f [dv, .func g []] H Q
theorem stabSort_c {f n1 n2 n3 n4 : Nat} (hF : F f = some (rf_slices_SortStableFunc__deadline_process_deadline_process n1)) (h1 : F n1 = some (rf_slices_stableCmpFunc_deadline_process n2 n3)) (h2 : InsSortC F n2) : StabSortC F f := fun {fl H Q n dv g l fp key} h hfl hsc hcmp h19 hq => by
  refine v_slices_SortStableFunc__deadline_process_deadline_process hF _ _ _ ?_
  refine ⟨_, h.len, ?_⟩
  refine v_slices_stableCmpFunc_deadline_process h1 _ _ _ _ ?_
  refine ⟨fun m b a H' => b = 20 ∧ a = 0 ∧ H' = H, 0, ⟨rfl, rfl, rfl⟩, ?_⟩
  rintro m _ _ _ ⟨rfl, rfl, rfl⟩
  refine ⟨fun hle => by omega, fun _ => h2 h hfl hsc hcmp (by omega) fun H' o1 o2 o3 => ⟨rfl, ?_⟩⟩
  refine ⟨fun m b H2 => b = 20 ∧ H2 = H', 0, ⟨rfl, rfl⟩, ?_⟩
  rintro m _ _ ⟨rfl, rfl⟩
  exact ⟨fun hlt => by omega, fun _ => ⟨rfl, hq _ o1 o2 o3⟩⟩

/-- The comparison of two processes: by the tick since when they wait. -/
theorem stepCmp_c {f n1 : Nat} (hF : F f = some (rf_deadline_system_stepx1 n1)) (h1 : CmpC F n1) {fl : Nat} {H : Heap} {Q : AV → Heap → Prop} {a b : Nat} {x y : Int} (ha : rload H none a 1 = some (i64 x)) (hb : rload H none b 1 = some (i64 y))
    (hq : ∀ r : Int, (r < 0 ↔ x < y) → Q (i64 r) H) : Ret F fl f [.ptr a 0, .ptr b 0] H Q := by
  refine v_deadline_system_stepx1 hF _ _ _ _ ?_
  exact ⟨x, ha, y, hb, h1 fun r hr => ⟨r, rfl, hq r hr⟩⟩

end De
end Go.RM

/-
  Pieces of a step: a list of pointers is copied; a script's rest; the system's block, its results and processes are written.
-/
namespace Go.RM
set_option linter.unusedSimpArgs false
set_option linter.unusedVariables false
namespace De
variable {F : Nat → Option RFunc}

theorem from_keepT {α : Type} {T : Ty α} {H0 H : Heap} {v : AV} {l : List α} (h : Arr T H0 v l) (k : Keep H0.length H0 H) {n : Nat} (hn : n ≤ l.length) : ∃ w, rslice H T.e v (some (.int .i64 (n : Int))) none none = some w ∧ Arr T H0 w (l.drop n) := by
  obtain ⟨w, h1, h2⟩ := h.from hn
  obtain ⟨w', h1', _⟩ := (h.keep k).from hn
  have e : w' = w := by
    unfold rslice at h1 h1'
    split at h1
    · split at h1
      · rename_i e1 e2 e3; simp only [e1, e2, e3, Option.some.injEq] at h1 h1'; rw [← h1, ← h1']
      · simp at h1
    · split at h1
      · rename_i l1 l2 l3 e1 e2 e3
        simp only [e1, e2, e3] at h1'
        split at h1
        · split at h1'
          · simp only [Option.some.injEq] at h1 h1'; rw [← h1, ← h1']
          · simp at h1'
        · simp at h1
      · simp at h1
    · simp at h1
  subst e
  exact ⟨w', h1', h2⟩

abbrev ClonePC (F : Nat → Option RFunc) (f : Nat) : Prop := ∀ {fl H Q n v} {cs : List AV}, Own n H 1 v cs.length cs → n ≤ H.length → cs.length ≤ 2 ^ 20 → (∀ w H', Keep H.length H H' → Own n H' 1 w cs.length cs → (∀ b, At w b → H.length ≤ b) → Q w H') → Ret F fl f [v] H Q
theorem cloneP_c {f : Nat} (hF : F f = some rf_slices_Clone__deadline_process_deadline_process) : ClonePC F f := fun {fl H Q n v cs} h hn hl hq => by
  obtain ⟨c1, c2⟩ := sl_cells h.sl
  by_cases h0 : cs.length = 0
  · obtain rfl := List.eq_nil_of_length_eq_zero h0
    refine ret_prim (v := .empty) (H' := H) hF rfl ?_ (hq .empty H (Keep.refl H) Own.nil fun b hb => absurd hb at_empty)
    show rclone 1 8 H v = _
    unfold rclone; rw [c1]; rfl
  · refine ret_prim (v := .slice H.length 0 cs.length none) (H' := H ++ [{ cells := cs, e := 1 }]) hF rfl ?_ (hq _ _ (Keep.app _ _) ⟨by omega, .inr ⟨H.length, 0, none, { cells := cs, e := 1 }, rfl, hn, snoc_end _ _, rfl, rfl, by simp, by rw [List.drop_zero, Nat.mul_one, List.take_length], ⟨cs.length, by simp⟩, fun c hc => by cases hc⟩⟩ fun b hb => Nat.le_of_eq (at_slice.same hb))
    show rclone 1 8 H v = _
    unfold rclone; rw [c1]
    simp only
    rw [if_neg h0, if_pos ⟨by decide, by omega, by omega⟩, c2]
    rfl

section
variable {H0 : Heap} {caps : List Int} {own : Nat → Option Who} {H : Heap} {sb bb : Nat} {cv pv rv : AV} {bvs : List AV} {pbs : List Nat} {ovs : List AV} {s : Sys}

/-- No two owners of one block. -/
theorem St.other (h : St H0 caps own H sb bb cv pv rv bvs pbs ovs s) {b : Nat} {w : Who} (hb : own b = some w) (hw : w ≠ .sys) : b ≠ sb := fun e => by
  rw [e, h.oSys.1] at hb; cases hb; exact hw rfl

/-- The system's block is written: its results and its tick are others. -/
theorem St.setSys {H1 H' : Heap} {own' : Nat → Option Who} {rv' : AV} {res' : List Res} {t' : Int} (h : St H0 caps own H sb bb cv pv rv bvs pbs ovs s)
    (hown : ∀ x, x < H.length → own' x = own x) (hrv : ∀ b, At rv' b → own' b = some .res) (hr : Own H0.length H1 4 rv' res'.length (res'.map resC).flatten)
    (hk1 : Keep H0.length H0 H1) (hf1 : ∀ x, x < H.length → own x ≠ some .res → H1[x]? = H[x]?)
    (hb : Box H' sb [cv, .slice bb 0 bvs.length (some bvs.length), pv, rv', i64 t']) (hx : KeepX sb H1 H') : St H0 caps own' H' sb bb cv pv rv' bvs pbs ovs { s with res := res', tick := t' } := by
  have hfr : ∀ x, x < H.length → own x ≠ some .res → own x ≠ some .sys → H'[x]? = H[x]? := fun x hxl ho hne => by
    rw [hx.get x fun e => hne (by rw [e]; exact h.oSys.1)]
    exact hf1 x hxl ho
  have sl := h.sys.lt
  have bl := h.bufs.lt
  refine ⟨hk1.tr (hx.keep h.oSys.2 (Nat.le_trans hk1.low hk1.len)), hb, h.cap, h.clen, h.bufs.frame (hfr bb bl (by rw [h.oBufs.1]; simp) (by rw [h.oBufs.1]; simp)), h.blen, h.small, fun i v l h1 h2 => ?_, ?_, h.plen, fun i b x l v h1 h2 h3 h4 => ?_, ?_, ⟨by rw [hown sb sl]; exact h.oSys.1, h.oSys.2⟩, ⟨by rw [hown bb bl]; exact h.oBufs.1, h.oBufs.2⟩, fun i b h1 => ?_, fun i v b h1 h2 => ?_, hrv, fun b hb => ?_⟩
  · have hgr := h.buf i v l h1 h2
    exact hgr.frame fun b hb' => hfr b (hgr.at_lt hb').2 (by rw [h.oBuf i v b h1 hb']; simp) (by rw [h.oBuf i v b h1 hb']; simp)
  · exact h.procs.frame fun b hb' => hfr b (h.procs.at_lt hb').2 (by rw [h.oProcs b hb']; simp) (by rw [h.oProcs b hb']; simp)
  · obtain ⟨q1, q2⟩ := h.proc i b x l v h1 h2 h3 h4
    exact ⟨q1.frame (hfr b q1.lt (by rw [(h.oProc i b h1).1]; simp) (by rw [(h.oProc i b h1).1]; simp)), q2⟩
  · exact hr.frame fun b hb' => hx.get b fun e => by
      have := hrv b hb'
      rw [e, hown sb sl, h.oSys.1] at this; cases this
  · refine ⟨?_, (h.oProc i b h1).2⟩
    have hpl : i < pbs.length := (List.getElem?_eq_some_iff.1 h1).1
    obtain ⟨p1, p2, p3⟩ := h.plen
    obtain ⟨q1, _⟩ := h.proc i b (s.since[i]'(by omega)) (s.ops[i]'(by omega)) (ovs[i]'(by omega)) h1 (List.getElem?_eq_getElem _) (List.getElem?_eq_getElem _) (List.getElem?_eq_getElem _)
    rw [hown b q1.lt]; exact (h.oProc i b h1).1
  · have hil : i < bvs.length := (List.getElem?_eq_some_iff.1 h1).1
    have hgr := h.buf i v (s.buf[i]'(by rw [h.blen]; exact hil)) h1 (List.getElem?_eq_getElem _)
    rw [hown b (hgr.at_lt h2).2]; exact h.oBuf i v b h1 h2
  · rw [hown b (h.procs.at_lt hb).2]; exact h.oProcs b hb

end
end De
end Go.RM

/-
  A process's block is written; a step.
-/
namespace Go.RM
set_option linter.unusedSimpArgs false
set_option linter.unusedVariables false
namespace De
variable {F : Nat → Option RFunc}

section
variable {H0 : Heap} {caps : List Int} {own : Nat → Option Who} {H : Heap} {sb bb : Nat} {cv pv rv : AV} {bvs : List AV} {pbs : List Nat} {ovs : List AV} {s : Sys}

/-- A process's block is written: its operations and its tick are others. -/
theorem St.setProc {H' : Heap} {p b : Nat} {x : Int} {l : List Op} {v : AV} (h : St H0 caps own H sb bb cv pv rv bvs pbs ovs s) (hp : pbs[p]? = some b) (hv : Arr tOp H0 v l)
    (hb : Box H' b [i64 p, i64 x, v]) (hx : KeepX b H H') : St H0 caps own H' sb bb cv pv rv bvs pbs (ovs.set p v) { s with ops := s.ops.set p l, since := s.since.set p x } := by
  obtain ⟨ob, lb⟩ := h.oProc p b hp
  have hpl : p < pbs.length := (List.getElem?_eq_some_iff.1 hp).1
  obtain ⟨p1, p2, p3⟩ := h.plen
  have hfr : ∀ y, own y ≠ some (.proc p) → H'[y]? = H[y]? := fun y ho => hx.get y fun e => ho (by rw [e]; exact ob)
  refine ⟨h.k.tr (hx.keep lb (Nat.le_trans h.k.low h.k.len)), h.sys.frame (hfr sb (by rw [h.oSys.1]; simp)), h.cap, h.clen, h.bufs.frame (hfr bb (by rw [h.oBufs.1]; simp)), h.blen, h.small, fun i w l' h1 h2 => ?_, ?_, by simp [p1, p2, p3], fun i b' x' l' v' h1 h2 h3 h4 => ?_, ?_, h.oSys, h.oBufs, h.oProc, h.oBuf, h.oRes, h.oProcs⟩
  · exact (h.buf i w l' h1 h2).frame fun b' hb' => hfr b' (by rw [h.oBuf i w b' h1 hb']; simp)
  · exact h.procs.frame fun b' hb' => hfr b' (by rw [h.oProcs b' hb']; simp)
  · by_cases e : i = p
    · subst e
      rw [hp] at h1; cases h1
      rw [List.getElem?_set_self (by omega)] at h2 h3 h4
      cases h2; cases h3; cases h4
      exact ⟨hb, hv⟩
    · rw [List.getElem?_set_ne (Ne.symm e)] at h2 h3 h4
      obtain ⟨q1, q2⟩ := h.proc i b' x' l' v' h1 h2 h3 h4
      exact ⟨q1.frame (hfr b' (by rw [(h.oProc i b' h1).1]; simp [e])), q2⟩
  · exact h.res.frame fun b' hb' => hfr b' (by rw [h.oRes b' hb']; simp)

/-- Above the heap's end the owners may be others. -/
theorem St.reown {own' : Nat → Option Who} (h : St H0 caps own H sb bb cv pv rv bvs pbs ovs s) (hown : ∀ x, x < H.length → own' x = own x) : St H0 caps own' H sb bb cv pv rv bvs pbs ovs s := by
  refine ⟨h.k, h.sys, h.cap, h.clen, h.bufs, h.blen, h.small, h.buf, h.procs, h.plen, h.proc, h.res, ⟨by rw [hown sb h.sys.lt]; exact h.oSys.1, h.oSys.2⟩, ⟨by rw [hown bb h.bufs.lt]; exact h.oBufs.1, h.oBufs.2⟩, fun i b h1 => ?_, fun i v b h1 h2 => ?_, fun b hb => ?_, fun b hb => ?_⟩
  · refine ⟨?_, (h.oProc i b h1).2⟩
    have hpl : i < pbs.length := (List.getElem?_eq_some_iff.1 h1).1
    obtain ⟨p1, p2, p3⟩ := h.plen
    obtain ⟨q1, _⟩ := h.proc i b (s.since[i]'(by omega)) (s.ops[i]'(by omega)) (ovs[i]'(by omega)) h1 (List.getElem?_eq_getElem _) (List.getElem?_eq_getElem _) (List.getElem?_eq_getElem _)
    rw [hown b q1.lt]; exact (h.oProc i b h1).1
  · have hil : i < bvs.length := (List.getElem?_eq_some_iff.1 h1).1
    have hgr := h.buf i v (s.buf[i]'(by rw [h.blen]; exact hil)) h1 (List.getElem?_eq_getElem _)
    rw [hown b (hgr.at_lt h2).2]; exact h.oBuf i v b h1 h2
  · rw [hown b (h.res.at_lt hb).2]; exact h.oRes b hb
  · rw [hown b (h.procs.at_lt hb).2]; exact h.oProcs b hb

/-- The order's block may change. -/
theorem St.frameO {H' : Heap} (h : St H0 caps own H sb bb cv pv rv bvs pbs ovs s) (hk : Keep H0.length H0 H') (hf : ∀ b, own b ≠ some .ord → b < H.length → H'[b]? = H[b]?) : St H0 caps own H' sb bb cv pv rv bvs pbs ovs s where
  k := hk
  sys := h.sys.frame (hf _ (by rw [h.oSys.1]; simp) h.sys.lt)
  cap := h.cap
  clen := h.clen
  bufs := h.bufs.frame (hf _ (by rw [h.oBufs.1]; simp) h.bufs.lt)
  blen := h.blen
  small := h.small
  buf := fun i v l h1 h2 => (h.buf i v l h1 h2).frame fun b hb => hf b (by rw [h.oBuf i v b h1 hb]; simp) ((h.buf i v l h1 h2).at_lt hb).2
  procs := h.procs.frame fun b hb => hf b (by rw [h.oProcs b hb]; simp) (h.procs.at_lt hb).2
  plen := h.plen
  proc := fun i b x l v h1 h2 h3 h4 => ⟨(h.proc i b x l v h1 h2 h3 h4).1.frame (hf b (by rw [(h.oProc i b h1).1]; simp) (h.proc i b x l v h1 h2 h3 h4).1.lt), (h.proc i b x l v h1 h2 h3 h4).2⟩
  res := h.res.frame fun b hb => hf b (by rw [h.oRes b hb]; simp) (h.res.at_lt hb).2
  oSys := h.oSys
  oBufs := h.oBufs
  oProc := h.oProc
  oBuf := h.oBuf
  oRes := h.oRes
  oProcs := h.oProcs

end

end De
end Go.RM

/-
  What holds of a simulation that runs: numbers are small, operations are valid, buffers hold no more than they may.
-/
namespace Go.RM
set_option linter.unusedSimpArgs false
set_option linter.unusedVariables false
namespace De

structure Ok (caps : List Int) (s : Sys) : Prop where
  cap : ∀ c ∈ caps, 1 ≤ c ∧ c ≤ 4
  blen : s.buf.length = caps.length
  ops : ∀ l ∈ s.ops, ∀ o ∈ l, codeE o caps.length = 0
  slen : s.since.length = s.ops.length
  since : ∀ x ∈ s.since, 0 ≤ x ∧ x ≤ s.tick + 1
  tick : 0 ≤ s.tick
  buf : ∀ (i : Nat) l, s.buf[i]? = some l → (l.length : Int) ≤ caps.getD i 0
  procs : s.ops.length ≤ 5
  sum : s.res.length + (s.ops.map List.length).sum ≤ 40

theorem Ok.small {caps : List Int} {s : Sys} (h : Ok caps s) : ∀ l ∈ s.buf, l.length ≤ 4 := fun l hl => by
  obtain ⟨i, hi, rfl⟩ := List.mem_iff_getElem.1 hl
  have h1 := h.buf i _ (List.getElem?_eq_getElem hi)
  have hc : i < caps.length := by rw [← h.blen]; exact hi
  rw [List.getD_eq_getElem?_getD, List.getElem?_eq_getElem hc] at h1
  have := (h.cap caps[i] (List.getElem_mem hc)).2
  simp only [Option.getD_some] at h1
  omega

theorem recv_shape {buf : List (List Int)} {c v : Int} {b : List (List Int)} (h : recvP buf c = some (v, b)) : ∃ l, buf[c.toNat]? = some (v :: l) ∧ b = buf.set c.toNat l := by
  unfold recvP at h
  split at h
  · rename_i x l hl
    simp only [Option.some.injEq, Prod.mk.injEq] at h
    obtain ⟨rfl, rfl⟩ := h
    exact ⟨l, hl, rfl⟩
  · simp at h

theorem first_shape {buf : List (List Int)} : ∀ {cs : List Int} {c v : Int} {b : List (List Int)}, firstP buf cs = some (c, v, b) → c ∈ cs ∧ recvP buf c = some (v, b)
  | [], c, v, b, h => by simp [firstP] at h
  | x :: cs, c, v, b, h => by
    rw [firstP] at h
    split at h
    · rename_i v' b' hr
      simp only [Option.some.injEq, Prod.mk.injEq] at h
      obtain ⟨rfl, rfl, rfl⟩ := h
      exact ⟨by simp, hr⟩
    · obtain ⟨h1, h2⟩ := first_shape h
      exact ⟨List.mem_cons_of_mem _ h1, h2⟩

/-- What a try does to the buffers. -/
theorem try_buf {caps : List Int} {buf : List (List Int)} {o : Op} {w : Int} : (tryP caps buf o w).2 = buf ∨ (∃ l, buf[o.c.toNat]? = some l ∧ (l.length : Int) ≠ caps.getD o.c.toNat 0 ∧ (tryP caps buf o w).2 = buf.set o.c.toNat (l ++ [o.v])) ∨
    ∃ (i : Nat) (v : Int) (l : List Int), buf[i]? = some (v :: l) ∧ (tryP caps buf o w).2 = buf.set i l := by
  unfold tryP
  split
  · split
    · exact .inl rfl
    · rename_i h
      cases hl : buf[o.c.toNat]? with
      | none => exact .inl (List.set_eq_of_length_le (List.getElem?_eq_none_iff.1 hl))
      | some l =>
        have : buf.getD o.c.toNat [] = l := by rw [List.getD_eq_getElem?_getD, hl]; rfl
        rw [this] at h ⊢
        exact .inr (.inl ⟨l, rfl, h, rfl⟩)
  · split
    · split
      · rename_i v b hr
        obtain ⟨l, h1, rfl⟩ := recv_shape hr
        exact .inr (.inr ⟨_, v, l, h1, rfl⟩)
      · exact .inl rfl
    · split
      · split
        · rename_i c v b hf
          obtain ⟨_, hr⟩ := first_shape hf
          obtain ⟨l, h1, rfl⟩ := recv_shape hr
          exact .inr (.inr ⟨_, v, l, h1, rfl⟩)
        · exact .inl rfl
      · exact .inl rfl

theorem sum_set {l : List (List Op)} : ∀ {p : Nat} {o : Op} {r : List Op}, l[p]? = some (o :: r) → ((l.set p r).map List.length).sum + 1 = (l.map List.length).sum := by
  induction l with
  | nil => intro p o r h; simp at h
  | cons x l ih =>
    intro p o r h
    cases p with
    | zero =>
      simp only [List.getElem?_cons_zero, Option.some.injEq] at h
      subst h
      simp only [List.set_cons_zero, List.map_cons, List.sum_cons, List.length_cons]; omega
    | succ p =>
      simp only [List.getElem?_cons_succ] at h
      have := ih h
      simp only [List.set_cons_succ, List.map_cons, List.sum_cons]; omega

theorem turn_ok {caps : List Int} {s : Sys} (h : Ok caps s) (p : Nat) : Ok caps (turnP caps s p).1 := by
  unfold turnP
  split
  · exact h
  · rename_i o r ho
    have hop : s.ops[p]? = some (o :: r) := by
      rw [List.getD_eq_getElem?_getD] at ho
      cases hx : s.ops[p]? with
      | none => rw [hx] at ho; simp at ho
      | some l => rw [hx] at ho; simp only [Option.getD_some] at ho; rw [ho]
    have hmem : (o :: r) ∈ s.ops := List.mem_of_getElem? hop
    simp only
    split
    · refine ⟨h.cap, ?_, fun l hl o' ho' => ?_, by simp [h.slen], fun x hx => ?_, h.tick, fun i l hl => ?_, by simpa using h.procs, ?_⟩
      · simp only
        rcases try_buf (caps := caps) (buf := s.buf) (o := o) (w := s.tick - s.since.getD p 0) with e | ⟨l, _, _, e⟩ | ⟨i, v, l, _, e⟩ <;> rw [e] <;> first | exact h.blen | (rw [List.length_set]; exact h.blen)
      · rcases List.mem_or_eq_of_mem_set hl with hl | rfl
        · exact h.ops l hl o' ho'
        · exact h.ops _ hmem o' (List.mem_cons_of_mem _ ho')
      · have ht := h.tick
        rcases List.mem_or_eq_of_mem_set hx with hx | rfl
        · exact h.since x hx
        · simp only; omega
      · simp only at hl
        rcases try_buf (caps := caps) (buf := s.buf) (o := o) (w := s.tick - s.since.getD p 0) with e | ⟨l', h1, h2, e⟩ | ⟨k, v, l', h1, e⟩
        · rw [e] at hl; exact h.buf i l hl
        · rw [e] at hl
          have hlt := (List.getElem?_eq_some_iff.1 h1).1
          have hb := h.buf _ _ h1
          by_cases ei : i = o.c.toNat
          · subst ei
            rw [List.getElem?_set_self hlt] at hl
            cases hl
            simp only [List.length_append, List.length_cons, List.length_nil]; omega
          · rw [List.getElem?_set_ne (Ne.symm ei)] at hl
            exact h.buf i l hl
        · rw [e] at hl
          have hlt := (List.getElem?_eq_some_iff.1 h1).1
          have hb := h.buf _ _ h1
          by_cases ei : i = k
          · subst ei
            rw [List.getElem?_set_self hlt] at hl
            cases hl
            simp only [List.length_cons] at hb; omega
          · rw [List.getElem?_set_ne (Ne.symm ei)] at hl
            exact h.buf i l hl
      · have := sum_set hop
        have h2 := h.sum
        simp only [List.length_append, List.length_cons, List.length_nil]
        omega
    · exact h

end De
end Go.RM

/-
  One tick.
-/
namespace Go.RM
set_option linter.unusedSimpArgs false
set_option linter.unusedVariables false
namespace De
variable {F : Nat → Option RFunc}

theorem turn_ops {caps : List Int} {s : Sys} (p : Nat) : (turnP caps s p).1.ops.length = s.ops.length ∧ (turnP caps s p).1.tick = s.tick := by
  unfold turnP
  split
  · exact ⟨rfl, rfl⟩
  · simp only
    split
    · exact ⟨by simp, rfl⟩
    · exact ⟨rfl, rfl⟩

/-- An element that is read later on: its list is as at the start. -/
theorem op_getK {H0 H : Heap} {v : AV} {l : List Op} (h : Arr tOp H0 v l) (k : Keep H0.length H0 H) {i : Nat} (hi : i < l.length) : ∃ w, getA H 5 (some 5) v (i : Int) 0 = some (.agg (opC w l[i])) ∧ Ints H0 w l[i].cs := by
  obtain ⟨css, h1, h2⟩ := h
  obtain ⟨c, h3, w, rfl, h4⟩ := h1.get hi
  exact ⟨w, (h2.keep k).seg hi (flat_seg h1.lens h3), h4⟩

theorem keepX_trans {b : Nat} {H H1 H2 : Heap} (a : KeepX b H H1) (c : KeepX b H1 H2) : KeepX b H H2 :=
  ⟨by rw [c.len, a.len], fun x hx => by rw [c.get x hx, a.get x hx]⟩

theorem try_not {caps : List Int} {buf : List (List Int)} {o : Op} {w : Int} (h : ¬(tryP caps buf o w).1.2.2 = true) : (tryP caps buf o w).2 = buf := by
  revert h
  unfold tryP
  split
  · split
    · exact fun _ => rfl
    · exact fun h => absurd rfl h
  · split
    · split
      · exact fun h => absurd rfl h
      · exact fun _ => rfl
    · split
      · split
        · exact fun h => absurd rfl h
        · exact fun _ => rfl
      · exact fun _ => rfl

abbrev StepC (F : Nat → Option RFunc) (f : Nat) : Prop := ∀ {fl H0 caps own H sb bb cv pv rv bvs pbs ovs s Q}, St H0 caps own H sb bb cv pv rv bvs pbs ovs s → Ok caps s → fl ≤ H0.length → s.tick ≤ 100000 →
  (∀ own' H' rv' bvs' ovs', H.length ≤ H'.length → St H0 caps own' H' sb bb cv pv rv' bvs' pbs ovs' (stepP caps s).1 → Q (.bool (stepP caps s).2) H') → Ret F fl f [.ptr sb 0] H Q
theorem step_c {f n1 n2 n3 n4 n5 : Nat} (hF : F f = some (rf_deadline_system_step n1 n2 n3 n4)) (h1 : ClonePC F n1) (h2 : StabSortC F n2) (h3 : F n3 = some (rf_deadline_system_stepx1 n5)) (h5 : CmpC F n5) (h4 : TryC F n4) : StepC F f := fun {fl H0 caps own H sb bb cv pv rv bvs pbs ovs s Q} h hok hfl htick hq => by
  refine v_deadline_system_step hF _ _ ?_
  obtain ⟨pl1, pl2, pl3⟩ := h.plen
  have hpl5 : pbs.length ≤ 5 := by have := hok.procs; omega
  -- the pointers, by number
  let fp : Nat → AV := fun i => .ptr (pbs.getD i 0) 0
  have hfp : (pbs.map fun b => AV.ptr b 0) = (List.range pbs.length).map fp := by
    apply List.ext_getElem
    · simp
    · intro i hi1 hi2
      simp only [List.length_map] at hi1
      simp [fp, List.getD_eq_getElem?_getD, List.getElem?_eq_getElem hi1]
  have hprocs := h.procs
  refine ⟨_, h.sys.load (o := 2) rfl, ?_⟩
  have hlen0 : (pbs.map fun b => AV.ptr b 0).length = pbs.length := by simp
  refine h1 (n := H0.length) (cs := pbs.map fun b => .ptr b 0) (by rw [hlen0]; exact hprocs) (Nat.le_trans h.k.low h.k.len) (by rw [hlen0]; omega) fun r3 H4 k4 o4 at4 => ?_
  rw [hlen0, hfp] at o4
  have h4s := h.keep k4
  have o4' : Own H0.length H4 1 r3 (List.range pbs.length).length ((List.range pbs.length).map fp) := by rw [List.length_range]; exact o4
  have hkeyload : ∀ H', (∀ b, ¬ At r3 b → H'[b]? = H4[b]?) → ∀ x, x < pbs.length → rload H' none (pbs.getD x 0) 1 = some (i64 (s.since.getD x 0)) := by
    intro H' hf x hx
    obtain ⟨q1, _⟩ := h4s.proc x _ _ _ _ (List.getElem?_eq_getElem hx) (List.getElem?_eq_getElem (show x < s.since.length by omega)) (List.getElem?_eq_getElem (show x < s.ops.length by omega)) (List.getElem?_eq_getElem (show x < ovs.length by omega))
    have e1 : pbs.getD x 0 = pbs[x] := by rw [List.getD_eq_getElem?_getD, List.getElem?_eq_getElem hx]; rfl
    have e2 : s.since.getD x 0 = s.since[x] := by rw [List.getD_eq_getElem?_getD, List.getElem?_eq_getElem (show x < s.since.length by omega)]; rfl
    rw [e1, e2]
    have hlt : pbs[x] < H.length := by
      obtain ⟨q, _⟩ := h.proc x _ _ _ _ (List.getElem?_eq_getElem hx) (List.getElem?_eq_getElem (show x < s.since.length by omega)) (List.getElem?_eq_getElem (show x < s.ops.length by omega)) (List.getElem?_eq_getElem (show x < ovs.length by omega))
      exact q.lt
    exact (q1.frame (hf _ fun ha => by have := at4 _ ha; omega)).load (o := 1) rfl
  refine h2 (l := List.range pbs.length) (fp := fp) (key := fun p => s.since.getD p 0) o4' hfl (fun x => ⟨rfl, rfl⟩) (fun H' _ hf x hx y hy Q' hr => ?_) (by simp; omega) fun H6 o6 len6 fr6 => ⟨rfl, ?_⟩
  · exact stepCmp_c h3 h5 (hkeyload H' hf x (List.mem_range.1 hx)) (hkeyload H' hf y (List.mem_range.1 hy)) hr
  -- the copy's block has an owner of its own
  let own1 : Nat → Option Who := fun x => if x < H.length then own x else some .ord
  have st6 : St H0 caps own1 H6 sb bb cv pv rv bvs pbs ovs s := by
    have s0 := (h.reown (own' := own1) fun x hx => if_pos hx).keep k4
    refine s0.frameO ⟨h.k.low, by rw [len6]; exact Nat.le_trans h.k.len k4.len, fun b hb => ?_⟩ fun b hb hl => ?_
    · have hbH : b < H.length := Nat.lt_of_lt_of_le hb h.k.len
      rw [fr6 b fun ha => by have := at4 b ha; omega, k4.get b hbH, h.k.get b hb]
    · refine fr6 b fun ha => hb ?_
      have := at4 b ha
      exact if_neg (by omega)
  obtain ⟨_, ol, om⟩ := sortP_all (key := fun p => s.since.getD p 0) (List.range pbs.length)
  rw [List.length_range] at ol o6
  have hstep : stepP caps s = ({ (turnsP caps (sortP (fun p => s.since.getD p 0) (List.range pbs.length)) s false).1 with tick := (turnsP caps (sortP (fun p => s.since.getD p 0) (List.range pbs.length)) s false).1.tick + 1 }, (turnsP caps (sortP (fun p => s.since.getD p 0) (List.range pbs.length)) s false).2) := by
    unfold stepP; rw [pl1]
  rw [hstep] at hq
  generalize sortP (fun p => s.since.getD p 0) (List.range pbs.length) = order at o6 ol om hq
  have omem : ∀ y ∈ order, y < pbs.length := fun y hy => List.mem_range.1 ((om y).1 hy)
  have hord1 : ∀ b, At r3 b → own1 b = some .ord := fun b hb => if_neg (by have := at4 b hb; omega)
  refine ⟨_, o6.len, fun m v live H' => ∃ (j : Nat) (own2 : Nat → Option Who) (rv2 : AV) (bvs2 ovs2 : List AV) (s2 : Sys), v = j ∧ j + m = pbs.length ∧ St H0 caps own2 H' sb bb cv pv rv2 bvs2 pbs ovs2 s2 ∧ Ok caps s2 ∧ s2.tick = s.tick ∧ Own H0.length H' 1 r3 pbs.length (order.map fp) ∧ (∀ b, At r3 b → own2 b = some .ord) ∧ H.length ≤ H'.length ∧ turnsP caps (order.drop j) s2 live = turnsP caps order s false, pbs.length,
    ⟨0, own1, rv, bvs, ovs, s, rfl, by omega, st6, hok, rfl, o6, hord1, by rw [len6]; exact k4.len, by rw [List.drop_zero]⟩, ?_⟩
  rintro m _ live H22 ⟨j, own2, rv2, bvs2, ovs2, s2, rfl, hm, st, hok2, htk, oo, hord, hlen, he⟩
  refine ⟨fun hlt => ?_, fun hge => ?_⟩
  · have hj : j < order.length := by omega
    rw [List.drop_eq_getElem_cons hj, turnsP] at he
    have hpl : order[j] < pbs.length := omem _ (List.getElem_mem hj)
    generalize hp : order[j] = p at he hpl
    obtain ⟨q1, q2, q3⟩ := st.plen
    have gp : pbs.getD p 0 = pbs[p] := by rw [List.getD_eq_getElem?_getD, List.getElem?_eq_getElem hpl]; rfl
    have eget : getA H22 1 none r3 (j : Int) 0 = some (.ptr pbs[p] 0) := by
      refine oo.sl.cell (by omega) (by decide) ?_
      rw [Nat.mul_one, Nat.add_zero, List.getElem?_map, List.getElem?_eq_getElem hj, hp]
      simp only [Option.map_some, fp, gp]
    refine ⟨_, eget, pbs[p], 0, rfl, ?_⟩
    have px : pbs[p]? = some pbs[p] := List.getElem?_eq_getElem hpl
    have sx : s2.since[p]? = some (s2.since[p]'(by omega)) := List.getElem?_eq_getElem _
    have ox : s2.ops[p]? = some (s2.ops[p]'(by omega)) := List.getElem?_eq_getElem _
    have vx : ovs2[p]? = some (ovs2[p]'(by omega)) := List.getElem?_eq_getElem _
    obtain ⟨pb, pa⟩ := st.proc p _ _ _ _ px sx ox vx
    have gops : s2.ops.getD p [] = s2.ops[p]'(by omega) := by rw [List.getD_eq_getElem?_getD, ox]; rfl
    have gsin : s2.since.getD p 0 = s2.since[p]'(by omega) := by rw [List.getD_eq_getElem?_getD, sx]; rfl
    have hsinr := hok2.since _ (List.getElem_mem (show p < s2.since.length by omega))
    have hopm : s2.ops[p]'(by omega) ∈ s2.ops := List.getElem_mem _
    generalize s2.since[p]'(by omega) = since at sx pb gsin hsinr
    generalize s2.ops[p]'(by omega) = ops at ox pa gops hopm
    generalize ovs2[p]'(by omega) = ov at vx pb pa
    have htr := hok2.tick
    have next : ∀ own' H' rv' bvs' ovs' live', St H0 caps own' H' sb bb cv pv rv' bvs' pbs ovs' (turnP caps s2 p).1 → Own H0.length H' 1 r3 pbs.length (order.map fp) → (∀ b, At r3 b → own' b = some .ord) → H.length ≤ H'.length → live' = (live || (turnP caps s2 p).2) →
        ∃ m', m' < m ∧ ∃ (j' : Nat) (own2 : Nat → Option Who) (rv2 : AV) (bvs2 ovs2 : List AV) (s2 : Sys), IntKind.wrap .i64 ((j : Int) + 1) = j' ∧ j' + m' = pbs.length ∧ St H0 caps own2 H' sb bb cv pv rv2 bvs2 pbs ovs2 s2 ∧ Ok caps s2 ∧ s2.tick = s.tick ∧ Own H0.length H' 1 r3 pbs.length (order.map fp) ∧ (∀ b, At r3 b → own2 b = some .ord) ∧ H.length ≤ H'.length ∧ turnsP caps (order.drop j') s2 live' = turnsP caps order s false :=
      fun own' H' rv' bvs' ovs' live' a1 a2 a3 a4 a5 => ⟨m - 1, by omega, j + 1, own', rv', bvs', ovs', _, wsucc hj (by omega), by omega, a1, turn_ok hok2 p, by rw [(turn_ops p).2, htk], a2, a3, a4, by rw [a5]; exact he⟩
    refine ⟨_, pb.load (o := 2) rfl, _, (pa.keep st.k).len, fun h0 => ?_, fun hne => ⟨_, pb.load (o := 2) rfl, ?_⟩⟩
    · have e0 : ops = [] := List.eq_nil_of_length_eq_zero (by omega)
      have e : turnP caps s2 p = (s2, false) := by unfold turnP; rw [gops, e0]
      exact next own2 H22 rv2 bvs2 ovs2 live (by rw [e]; exact st) oo hord hlen (by rw [e, Bool.or_false])
    · cases ops with
      | nil => exact absurd rfl hne
      | cons o r =>
        obtain ⟨w, g1, g2⟩ := op_getK pa st.k (i := 0) (by simp)
        refine ⟨_, _, _, _, _, g1, ?_⟩
        intro H37 d37
        have k37 := d37.keep
        have st37 := st.keep k37
        have hc : codeE o bvs2.length = 0 := by
          rw [st.clen]; exact hok2.ops _ hopm o (by simp)
        have pb37 := (st37.proc p _ _ _ _ px sx ox vx).1
        refine ⟨g2.scal, _, st37.sys.load (o := 4) rfl, _, pb37.load (o := 1) rfl, ?_⟩
        rw [wrap64 (by omega) (by omega)]
        have ht : turnP caps s2 p = if (tryP caps s2.buf o (s2.tick - since)).1.2.2 then
            ({ buf := (tryP caps s2.buf o (s2.tick - since)).2, ops := s2.ops.set p r, since := s2.since.set p (s2.tick + 1), tick := s2.tick, res := s2.res ++ [⟨s2.tick, p, (tryP caps s2.buf o (s2.tick - since)).1.1, (tryP caps s2.buf o (s2.tick - since)).1.2.1⟩] }, true)
            else (s2, liveP o false) := by
          unfold turnP; rw [gops, gsin]
        refine h4 (o := o) (w := w) (waited := s2.tick - since) st37 hfl g2 hc hok2.small fun own4 H44 bvs4 hown4 st44 only44 => ⟨_, _, _, rfl, fun hd => ?_, fun hnd => ?_⟩
        · rw [if_pos hd] at ht
          have pb44 := (st44.proc p _ _ _ _ px sx ox vx).1
          refine ⟨_, st44.sys.load (o := 3) rfl, _, st44.sys.load (o := 4) rfl, _, pb44.load (o := 0) rfl, ?_⟩
          intro b49 H50 n50
          have k50 := n50.keep
          have st50 := st44.keep k50
          have hsum := hok2.sum
          have h37 : H22.length ≤ H37.length := k37.len
          have h44 : H37.length ≤ H44.length := only44.len
          have h50 : H44.length ≤ H50.length := k50.len
          obtain ⟨a51, H52, p1, p2, p3, p4, p5⟩ := Own.push (fl := fl) (bytes := 32) (e := 4) (by decide) st50.res (n50.sl (n := 1) rfl) (Nat.le_trans st50.k.low st50.k.len) hfl rfl (by have : s2.res.length ≤ 40 := by omega
                                                                                                                                                                                          show s2.res.length + 1 ≤ 2 ^ 30
                                                                                                                                                                                          omega) (by decide)
          refine ⟨a51, H52, p1, ?_⟩
          have hsb52 : Box H52 sb _ := st50.sys.frame (p4 sb st50.sys.lt fun ha => by have h1 := st50.oRes _ ha; rw [st50.oSys.1] at h1; cases h1)
          obtain ⟨H53, q1, q2, q3⟩ := hsb52.put (fl := fl) (v := a51) (n := 1) (o := 3) (by rw [p2.scal.1]; rfl) (by simp) (by rw [p2.scal.1, List.all_cons, p2.scal.2]; rfl) (Nat.le_trans hfl st.oSys.2)
          refine ⟨H53, q1, ?_⟩
          rw [p2.scal.1] at q2
          have st53 := st50.setSys (H1 := H52) (own' := fun x => if x < H50.length then own4 x else some .res) (rv' := a51) (res' := s2.res ++ [⟨s2.tick, p, (tryP caps s2.buf o (s2.tick - since)).1.1, (tryP caps s2.buf o (s2.tick - since)).1.2.1⟩]) (t' := s2.tick)
            (fun x hx => if_pos hx)
            (fun b hb => by
              rcases p5 b hb with h1 | h1
              · show (if b < H50.length then own4 b else some Who.res) = _
                rw [if_pos (st50.res.at_lt h1).2]; exact st50.oRes b h1
              · exact if_neg (by omega))
            (by
              have e1 : (s2.res ++ [(⟨s2.tick, p, (tryP caps s2.buf o (s2.tick - since)).1.1, (tryP caps s2.buf o (s2.tick - since)).1.2.1⟩ : Res)]).length = s2.res.length + 1 := by simp
              have e2 : (List.map resC (s2.res ++ [(⟨s2.tick, p, (tryP caps s2.buf o (s2.tick - since)).1.1, (tryP caps s2.buf o (s2.tick - since)).1.2.1⟩ : Res)])).flatten = (s2.res.map resC).flatten ++ [i64 s2.tick, i64 p, i64 (tryP caps s2.buf o (s2.tick - since)).1.1, i64 (tryP caps s2.buf o (s2.tick - since)).1.2.1] := by simp [resC]
              rw [e1, e2]; exact p2)
            ⟨st50.k.low, Nat.le_trans st50.k.len p3, fun x hx => by
              rw [p4 x (Nat.lt_of_lt_of_le hx st50.k.len) fun ha => by have := (st50.res.at_lt ha).1; omega, st50.k.get x hx]⟩
            (fun x hx hn => p4 x hx fun ha => hn (st50.oRes x ha)) q2 q3
          have pb53 := (st53.proc p _ _ _ _ px sx ox vx).1
          obtain ⟨s55, t1, t2⟩ := from_keepT pa st53.k (n := 1) (by simp)
          refine ⟨_, pb53.load (o := 2) rfl, s55, t1, s2.tick, st53.sys.load (o := 4) rfl, ?_⟩
          have hlb := (st.oProc p _ px).2
          obtain ⟨H57, u1, u2, u3⟩ := pb53.put (fl := fl) (v := s55) (n := 1) (o := 2) (by rw [t2.scal.1]; rfl) (by simp) (by rw [t2.scal.1, List.all_cons, t2.scal.2]; rfl) (Nat.le_trans hfl hlb)
          rw [t2.scal.1] at u2
          obtain ⟨H58, w1, w2, w3⟩ := u2.put (fl := fl) (v := i64 (s2.tick + 1)) (n := 1) (o := 1) rfl (by simp [splice]) rfl (Nat.le_trans hfl hlb)
          rw [wrap64 (by omega) (by omega)]
          refine ⟨H57, u1, H58, w1, ?_⟩
          have fin := st53.setProc (p := p) (b := pbs[p]) (x := s2.tick + 1) (l := r) (v := s55) px t2 w2 (keepX_trans u3 w3)
          have hf : ∀ b, At r3 b → H58[b]? = H22[b]? := fun b hb => by
            have ob := hord b hb
            have lb := (oo.at_lt hb).2
            have o4 : own4 b = some .ord := by rw [hown4 b (by omega)]; exact ob
            have n1 : b ≠ pbs[p] := fun e => by
              have := (st.oProc p _ px).1
              rw [← e, ob] at this; cases this
            have n2 : b ≠ sb := fun e => by
              have := st.oSys.1
              rw [← e, ob] at this; cases this
            have n3 : ¬ At rv2 b := fun ha => by
              have := st50.oRes _ ha
              rw [o4] at this; cases this
            have n4 : ∀ w0, own2 b = some w0 → ¬ bufW w0 := fun w0 hw0 hb0 => by
              rw [ob] at hw0; cases hw0
              rcases hb0 with h | ⟨_, h⟩ <;> cases h
            rw [(keepX_trans u3 w3).get b n1, q3.get b n2, p4 b (by omega) n3, k50.get b (by omega), only44.get b (by omega) n4, k37.get b lb]
          refine next _ H58 a51 bvs4 _ _ (by rw [ht]; exact fin) (oo.frame hf) (fun b hb => ?_) ?_ (by rw [ht]; simp [hd])
          · have lb := (oo.at_lt hb).2
            show (if b < H50.length then own4 b else some Who.res) = _
            rw [if_pos (by omega), hown4 b (by omega)]; exact hord b hb
          · rw [(keepX_trans u3 w3).len, q3.len]; omega
        · rw [if_neg hnd] at ht
          rw [try_not hnd] at st44
          have hf : ∀ b, At r3 b → H44[b]? = H22[b]? := fun b hb => by
            have ob := hord b hb
            have lb := (oo.at_lt hb).2
            have h37 : H22.length ≤ H37.length := k37.len
            have n4 : ∀ w0, own2 b = some w0 → ¬ bufW w0 := fun w0 hw0 hb0 => by
              rw [ob] at hw0; cases hw0
              rcases hb0 with h | ⟨_, h⟩ <;> cases h
            rw [only44.get b (by omega) n4, k37.get b lb]
          refine next own4 H44 rv2 bvs4 ovs2 _ (by rw [ht]; exact st44) (oo.frame hf) (fun b hb => ?_) (Nat.le_trans hlen (Nat.le_trans k37.len only44.len)) ?_
          · have lb := (oo.at_lt hb).2
            rw [hown4 b (Nat.lt_of_lt_of_le lb k37.len)]; exact hord b hb
          · rw [ht, Bool.eq_false_iff.2 hnd]
            show _ = (live || liveP o false)
            unfold liveP
            simp only [Bool.or_false, Bool.false_or, Bool.or_assoc]
            rfl
  · rw [List.drop_eq_nil_of_le (by omega), turnsP] at he
    refine ⟨_, st.sys.load (o := 4) rfl, ?_⟩
    have ht := hok2.tick
    rw [wrap64 (by omega) (by omega)]
    obtain ⟨H62, p1, p2, p3⟩ := st.sys.put (fl := fl) (v := i64 (s2.tick + 1)) (n := 1) (o := 4) rfl (by simp) rfl (Nat.le_trans hfl st.oSys.2)
    refine ⟨H62, p1, ?_⟩
    rw [← he] at hq
    refine hq own2 H62 rv2 bvs2 ovs2 (by rw [p3.len]; exact hlen) ?_
    exact st.setSys (H1 := H22) (own' := own2) (rv' := rv2) (res' := s2.res) (t' := s2.tick + 1) (fun _ _ => rfl) st.oRes st.res st.k (fun _ _ _ => rfl) p2 p3

end De
end Go.RM

/-
  A simulation begins: the system is built.
-/
namespace Go.RM
set_option linter.unusedSimpArgs false
set_option linter.unusedVariables false
namespace De
variable {F : Nat → Option RFunc}

theorem arr_getK {α : Type} {T : Ty α} {H0 H : Heap} {v : AV} {l : List (List α)} (h : Arr (tArr T) H0 v l) (k : Keep H0.length H0 H) {i : Nat} (hi : i < l.length) : ∃ w, getA H 1 none v (i : Int) 0 = some w ∧ Arr T H0 w l[i] := by
  obtain ⟨css, h1, h2⟩ := h
  obtain ⟨c, h3, w, rfl, h4⟩ := h1.get hi
  refine ⟨w, (h2.keep k).cell hi (o := 0) (show 0 < 1 by decide) ?_, h4⟩
  have := flat_get h1.lens h3 (o := 0) (show 0 < 1 by decide)
  exact this.trans rfl

section
variable {H0 : Heap} {caps : List Int} {own : Nat → Option Who} {H : Heap} {sb bb : Nat} {cv pv rv : AV} {bvs : List AV} {pbs : List Nat} {ovs : List AV} {s : Sys}

/-- One more process. -/
theorem St.pushProc {H1 H2 H' : Heap} {b : Nat} {w a : AV} {l : List Op} (h : St H0 caps own H sb bb cv pv rv bvs pbs ovs s) (hb1 : b = H.length) (k1 : Keep H.length H H1) (hbx : Box H1 b [i64 pbs.length, i64 0, w]) (hw : Arr tOp H0 w l)
    (ha : Own H0.length H2 1 a (pbs.length + 1) ((pbs.map fun b => .ptr b 0) ++ [.ptr b 0])) (hl2 : H1.length ≤ H2.length) (hf2 : ∀ x, x < H1.length → ¬ At pv x → H2[x]? = H1[x]?) (hat : ∀ x, At a x → At pv x ∨ H1.length ≤ x)
    (hb : Box H' sb [cv, .slice bb 0 bvs.length (some bvs.length), a, rv, i64 s.tick]) (hx : KeepX sb H2 H') : ∃ own', St H0 caps own' H' sb bb cv a rv bvs (pbs ++ [b]) (ovs ++ [w]) { s with ops := s.ops ++ [l], since := s.since ++ [0] } := by
  have hlow := h.k.low
  have hl0 : H0.length ≤ H.length := Nat.le_trans h.k.low h.k.len
  have hl1 := k1.len
  have bl1 := hbx.lt
  refine ⟨fun x => if x < H.length then own x else if x = b then some (.proc pbs.length) else some .procs, ?_⟩
  have hown : ∀ x, x < H.length → (fun x => if x < H.length then own x else if x = b then some (.proc pbs.length) else some Who.procs) x = own x := fun x hx => if_pos hx
  generalize ho : (fun x => if x < H.length then own x else if x = b then some (.proc pbs.length) else some Who.procs) = own' at hown
  have hownb : own' b = some (.proc pbs.length) := by rw [← ho]; show (if _ then _ else _) = _; rw [if_neg (by omega), if_pos rfl]
  have howng : ∀ x, H1.length ≤ x → own' x = some .procs := fun x hx => by rw [← ho]; show (if _ then _ else _) = _; rw [if_neg (by omega), if_neg (by omega)]
  have hfr : ∀ x, x < H.length → own x ≠ some .procs → own x ≠ some .sys → H'[x]? = H[x]? := fun x hxl h1 h2 => by
    rw [hx.get x fun e => h2 (by rw [e]; exact h.oSys.1), hf2 x (by omega) fun ha => h1 (h.oProcs x ha), k1.get x hxl]
  have sl := h.sys.lt
  have bl := h.bufs.lt
  obtain ⟨p1, p2, p3⟩ := h.plen
  have natp : ∀ x, x < H0.length → ¬ At pv x := fun x hx ha => by have := (h.procs.at_lt ha).1; omega
  refine ⟨⟨hlow, by rw [hx.len]; omega, fun x hx0 => ?_⟩, hb, h.cap, h.clen, h.bufs.frame (hfr bb bl (by rw [h.oBufs.1]; simp) (by rw [h.oBufs.1]; simp)), h.blen, h.small, fun i v l h1 h2 => ?_, ?_, by simp [p1, p2, p3], fun i b' x' l' v' h1 h2 h3 h4 => ?_, ?_, ⟨by rw [hown sb sl]; exact h.oSys.1, h.oSys.2⟩, ⟨by rw [hown bb bl]; exact h.oBufs.1, h.oBufs.2⟩, fun i b' h1 => ?_, fun i v b' h1 h2 => ?_, fun b' hb' => ?_, fun b' hb' => ?_⟩
  · rw [hx.get x (by have := h.oSys.2; omega), hf2 x (by omega) (natp x hx0), k1.get x (by omega), h.k.get x hx0]
  · have hgr := h.buf i v l h1 h2
    exact hgr.frame fun b hb' => hfr b (hgr.at_lt hb').2 (by rw [h.oBuf i v b h1 hb']; simp) (by rw [h.oBuf i v b h1 hb']; simp)
  · have := ha.frame (H' := H') fun x hxa => hx.get x fun e => by
      rcases hat x hxa with h1 | h1
      · have := h.oProcs x h1
        rw [e, h.oSys.1] at this; cases this
      · omega
    simpa using this
  · by_cases e : i < pbs.length
    · rw [List.getElem?_append_left e] at h1
      rw [List.getElem?_append_left (by omega)] at h2 h3 h4
      obtain ⟨q1, q2⟩ := h.proc i b' x' l' v' h1 h2 h3 h4
      exact ⟨q1.frame (hfr b' q1.lt (by rw [(h.oProc i b' h1).1]; simp) (by rw [(h.oProc i b' h1).1]; simp)), q2⟩
    · have hi : i = pbs.length := by
        have := (List.getElem?_eq_some_iff.1 h1).1
        simp only [List.length_append, List.length_cons, List.length_nil] at this; omega
      subst hi
      rw [List.getElem?_append_right (Nat.le_refl _), Nat.sub_self] at h1
      rw [List.getElem?_append_right (by omega), p2, Nat.sub_self] at h2
      rw [List.getElem?_append_right (by omega), p1, Nat.sub_self] at h3
      rw [List.getElem?_append_right (by omega), p3, Nat.sub_self] at h4
      cases h1; cases h2; cases h3; cases h4
      refine ⟨hbx.frame ?_, hw⟩
      rw [hx.get b (by omega), hf2 b bl1 fun ha => ?_]
      have := (h.procs.at_lt ha).2; omega
  · exact h.res.frame fun b hb' => hfr b (h.res.at_lt hb').2 (by rw [h.oRes b hb']; simp) (by rw [h.oRes b hb']; simp)
  · by_cases e : i < pbs.length
    · rw [List.getElem?_append_left e] at h1
      refine ⟨?_, (h.oProc i b' h1).2⟩
      obtain ⟨q1, _⟩ := h.proc i b' (s.since[i]'(by omega)) (s.ops[i]'(by omega)) (ovs[i]'(by omega)) h1 (List.getElem?_eq_getElem _) (List.getElem?_eq_getElem _) (List.getElem?_eq_getElem _)
      rw [hown b' q1.lt]; exact (h.oProc i b' h1).1
    · have hi : i = pbs.length := by
        have := (List.getElem?_eq_some_iff.1 h1).1
        simp only [List.length_append, List.length_cons, List.length_nil] at this; omega
      subst hi
      rw [List.getElem?_append_right (Nat.le_refl _), Nat.sub_self] at h1
      cases h1
      exact ⟨hownb, by omega⟩
  · have hil : i < bvs.length := (List.getElem?_eq_some_iff.1 h1).1
    have hgr := h.buf i v (s.buf[i]'(by rw [h.blen]; exact hil)) h1 (List.getElem?_eq_getElem _)
    rw [hown b' (hgr.at_lt h2).2]; exact h.oBuf i v b' h1 h2
  · rw [hown b' (h.res.at_lt hb').2]; exact h.oRes b' hb'
  · rcases hat b' hb' with h1 | h1
    · rw [hown b' (h.procs.at_lt h1).2]; exact h.oProcs b' h1
    · exact howng b' h1

end

theorem startP_take {caps : List Int} {scr : List (List Op)} {j : Nat} (hj : j < scr.length) : startP caps (scr.take (j + 1)) = { startP caps (scr.take j) with ops := (startP caps (scr.take j)).ops ++ [scr[j]], since := (startP caps (scr.take j)).since ++ [0] } := by
  unfold startP
  rw [List.take_succ_eq_append_getElem hj, List.map_append]
  rfl

abbrev NewSysC (F : Nat → Option RFunc) (f : Nat) : Prop := ∀ {fl H Q cv sv} {caps : List Int} {scr : List (List Op)}, Ints H cv caps → Arr (tArr tOp) H sv scr → caps.length ≤ 4 → scr.length ≤ 5 → fl ≤ H.length →
  (∀ own sb bb pv bvs pbs ovs H', St H caps own H' sb bb cv pv .empty bvs pbs ovs (startP caps scr) → Q (.ptr sb 0) H') → Ret F fl f [cv, sv] H Q
theorem newSys_c {f : Nat} (hF : F f = some rf_deadline_newSystem) : NewSysC F f := fun {fl H Q cv sv caps scr} hc hs hcl hsl hfl hq => by
  refine v_deadline_newSystem hF _ _ ?_
  refine ⟨_, hc.len, ⟨by omega, by omega, by omega, by omega⟩, ?_⟩
  rw [Int.toNat_natCast]
  intro b3 H4 n3
  refine ⟨hc.scal, ?_⟩
  intro b6 H7 n6
  have e3 := n3.b_eq
  have e6 := n6.b_eq
  have k7 := n3.keep.call n6.keep
  have l3 := n3.lt
  have hz : zeros caps.length [AV.empty] = List.replicate caps.length .empty := by
    unfold zeros
    induction caps.length with
    | zero => rfl
    | succ n ih => rw [List.replicate_succ, List.flatten_cons, ih, List.replicate_succ]; rfl
  rw [hz] at n3
  have bl : (List.replicate caps.length AV.empty).length = caps.length := List.length_replicate
  have st0 : St H caps (fun x => if x = b6 then some .sys else if x = b3 then some .bufs else none) H7 b6 b3 cv .empty .empty (List.replicate caps.length .empty) [] [] (startP caps (scr.take 0)) := by
    refine ⟨k7, ?_, hc, bl, n3.box.frame (n6.keep.get _ l3), by simp [startP], by rw [bl]; exact hcl, fun i v l h1 h2 => ?_, Own.nil, ⟨by simp [startP], by simp [startP], rfl⟩, fun i b x l v h1 => by simp at h1, ?_, ⟨if_pos rfl, by omega⟩, ⟨?_, by omega⟩, fun i b h1 => by simp at h1, fun i v b h1 h2 => ?_, fun b hb => absurd hb at_empty, fun b hb => absurd hb at_empty⟩
    · rw [bl]; exact n6.box
    · have : v = .empty := by rw [List.getElem?_replicate] at h1; split at h1 <;> simp at h1; exact h1.symm
      subst this
      have : l = [] := by simp only [startP, List.getElem?_map] at h2; cases hx : caps[i]? <;> rw [hx] at h2 <;> simp at h2; exact h2
      subst this
      exact Gr.nil
    · simp only [startP]; exact Own.nil
    · show (if b3 = b6 then _ else _) = _
      rw [if_neg (by omega), if_pos rfl]
    · have : v = .empty := by rw [List.getElem?_replicate] at h1; split at h1 <;> simp at h1; exact h1.symm
      subst this
      exact absurd h2 at_empty
  have hs7 := hs.keep k7
  refine ⟨_, hs7.len, fun m v H' => ∃ (j : Nat) (own2 : Nat → Option Who) (pv2 : AV) (pbs2 : List Nat) (ovs2 : List AV), v = j ∧ j + m = scr.length ∧ St H caps own2 H' b6 b3 cv pv2 .empty (List.replicate caps.length .empty) pbs2 ovs2 (startP caps (scr.take j)), scr.length, ⟨0, _, _, _, _, rfl, by omega, st0⟩, ?_⟩
  rintro m _ H16 ⟨j, own2, pv2, pbs2, ovs2, rfl, hm, st⟩
  refine ⟨fun hlt => ?_, fun hge => ?_⟩
  · have hj : j < scr.length := by omega
    obtain ⟨w, g1, g2⟩ := arr_getK hs st.k hj
    have hpl : pbs2.length = j := by rw [← st.plen.1]; simp [startP]; omega
    refine ⟨w, g1, _, st.sys.load (o := 2) rfl, g2.scal, ?_⟩
    intro b21 H22 n22 b23 H24 n24
    have st22 := st.keep n22.keep
    have st24 := st22.keep n24.keep
    obtain ⟨a25, H26, p1, p2, p3, p4, p5⟩ := Own.push (fl := fl) (bytes := 8) (e := 1) (by decide) st24.procs (n24.sl (n := 1) rfl) (Nat.le_trans st24.k.low st24.k.len) hfl rfl (by rw [hpl]; omega) (by decide)
    refine ⟨a25, H26, p1, ?_⟩
    have hsb26 : Box H26 b6 _ := st24.sys.frame (p4 b6 st24.sys.lt fun ha => by have h1 := st24.oProcs _ ha; rw [st24.oSys.1] at h1; cases h1)
    obtain ⟨H27, q1, q2, q3⟩ := hsb26.put (fl := fl) (v := a25) (n := 1) (o := 2) (by rw [p2.scal.1]; rfl) (by simp) (by rw [p2.scal.1, List.all_cons, p2.scal.2]; rfl) (Nat.le_trans hfl st.oSys.2)
    rw [p2.scal.1] at q2
    refine ⟨H27, q1, ?_⟩
    obtain ⟨own', fin⟩ := st.pushProc (H1 := H24) (H2 := H26) (H' := H27) (b := b21) (w := w) (a := a25) (l := scr[j]) n22.b_eq (n22.keep.call n24.keep) (by rw [hpl]; exact n22.box.frame (n24.keep.get _ n22.lt)) g2 p2 p3 p4 p5 q2 q3
    exact ⟨m - 1, by omega, j + 1, own', a25, _, _, wsucc hj (by omega), by omega, by rw [startP_take hj]; exact fin⟩
  · rw [List.take_of_length_le (by omega)] at st
    exact hq _ _ _ _ _ _ _ _ st

/-- The start is in order. -/
theorem start_ok {caps : List Int} {scr : List (List Op)} (h : valE caps scr = (0, 0)) : Ok caps (startP caps scr) ∧ caps.length ≤ 4 ∧ scr.length ≤ 5 := by
  unfold valE at h
  split at h
  · simp at h
  · rename_i h1
    split at h
    · simp at h
    · rename_i h2
      have capg : ∀ (l : List Int) (i : Int), capE i l = (0, 0) → ∀ c ∈ l, 1 ≤ c ∧ c ≤ 4 := by
        intro l
        induction l with
        | nil => intro i _ c hc; simp at hc
        | cons x l ih =>
          intro i hi c hc
          rw [capE] at hi
          split at hi
          · simp at hi
          · rcases List.mem_cons.1 hc with rfl | hc
            · omega
            · exact ih _ hi c hc
      have opsg : ∀ (l : List Op) (n i : Int), opsE n i l = (0, 0) → ∀ o ∈ l, codeE o n = 0 := by
        intro l
        induction l with
        | nil => intro n i _ o ho; simp at ho
        | cons x l ih =>
          intro n i hi o ho
          rw [opsE] at hi
          split at hi
          · rename_i h0
            rcases List.mem_cons.1 ho with rfl | ho
            · exact h0
            · exact ih _ _ hi o ho
          · rename_i h0
            simp only [Prod.mk.injEq] at hi
            exact absurd hi.1 h0
      have scrg : ∀ (l : List (List Op)) (n i : Int), scrE n i l = (0, 0) → ∀ x ∈ l, x.length ≤ 8 ∧ ∀ o ∈ x, codeE o n = 0 := by
        intro l
        induction l with
        | nil => intro n i _ x hx; simp at hx
        | cons y l ih =>
          intro n i hi x hx
          rw [scrE] at hi
          split at hi
          · simp at hi
          · rename_i h8
            split at hi
            · rename_i h0
              rcases List.mem_cons.1 hx with rfl | hx
              · exact ⟨by omega, opsg _ _ _ h0⟩
              · exact ih _ _ hi x hx
            · rename_i h0
              exact absurd hi h0
      split at h
      · rename_i h3
        have hc := capg _ _ h3
        have hs := scrg _ _ _ h
        refine ⟨⟨hc, by simp [startP], fun l hl o ho => (hs l hl).2 o ho, by simp [startP], fun x hx => ?_, by simp [startP], fun i l hl => ?_, by simp only [startP]; omega, ?_⟩, by omega, by omega⟩
        · simp only [startP, List.mem_map] at hx
          obtain ⟨_, _, rfl⟩ := hx
          simp [startP]
        · have hlt : i < caps.length := by
            have := (List.getElem?_eq_some_iff.1 hl).1
            simpa [startP] using this
          simp only [startP, List.getElem?_map, List.getElem?_eq_getElem hlt, Option.map_some, Option.some.injEq] at hl
          subst hl
          rw [List.getD_eq_getElem?_getD, List.getElem?_eq_getElem hlt]
          have := (hc _ (List.getElem_mem hlt)).1
          simp only [List.length_nil, Option.getD_some]; omega
        · show ([] : List Res).length + (scr.map List.length).sum ≤ 40
          have : ∀ l : List (List Op), (∀ x ∈ l, x.length ≤ 8) → (l.map List.length).sum ≤ 8 * l.length := by
            intro l
            induction l with
            | nil => intro _; simp
            | cons x l ih =>
              intro hl
              have h1 := hl x (by simp)
              have h2 := ih fun y hy => hl y (List.mem_cons_of_mem _ hy)
              simp only [List.map_cons, List.sum_cons, List.length_cons]; omega
          have := this scr fun x hx => (hs x hx).1
          simp only [List.length_nil]; omega
      · rename_i h3; exact absurd h h3

end De
end Go.RM

/-
  A simulation that runs on: it stays in order, it ends, and what is stuck stays as it is.
-/
namespace Go.RM
set_option linter.unusedSimpArgs false
set_option linter.unusedVariables false
namespace De

theorem turns_ok {caps : List Int} : ∀ {l : List Nat} {s : Sys} {b : Bool}, Ok caps s → Ok caps (turnsP caps l s b).1
  | [], _, _, h => h
  | p :: l, s, b, h => turns_ok (l := l) (turn_ok h p)

theorem turn_tick {caps : List Int} {s : Sys} (p : Nat) : (turnP caps s p).1.tick = s.tick := by
  unfold turnP
  split
  · rfl
  · simp only
    split <;> rfl
theorem turns_tick {caps : List Int} : ∀ {l : List Nat} {s : Sys} {b : Bool}, (turnsP caps l s b).1.tick = s.tick
  | [], _, _ => rfl
  | p :: l, s, b => by rw [turnsP, turns_tick, turn_tick]

theorem step_ok {caps : List Int} {s : Sys} (h : Ok caps s) : Ok caps (stepP caps s).1 := by
  have h2 := turns_ok (l := sortP (fun p => s.since.getD p 0) (List.range s.ops.length)) (b := false) h
  unfold stepP
  refine ⟨h2.cap, h2.blen, h2.ops, h2.slen, fun x hx => ?_, ?_, h2.buf, h2.procs, h2.sum⟩
  · have := h2.since x hx
    simp only; omega
  · have := h2.tick
    simp only; omega
theorem step_tick {caps : List Int} {s : Sys} : (stepP caps s).1.tick = s.tick + 1 := by
  unfold stepP
  simp only [turns_tick]

theorem run_add {caps : List Int} : ∀ (a b : Nat) (s : Sys), runP caps (a + b) s = runP caps b (runP caps a s)
  | 0, b, s => by rw [Nat.zero_add]; rfl
  | a + 1, b, s => by rw [Nat.succ_add]; exact run_add a b _
theorem run_succ {caps : List Int} (a : Nat) (s : Sys) : runP caps (a + 1) s = (stepP caps (runP caps a s)).1 := run_add a 1 s
theorem run_ok {caps : List Int} : ∀ (n : Nat) {s : Sys}, Ok caps s → Ok caps (runP caps n s)
  | 0, _, h => h
  | n + 1, _, h => run_ok n (step_ok h)
theorem run_tick {caps : List Int} : ∀ (n : Nat) {s : Sys}, (runP caps n s).tick = s.tick + n
  | 0, s => by simp [runP]
  | n + 1, s => by rw [runP, run_tick n, step_tick]; omega

/-- A turn: nothing is done, or one operation is. -/
theorem turn_cases {caps : List Int} (s : Sys) (p : Nat) : ((turnP caps s p).1 = s ∧ ((turnP caps s p).2 = true → ∃ o r, s.ops.getD p [] = o :: r ∧ liveP o false = true ∧ ¬(tryP caps s.buf o (s.tick - s.since.getD p 0)).1.2.2 = true) ∧
      ((turnP caps s p).2 = false → ∀ o r, s.ops.getD p [] = o :: r → liveP o false = false ∧ ¬(tryP caps s.buf o (s.tick - s.since.getD p 0)).1.2.2 = true)) ∨
    ∃ o r, s.ops.getD p [] = o :: r ∧ (tryP caps s.buf o (s.tick - s.since.getD p 0)).1.2.2 = true ∧ (turnP caps s p).2 = true ∧
      (turnP caps s p).1 = { buf := (tryP caps s.buf o (s.tick - s.since.getD p 0)).2, ops := s.ops.set p r, since := s.since.set p (s.tick + 1), tick := s.tick, res := s.res ++ [⟨s.tick, p, (tryP caps s.buf o (s.tick - s.since.getD p 0)).1.1, (tryP caps s.buf o (s.tick - s.since.getD p 0)).1.2.1⟩] } := by
  unfold turnP
  split
  · rename_i h
    exact .inl ⟨rfl, (fun h => by cases h), (fun _ o r h' => by rw [h] at h'; cases h')⟩
  · rename_i o r h
    simp only
    split
    · rename_i hd
      exact .inr ⟨o, r, h, hd, rfl, rfl⟩
    · rename_i hd
      refine .inl ⟨rfl, fun hl => ⟨o, r, h, hl, hd⟩, fun hl o' r' h' => ?_⟩
      rw [h] at h'; cases h'
      exact ⟨hl, hd⟩

theorem getD_some {l : List (List Op)} {p : Nat} {o : Op} {r : List Op} (h : l.getD p [] = o :: r) : l[p]? = some (o :: r) := by
  rw [List.getD_eq_getElem?_getD] at h
  cases hx : l[p]? with
  | none => rw [hx] at h; simp at h
  | some x => rw [hx] at h; simp only [Option.getD_some] at h; rw [h]

def remain (s : Sys) : Nat := (s.ops.map List.length).sum

theorem turns_all {caps : List Int} : ∀ {l : List Nat} {s : Sys} {b : Bool}, remain (turnsP caps l s b).1 ≤ remain s ∧
    (remain (turnsP caps l s b).1 = remain s → (turnsP caps l s b).1 = s ∧ ((turnsP caps l s b).2 = true → b = true ∨ ∃ p ∈ l, (turnP caps s p).2 = true)) ∧
    ((turnsP caps l s b).2 = false → b = false ∧ (turnsP caps l s b).1 = s ∧ ∀ p ∈ l, (turnP caps s p).1 = s ∧ (turnP caps s p).2 = false)
  | [], s, b => ⟨Nat.le_refl _, fun _ => ⟨rfl, .inl⟩, fun h => ⟨h, rfl, fun p hp => by simp at hp⟩⟩
  | p :: l, s, b => by
    obtain ⟨i1, i2, i3⟩ := turns_all (caps := caps) (l := l) (s := (turnP caps s p).1) (b := b || (turnP caps s p).2)
    rw [turnsP]
    rcases turn_cases (caps := caps) s p with ⟨c1, _, _⟩ | ⟨o, r, c1, c2, c3, c4⟩
    · rw [c1] at i1 i2 i3
      rw [c1]
      refine ⟨i1, fun he => ?_, fun he => ?_⟩
      · obtain ⟨j1, j2⟩ := i2 he
        refine ⟨j1, fun hl => ?_⟩
        rcases j2 hl with h | ⟨q, hq, h⟩
        · rw [Bool.or_eq_true] at h
          rcases h with h | h
          · exact .inl h
          · exact .inr ⟨p, by simp, h⟩
        · exact .inr ⟨q, by simp [hq], h⟩
      · obtain ⟨j1, j2, j3⟩ := i3 he
        rw [Bool.or_eq_false_iff] at j1
        refine ⟨j1.1, j2, fun q hq => ?_⟩
        rcases List.mem_cons.1 hq with rfl | hq
        · exact ⟨c1, j1.2⟩
        · exact j3 q hq
    · have hs : remain (turnP caps s p).1 + 1 = remain s := by
        rw [c4]; exact sum_set (getD_some c1)
      refine ⟨by omega, fun he => by omega, fun he => ?_⟩
      obtain ⟨j1, _⟩ := i3 he
      rw [c3, Bool.or_true] at j1
      cases j1

theorem sort_mem {key : Nat → Int} {n p : Nat} : p ∈ sortP key (List.range n) ↔ p < n := by
  obtain ⟨_, _, h⟩ := sortP_all (key := key) (List.range n)
  rw [h, List.mem_range]

/-- A tick that is not live: nothing happens, and never again. -/
theorem step_quiet {caps : List Int} {s : Sys} (hok : Ok caps s) (h : (stepP caps s).2 = false) (t : Int) : stepP caps { s with tick := t } = ({ s with tick := t + 1 }, false) := by
  unfold stepP at h ⊢
  simp only at h ⊢
  obtain ⟨_, _, h3⟩ := turns_all.2.2 h
  have key : ∀ p, p < s.ops.length → turnP caps { s with tick := t } p = ({ s with tick := t }, false) := by
    intro p hp
    obtain ⟨a1, a2⟩ := h3 p (sort_mem.2 hp)
    rcases turn_cases (caps := caps) s p with ⟨_, _, c⟩ | ⟨o, r, _, _, c3, _⟩
    · have c := c a2
      unfold turnP
      simp only
      split
      · rfl
      · rename_i o r ho
        obtain ⟨d1, d2⟩ := c o r ho
        have hop := getD_some ho
        obtain ⟨⟨k1, k2⟩, _⟩ := code_ok (hok.ops _ (List.mem_of_getElem? hop) o (by simp))
        have : ∀ w w', ¬(tryP caps s.buf o w).1.2.2 = true → ¬(tryP caps s.buf o w').1.2.2 = true := by
          intro w w' hn
          unfold liveP at d1
          unfold tryP at hn ⊢
          split
          · rename_i e; rw [if_pos e] at hn; split at hn <;> simp_all
          · rename_i e; rw [if_neg e] at hn
            split
            · rename_i e; rw [if_pos e] at hn; split at hn <;> simp_all
            · rename_i e; rw [if_neg e] at hn
              split
              · rename_i e; rw [if_pos e] at hn; split at hn <;> simp_all <;> omega
              · rename_i e1 e2 e3
                have : o.k = 4 := by omega
                rw [this] at d1; simp at d1
        rw [if_neg (this _ _ d2)]
        simp only [d1]
    · rw [a2] at c3; cases c3
  have all : ∀ (l : List Nat), (∀ p ∈ l, p < s.ops.length) → turnsP caps l { s with tick := t } false = ({ s with tick := t }, false) := by
    intro l
    induction l with
    | nil => intro _; rfl
    | cons p l ih =>
      intro hl
      rw [turnsP, key p (hl p (by simp)), Bool.or_false]
      exact ih fun q hq => hl q (List.mem_cons_of_mem _ hq)
  rw [all _ fun p hp => sort_mem.1 hp]

theorem run_quiet {caps : List Int} {s : Sys} (hok : Ok caps s) (h : (stepP caps s).2 = false) : ∀ (n : Nat) (t : Int), runP caps n { s with tick := t } = { s with tick := t + n }
  | 0, t => by simp [runP]
  | n + 1, t => by
    rw [runP, step_quiet hok h t, run_quiet hok h n (t + 1)]
    congr 1; omega

/-- No process waits longer than this. -/
def Waits (s : Sys) (D : Nat) : Prop := ∀ p o r, s.ops.getD p [] = o :: r → liveP o false = true → o.w - (s.tick - s.since.getD p 0) ≤ D

theorem start_waits {caps : List Int} {scr : List (List Op)} (h : Ok caps (startP caps scr)) : Waits (startP caps scr) 60 := by
  intro p o r ho hl
  have hop := getD_some ho
  obtain ⟨⟨k1, k2⟩, _, h3, h4⟩ := code_ok (h.ops _ (List.mem_of_getElem? hop) o (by simp))
  have hs : (startP caps scr).since.getD p 0 = 0 := by
    simp only [startP, List.getD_eq_getElem?_getD, List.getElem?_map]
    cases scr[p]? <;> rfl
  rw [hs]
  show o.w - (0 - 0) ≤ 60
  unfold liveP at hl
  have : o.k = 4 ∨ o.k = 3 := by
    cases e : decide (o.k = 4) <;> simp_all
  rcases this with e | e
  · have := h4 e; omega
  · have := (h3 e).2.2.2; omega

theorem live_wait {caps : List Int} {buf : List (List Int)} {o : Op} {x : Int} (hl : liveP o false = true) (hd : ¬(tryP caps buf o x).1.2.2 = true) : x < o.w ∧ o.k ≠ 1 ∧ o.k ≠ 2 := by
  unfold liveP at hl
  simp only [Bool.false_or, Bool.or_eq_true, Bool.and_eq_true, beq_iff_eq, decide_eq_true_eq] at hl
  unfold tryP at hd
  rcases hl with e | ⟨e, ew⟩
  · rw [if_neg (by omega), if_neg (by omega), if_neg (by omega)] at hd
    simp only [decide_eq_true_eq] at hd
    omega
  · rw [if_neg (by omega), if_neg (by omega), if_pos (by omega)] at hd
    split at hd
    · exact absurd rfl hd
    · simp only [Bool.and_eq_true, decide_eq_true_eq, not_and] at hd
      have := hd ew
      omega

theorem step_waits {caps : List Int} {s : Sys} {D : Nat} (hok : Ok caps s) (hw : Waits s D) (hD : D ≤ 60) (hl : (stepP caps s).2 = true) :
    ∃ D', D' ≤ 60 ∧ Waits (stepP caps s).1 D' ∧ 61 * remain (stepP caps s).1 + D' < 61 * remain s + D := by
  have hok2 := turns_ok (l := sortP (fun p => s.since.getD p 0) (List.range s.ops.length)) (b := false) hok
  obtain ⟨t1, t2, _⟩ := turns_all (caps := caps) (l := sortP (fun p => s.since.getD p 0) (List.range s.ops.length)) (s := s) (b := false)
  unfold stepP at hl ⊢
  simp only at hl ⊢
  by_cases he : remain (turnsP caps (sortP (fun p => s.since.getD p 0) (List.range s.ops.length)) s false).1 = remain s
  · obtain ⟨a1, a2⟩ := t2 he
    rcases a2 hl with h | ⟨p, hp, h⟩
    · cases h
    · rw [a1]
      rcases turn_cases (caps := caps) s p with ⟨_, c, _⟩ | ⟨o, r, c1, _, _, c4⟩
      · obtain ⟨o, r, ho, hlv, hnd⟩ := c h
        have w1 := hw p o r ho hlv
        have w2 := (live_wait hlv hnd).1
        refine ⟨D - 1, by omega, fun q o' r' ho' hl' => ?_, ?_⟩
        · have := hw q o' r' ho' hl'
          simp only; omega
        · show 61 * remain s + (D - 1) < _
          omega
      · -- an operation is done: fewer remain
        exfalso
        -- the state after all turns is the same, but p's turn takes one away
        have hdone : ∀ (l : List Nat) (s' : Sys) (b : Bool), s' = s → p ∈ l → remain (turnsP caps l s' b).1 < remain s := by
          intro l
          induction l with
          | nil => intro s' b _ hpl; simp at hpl
          | cons q l ih =>
            intro s' b hs hpl
            subst hs
            rw [turnsP]
            rcases turn_cases (caps := caps) s' q with ⟨e1, _, _⟩ | ⟨o', r', e1, _, _, e4⟩
            · rcases List.mem_cons.1 hpl with rfl | hpl
              · rw [c4] at e1
                have h1 := congrArg remain e1
                have h2 : remain { buf := (tryP caps s'.buf o (s'.tick - s'.since.getD p 0)).2, ops := s'.ops.set p r, since := s'.since.set p (s'.tick + 1), tick := s'.tick, res := s'.res ++ [⟨s'.tick, p, (tryP caps s'.buf o (s'.tick - s'.since.getD p 0)).1.1, (tryP caps s'.buf o (s'.tick - s'.since.getD p 0)).1.2.1⟩] } + 1 = remain s' := sum_set (getD_some c1)
                omega
              · exact ih _ _ e1 hpl
            · have hs : remain (turnP caps s' q).1 + 1 = remain s' := by rw [e4]; exact sum_set (getD_some e1)
              have := (turns_all (caps := caps) (l := l) (s := (turnP caps s' q).1) (b := b || (turnP caps s' q).2)).1
              omega
        have := hdone _ s false rfl hp
        omega
  · refine ⟨60, Nat.le_refl _, fun q o' r' ho' hl' => ?_, ?_⟩
    · simp only at ho' ⊢
      have hop := getD_some ho'
      obtain ⟨⟨k1, k2⟩, _, h3, h4⟩ := code_ok (hok2.ops _ (List.mem_of_getElem? hop) o' (by simp))
      have hq : q < (turnsP caps (sortP (fun p => s.since.getD p 0) (List.range s.ops.length)) s false).1.since.length := by
        rw [hok2.slen]; exact (List.getElem?_eq_some_iff.1 hop).1
      have hsin := hok2.since _ (List.getElem_mem hq)
      rw [List.getD_eq_getElem?_getD, List.getElem?_eq_getElem hq, Option.getD_some]
      have hk : o'.k = 4 ∨ o'.k = 3 := by
        unfold liveP at hl'
        cases e : decide (o'.k = 4) <;> simp_all
      rcases hk with e | e
      · have := h4 e; omega
      · have := (h3 e).2.2.2; omega
    · show 61 * remain (turnsP caps _ s false).1 + 60 < _
      omega

end De
end Go.RM

/-
  Run and Stuck as contracts.
-/
namespace Go.RM
set_option linter.unusedSimpArgs false
set_option linter.unusedVariables false
namespace De
variable {F : Nat → Option RFunc}

def tRes : Ty Res := tEnc 4 resC (by decide) (fun _ => rfl) (fun _ => rfl)

theorem all2_res {H : Heap} : ∀ (l : List Res), All2 (tRes.rel H) (l.map resC) l
  | [] => trivial
  | _ :: l => ⟨rfl, all2_res l⟩
theorem sl_res {H : Heap} {v : AV} {l : List Res} (h : Sl H 4 v l.length (l.map resC).flatten) : Arr tRes H v l := ⟨⟨l.map resC, all2_res l, h⟩⟩

def runE (caps : List Int) (scr : List (List Op)) (n : Int) : Int × Int := if valE caps scr = (0, 0) ∧ (n < 0 ∨ n > 60) then (3, -20) else valE caps scr

abbrev RunC (F : Nat → Option RFunc) (f : Nat) : Prop := ∀ {fl H Q cv sv} {caps : List Int} {scr : List (List Op)} {n : Int}, Ints H cv caps → Arr (tArr tOp) H sv scr → fl ≤ H.length →
  (runE caps scr n ≠ (0, 0) → ∀ H', Keep H.length H H' → Q (.tuple [.empty, .empty, flt (runE caps scr n).1 (runE caps scr n).2]) H') →
  (runE caps scr n = (0, 0) → ∀ rv lv H', Keep H.length H H' → Arr tRes H' rv (runP caps n.toNat (startP caps scr)).res → Ints H' lv ((runP caps n.toNat (startP caps scr)).ops.map fun l => (l.length : Int)) → Q (.tuple [rv, lv, flt 0 0]) H') →
  Ret F fl f [cv, sv, i64 n] H Q
theorem run_c {f n1 n2 n3 : Nat} (hF : F f = some (rf_deadline_Run n1 n2 n3)) (h1 : ValC F n1) (h2 : NewSysC F n2) (h3 : StepC F n3) : RunC F f := fun {fl H Q cv sv caps scr n} hc hs hfl hq1 hq2 => by
  refine v_deadline_Run hF _ _ _ ?_
  intro H3 d3
  have k3 := d3.keep
  refine h1 (hc.keep k3) (hs.keep k3) (k3.fl hfl) fun H6 k6' => ⟨_, _, rfl, ?_⟩
  have k6 := k3.call k6'
  intro H8 d8
  have k8 := k6.call d8.keep
  refine ⟨fun a b => (a, b) = runE caps scr n, ⟨fun ⟨⟨a, b, _⟩, c⟩ => ?_, fun hn => ?_⟩, ?_⟩
  · unfold runE
    rw [if_pos ⟨Prod.ext a b, c⟩]
  · unfold runE
    rw [if_neg fun ⟨a, c⟩ => hn ⟨⟨by rw [a], by rw [a], trivial⟩, c⟩]
  · intro f10 f11 he
    refine ⟨fun hf => ?_, fun hf => ?_⟩
    · have := hq1 (by rw [← he]; intro e; simp only [Prod.mk.injEq] at e; exact hf ⟨e.1, e.2, trivial⟩) H8 k8
      rw [← he] at this; exact this
    · obtain ⟨rfl, rfl, _⟩ := Classical.not_not.1 hf
      have hv : valE caps scr = (0, 0) ∧ 0 ≤ n ∧ n ≤ 60 := by
        unfold runE at he
        split at he
        · simp at he
        · rename_i h; have nb : ¬(n < 0 ∨ n > 60) := fun c => h ⟨he.symm, c⟩; exact ⟨he.symm, by omega, by omega⟩
      obtain ⟨ok0, c4, s5⟩ := start_ok hv.1
      refine h2 (hc.keep k8) (hs.keep k8) c4 s5 (k8.fl hfl) fun own sb bb pv bvs pbs ovs H14 st14 => ?_
      refine ⟨fun m v H' => ∃ (j : Nat) (own2 : Nat → Option Who) (rv2 : AV) (bvs2 ovs2 : List AV), v = j ∧ j + m = n.toNat ∧ St H8 caps own2 H' sb bb cv pv rv2 bvs2 pbs ovs2 (runP caps j (startP caps scr)), n.toNat, ⟨0, own, .empty, bvs, ovs, rfl, by omega, st14⟩, ?_⟩
      rintro m _ H21 ⟨j, own2, rv2, bvs2, ovs2, rfl, hm, st⟩
      have hokj := run_ok j ok0
      have htj := run_tick (caps := caps) j (s := startP caps scr)
      refine ⟨fun hlt => ?_, fun hge => ?_⟩
      · refine h3 st hokj (k8.fl hfl) (by rw [htj]; simp only [startP]; omega) fun own' H' rv' bvs' ovs' hl st' => ⟨_, rfl, m - 1, by omega, j + 1, own', rv', bvs', ovs', wsucc (n := n.toNat) (by omega) (by omega), by omega, ?_⟩
        rw [run_succ]; exact st'
      · have hj : j = n.toNat := by omega
        subst hj
        obtain ⟨p1, p2, p3⟩ := st.plen
        have k21 := k8.call st.k
        refine ⟨sb, 0, rfl, _, st.sys.load (o := 2) rfl, _, st.procs.len, ?_⟩
        refine ⟨fun m v w H' => ∃ i : Nat, v = i ∧ i + m = pbs.length ∧ Keep H21.length H21 H' ∧ Acc H21 tInt H' w (((runP caps n.toNat (startP caps scr)).ops.map fun l => (l.length : Int)).take i), pbs.length, ⟨0, rfl, by omega, Keep.refl _, Acc.nil⟩, ?_⟩
        rintro m _ w H37 ⟨i, rfl, hm, hk, hw⟩
        have st37 := st.keep hk
        refine ⟨fun hlt => ?_, fun hge => ?_⟩
        · have hi : i < pbs.length := by omega
          have eget : getA H37 1 none pv (i : Int) 0 = some (.ptr pbs[i] 0) := by
            refine st37.procs.sl.cell (by omega) (by decide) ?_
            rw [Nat.mul_one, Nat.add_zero, List.getElem?_map, List.getElem?_eq_getElem hi]
            rfl
          obtain ⟨pb, pa⟩ := st37.proc i _ _ _ _ (List.getElem?_eq_getElem hi) (List.getElem?_eq_getElem (by omega)) (List.getElem?_eq_getElem (by omega)) (List.getElem?_eq_getElem (by omega))
          refine ⟨_, eget, _, _, rfl, _, pb.load (o := 2) rfl, _, (pa.keep st37.k).len, ?_⟩
          intro b44 H45 n45
          obtain ⟨w', H47, q1, q2, q3, _⟩ := hw.push (fl := fl) (free := true) (bytes := 8) (a := (((runP caps n.toNat (startP caps scr)).ops[i]'(by omega)).length : Int)) rfl n45 hk (k21.fl hfl) (by rw [List.length_take, List.length_map]; have := hokj.procs; omega) (by omega)
          refine ⟨w', H47, q1, m - 1, by omega, i + 1, wsucc hi (by have := hokj.procs; omega), by omega, q3, ?_⟩
          rw [List.take_succ_eq_append_getElem (by rw [List.length_map]; omega), List.getElem_map]
          exact q2
        · refine ⟨_, st37.sys.load (o := 3) rfl, ?_⟩
          rw [List.take_of_length_le (by rw [List.length_map]; omega)] at hw
          exact hq2 he.symm _ _ H37 (k8.call st37.k) (sl_res st37.res.sl) (hw.arr hk)

def stuckL : Int → List (List Op) → List Int
  | _, [] => []
  | i, l :: r => if l.length > 0 then i :: stuckL (i + 1) r else stuckL (i + 1) r
abbrev StuckC (F : Nat → Option RFunc) (f : Nat) : Prop := ∀ {fl H Q cv sv} {caps : List Int} {scr : List (List Op)}, Ints H cv caps → Arr (tArr tOp) H sv scr → fl ≤ H.length →
  (valE caps scr ≠ (0, 0) → ∀ H', Keep H.length H H' → Q (.tuple [.empty, flt (valE caps scr).1 (valE caps scr).2]) H') →
  (valE caps scr = (0, 0) → ∀ w H', Keep H.length H H' → Ints H' w (stuckL 0 (runP caps 2600 (startP caps scr)).ops) → Q (.tuple [w, flt 0 0]) H') →
  Ret F fl f [cv, sv] H Q
theorem stuck_c {f n1 n2 n3 : Nat} (hF : F f = some (rf_deadline_Stuck n1 n2 n3)) (h1 : ValC F n1) (h2 : NewSysC F n2) (h3 : StepC F n3) : StuckC F f := fun {fl H Q cv sv caps scr} hc hs hfl hq1 hq2 => by
  refine v_deadline_Stuck hF _ _ ?_
  intro H3 d3
  have k3 := d3.keep
  refine h1 (hc.keep k3) (hs.keep k3) (k3.fl hfl) fun H6 k6' => ⟨_, _, rfl, ?_⟩
  have k6 := k3.call k6'
  intro H8 d8
  have k8 := k6.call d8.keep
  refine ⟨fun hn => ?_, fun hn => ?_⟩
  · exact hq1 (fun e => hn ⟨by rw [e], by rw [e], trivial⟩) H8 k8
  · obtain ⟨a, b, _⟩ := Classical.not_not.1 hn
    have hv : valE caps scr = (0, 0) := Prod.ext a b
    rw [a, b]
    obtain ⟨ok0, c4, s5⟩ := start_ok hv
    refine h2 (hc.keep k8) (hs.keep k8) c4 s5 (k8.fl hfl) fun own sb bb pv bvs pbs ovs H14 st14 => ?_
    have hsum := ok0.sum
    refine ⟨fun m H' => ∃ (j D : Nat) (own2 : Nat → Option Who) (rv2 : AV) (bvs2 ovs2 : List AV), D ≤ 60 ∧ Waits (runP caps j (startP caps scr)) D ∧ m = 61 * remain (runP caps j (startP caps scr)) + D ∧ j + m ≤ 2500 ∧ St H8 caps own2 H' sb bb cv pv rv2 bvs2 pbs ovs2 (runP caps j (startP caps scr)), 61 * remain (startP caps scr) + 60,
      ⟨0, 60, own, .empty, bvs, ovs, Nat.le_refl _, start_waits ok0, rfl, by
        have : remain (startP caps scr) ≤ 40 := by unfold remain; omega
        omega, st14⟩, ?_⟩
    rintro m H21 ⟨j, D, own2, rv2, bvs2, ovs2, hD, hw, rfl, hj, st⟩
    have hokj := run_ok j ok0
    have htj := run_tick (caps := caps) j (s := startP caps scr)
    refine h3 st hokj (k8.fl hfl) (by rw [htj]; simp only [startP]; omega) fun own' H' rv' bvs' ovs' hl st' => ⟨_, rfl, fun hlive => ?_, fun hlive => ?_⟩
    · obtain ⟨D', d1, d2, d3⟩ := step_waits hokj hw hD hlive
      rw [← run_succ] at st' d2 d3
      exact ⟨_, d3, j + 1, D', own', rv', bvs', ovs', d1, d2, rfl, by omega, st'⟩
    · have hf : (stepP caps (runP caps j (startP caps scr))).2 = false := Bool.eq_false_iff.2 hlive
      have e1 := step_quiet hokj hf (runP caps j (startP caps scr)).tick
      have e2 : (runP caps 2600 (startP caps scr)).ops = (runP caps j (startP caps scr)).ops := by
        have : 2600 = j + (2600 - j) := by omega
        rw [this, run_add]
        have := run_quiet hokj hf (2600 - j) (runP caps j (startP caps scr)).tick
        rw [show ({ runP caps j (startP caps scr) with tick := (runP caps j (startP caps scr)).tick } : Sys) = runP caps j (startP caps scr) from rfl] at this
        rw [this]
      rw [show ({ runP caps j (startP caps scr) with tick := (runP caps j (startP caps scr)).tick } : Sys) = runP caps j (startP caps scr) from rfl] at e1
      rw [e1] at st'
      rw [e2] at hq2
      generalize hs : ({ runP caps j (startP caps scr) with tick := (runP caps j (startP caps scr)).tick + 1 } : Sys) = s at st'
      have hops : (runP caps j (startP caps scr)).ops = s.ops := by rw [← hs]
      have hprocs := hokj.procs
      rw [hops] at hq2 hprocs
      replace st' : St H8 caps own' H' sb bb cv pv rv' bvs' pbs ovs' s := st'
      obtain ⟨p1, p2, p3⟩ := st'.plen
      have k21 := k8.call st'.k
      refine ⟨sb, 0, rfl, _, st'.sys.load (o := 2) rfl, _, st'.procs.len, ?_⟩
      refine ⟨fun m v w H2 => ∃ (i : Nat) (l : List Int), v = i ∧ i + m = pbs.length ∧ Keep H'.length H' H2 ∧ Acc H' tInt H2 w l ∧ l.length ≤ i ∧ stuckL 0 s.ops = l ++ stuckL i (s.ops.drop i), pbs.length, ⟨0, [], rfl, by omega, Keep.refl _, Acc.nil, Nat.le_refl _, by rw [List.drop_zero]; rfl⟩, ?_⟩
      rintro m _ w H37 ⟨i, l, rfl, hm, hk, hw, hl, he⟩
      have st37 := st'.keep hk
      refine ⟨fun hlt => ?_, fun hge => ?_⟩
      · have hi : i < pbs.length := by omega
        have hio : i < s.ops.length := by omega
        have eget : getA H37 1 none pv (i : Int) 0 = some (.ptr pbs[i] 0) := by
          refine st37.procs.sl.cell (by omega) (by decide) ?_
          rw [Nat.mul_one, Nat.add_zero, List.getElem?_map, List.getElem?_eq_getElem hi]
          rfl
        obtain ⟨pb, pa⟩ := st37.proc i _ _ _ _ (List.getElem?_eq_getElem hi) (List.getElem?_eq_getElem (by omega)) (List.getElem?_eq_getElem hio) (List.getElem?_eq_getElem (by omega))
        rw [List.drop_eq_getElem_cons hio, stuckL] at he
        refine ⟨_, eget, _, _, rfl, _, pb.load (o := 2) rfl, _, (pa.keep st37.k).len, fun h0 => ?_, fun h0 => ⟨m - 1, by omega, i + 1, l, wsucc hi (by omega), by omega, hk, hw, by omega, ?_⟩⟩
        · refine ⟨_, pb.load (o := 0) rfl, ?_⟩
          intro b40 H41 n40
          obtain ⟨w', H43, q1, q2, q3, _⟩ := hw.push (fl := fl) (free := true) (bytes := 8) (a := (i : Int)) rfl n40 hk (k21.fl hfl) (by omega) (by omega)
          refine ⟨w', H43, q1, m - 1, by omega, i + 1, l ++ [(i : Int)], wsucc hi (by omega), by omega, q3, q2, by simp; omega, ?_⟩
          rw [if_pos (by omega)] at he
          rw [he, List.append_assoc]; rfl
        · rw [if_neg (by omega)] at he
          exact he
      · rw [List.drop_eq_nil_of_le (by omega), stuckL, List.append_nil] at he
        rw [he] at hq2
        exact hq2 hv _ H37 (k8.call st37.k) (hw.arr hk)

end De
end Go.RM

