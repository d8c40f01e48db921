import Derived.Test.YtpjbnjgckbhohaaSpC3
/-
  speculate: Plan.
-/
namespace Go.RM
set_option linter.unusedSimpArgs false
set_option linter.unusedVariables false
namespace Sp
variable {F : Nat → Option RFunc}

abbrev CmpC (F : Nat → Option RFunc) (f : Nat) : Prop := ∀ {fl H Q x y}, (∀ r : Int, (r < 0 ↔ x < y) → Q (i64 r) H) → Ret F fl f [i64 x, i64 y] H Q
theorem compare_c {f n1 : Nat} (hF : F f = some (rf_cmp_Compare_int n1)) (h1 : F n1 = some rf_cmp_isNaN_int) : CmpC F f := fun {fl H Q x y} hq => by
  refine v_cmp_Compare_int hF _ _ ?_
  refine v_cmp_isNaN_int h1 _ ?_
  refine ⟨_, rfl, ?_⟩
  refine v_cmp_isNaN_int h1 _ ?_
  refine ⟨_, rfl, fun h => by simp at h, fun _ => ⟨fun h => by simp at h, fun _ => ⟨fun h => hq _ (by omega), fun h => ⟨fun h2 => hq _ (by omega), fun h2 => hq _ (by omega)⟩⟩⟩⟩

theorem planx_g {g n1 fl : Nat} (hF : F g = some (rf_speculate_Planx1 n1)) (h1 : CmpC F n1) (E : Enc) : CmpG F fl g E (fun x => - E.fC x) := fun {H Q} x y hq => by
  refine v_speculate_Planx1 hF _ _ _ _ _ _ ?_
  intro H6 d6 H7 d7
  have k7 := d6.keep.call d7.keep
  refine h1 fun r hr => ⟨_, rfl, hq r H7 k7 (by rw [hr]; show _ ↔ - E.fC x < - E.fC y; omega)⟩

/-- The runs that may be planned, by change and weight. -/
def runOf (p : Nat × Nat) : Run := ⟨(p.1 : Int), bitsL p.2 p.1⟩
def itemsL (l : List Int) (last s : Nat) : List (Nat × Nat) := ((List.range s).map fun w => (last, w)).filter fun p => decide (chE l (runOf p) > 0)
def allL (l : List Int) : Nat → List (Nat × Nat)
  | 0 => []
  | n + 1 => allL l n ++ itemsL l n (2 ^ n)
theorem itemsL_succ {l : List Int} {last s : Nat} : itemsL l last (s + 1) = if chE l (runOf (last, s)) > 0 then itemsL l last s ++ [(last, s)] else itemsL l last s := by
  unfold itemsL
  rw [List.range_succ, List.map_append, List.filter_append]
  by_cases h : chE l (runOf (last, s)) > 0
  · rw [if_pos h]; simp [List.filter_cons, h]
  · rw [if_neg h]; simp [List.filter_cons, h]
theorem itemsL_len {l : List Int} {last s : Nat} : (itemsL l last s).length ≤ s := by
  unfold itemsL
  exact Nat.le_trans (List.length_filter_le _ _) (by simp)
theorem allL_len {l : List Int} : ∀ {n : Nat}, (allL l n).length ≤ 2 ^ n
  | 0 => by simp [allL]
  | n + 1 => by
    rw [allL, List.length_append, Nat.pow_succ]
    have := allL_len (l := l) (n := n)
    have := itemsL_len (l := l) (last := n) (s := 2 ^ n)
    omega

/-- A planned run: its slice, its number, its chance. -/
abbrev cellP (l : List Int) (x : AV × (Nat × Nat)) : List AV := [i64 (x.2.1 : Int), x.1, i64 (chE l (runOf x.2))]

structure PL (l : List Int) (n : Nat) (own : Nat → Bool) (H : Heap) (av : AV) (xs : List (AV × (Nat × Nat))) : Prop where
  all : Own n H 3 av xs.length (xs.map (cellP l)).flatten
  ws : ∀ x ∈ xs, Gr n H 1 x.1 (runOf x.2).w.length (ints (runOf x.2).w)
  oA : ∀ b, At av b → own b = true
  oW : ∀ x ∈ xs, ∀ b, At x.1 b → own b = false

theorem PL.keep {l : List Int} {n : Nat} {own : Nat → Bool} {H H' : Heap} {av : AV} {xs : List (AV × (Nat × Nat))} (h : PL l n own H av xs) (k : Keep H.length H H') : PL l n own H' av xs :=
  ⟨h.all.keep k, fun x hx => (h.ws x hx).keep k, h.oA, h.oW⟩
theorem gr_less {n m e k : Nat} {H : Heap} {v : AV} {cs : List AV} (h : Gr n H e v k cs) (hm : m ≤ n) : Gr m H e v k cs := by
  rcases h.out with g | ⟨b, off, lim, kb, h1, h2, h3⟩
  · exact ⟨h.small, .inl g⟩
  · exact ⟨h.small, .inr ⟨b, off, lim, kb, h1, Nat.le_trans hm h2, h3⟩⟩
theorem gr_ints {n : Nat} {H : Heap} {v : AV} {l : List Int} (h : Gr n H 1 v l.length (ints l)) : Ints H v l := ⟨⟨l.map fun x => [i64 x], All2.ints l, by rw [← Row.flat]; exact h.sl⟩⟩
theorem ints_css {H : Heap} : ∀ {css : List (List AV)} {l : List Int}, All2 (tInt.rel H) css l → css.flatten = ints l
  | [], [], _ => rfl
  | c :: css, a :: l, ⟨h1, h2⟩ => by
    have : c = [i64 a] := h1
    rw [List.flatten_cons, this, ints_css h2]; rfl
  | [], _ :: _, h => h.elim
  | _ :: _, [], h => h.elim
theorem acc_gr {H0 H : Heap} {v : AV} {l : List Int} (h : Acc H0 tInt H v l) : Gr H0.length H 1 v l.length (ints l) := by
  obtain ⟨css, h1, h2⟩ := h
  rw [← ints_css h1]; exact h2

theorem PL.push {l : List Int} {n b fl : Nat} {own : Nat → Bool} {H0 H H1 : Heap} {av w : AV} {xs : List (AV × (Nat × Nat))} {p : Nat × Nat} (h : PL l n own H0 av xs) (k : Keep H0.length H0 H) (hw : Acc H tInt H w (runOf p).w ∨ Gr H0.length H 1 w (runOf p).w.length (ints (runOf p).w)) (hH : H0.length ≤ H.length) (hn : n ≤ H0.length) (hfl : fl ≤ n)
    (hb : NewB H 3 (cellP l (w, p)) b H1) (hlen : xs.length ≤ 2 ^ 20) : ∃ a H2, appA fl true 3 40 H1 av (.slice b 0 1 (some 1)) = some (a, H2) ∧ H1.length ≤ H2.length ∧ (∀ b, b < H1.length → ¬ At av b → H2[b]? = H1[b]?) ∧ ∃ own', PL l n own' H2 a (xs ++ [(w, p)]) := by
  have hw' : Gr H0.length H 1 w (runOf p).w.length (ints (runOf p).w) := by
    rcases hw with hw | hw
    · exact gr_less (acc_gr hw) hH
    · exact hw
  have h1 := (h.keep k).keep hb.keep
  have w1 := hw'.keep hb.keep
  obtain ⟨a, H2, p1, p2, p3, p4, p5⟩ := Own.push (fl := fl) (bytes := 40) (e := 3) (by decide) h1.all (hb.sl (n := 1) rfl) (by have := hb.keep.len; omega) hfl (by
    show (true && (w.scalar && (true && true))) = true
    rw [hw'.sl.scal.2]; rfl) (by omega) (by decide)
  have hl1 := hb.keep.len
  have atav : ∀ y, At av y → y < H0.length := fun y hy => (h.all.at_lt hy).2
  refine ⟨a, H2, p1, p3, p4, fun y => if y < H0.length then own y else decide (H1.length ≤ y), ?_, fun x hx => ?_, fun y hy => ?_, fun x hx y hy => ?_⟩
  · simpa using p2
  · rcases List.mem_append.1 hx with hx | hx
    · exact (h1.ws x hx).frame fun y hy => p4 y ((h1.ws x hx).at_lt hy).2 fun ha => by
        have e1 := h.oA y ha
        rw [h.oW x hx y hy] at e1; cases e1
    · rw [List.mem_singleton.1 hx]
      exact gr_less (w1.frame fun y hy => p4 y (w1.at_lt hy).2 fun ha => by
        have := (w1.at_lt hy).1
        have := atav y ha
        omega) hn
  · show (if y < H0.length then own y else decide (H1.length ≤ y)) = true
    rcases p5 y hy with ha | ha
    · rw [if_pos (atav y ha)]; exact h.oA y ha
    · rw [if_neg (by omega)]; exact decide_eq_true ha
  · show (if y < H0.length then own y else decide (H1.length ≤ y)) = false
    rcases List.mem_append.1 hx with hx | hx
    · rw [if_pos ((h.ws x hx).at_lt hy).2]; exact h.oW x hx y hy
    · rw [List.mem_singleton.1 hx] at hy
      have := (w1.at_lt hy)
      rw [if_neg (by omega)]; exact decide_eq_false (by omega)

theorem bit_and {w i : Nat} (hi : i ≤ 20) (hw : w ≤ 2 ^ 20) : IntKind.wrap .i64 (((BitVec.ofInt (IntKind.bits .i64) (Int.fdiv (w : Int) (2 ^ (Min.min (Int.toNat (i : Int)) (IntKind.bits .i64)))) &&& BitVec.ofInt (IntKind.bits .i64) 1).toNat : Int)) = (bit w i : Nat) := by
  have e1 : Min.min (Int.toNat (i : Int)) (IntKind.bits .i64) = i := by
    rw [Int.toNat_natCast, show IntKind.bits .i64 = 64 from rfl]; omega
  have e2 : Int.fdiv (w : Int) (2 ^ i) = ((w / 2 ^ i : Nat) : Int) := by
    rw [Int.fdiv_eq_ediv_of_nonneg _ (Int.pow_nonneg (by decide))]
    norm_cast
  rw [e1, e2]
  have hle : w / 2 ^ i ≤ w := Nat.div_le_self _ _
  have e3 : (BitVec.ofInt (IntKind.bits .i64) ((w / 2 ^ i : Nat) : Int) &&& BitVec.ofInt (IntKind.bits .i64) 1).toNat = bit w i := by
    rw [BitVec.toNat_and]
    have x1 : (BitVec.ofInt (IntKind.bits .i64) ((w / 2 ^ i : Nat) : Int)).toNat = w / 2 ^ i := by
      rw [BitVec.ofInt_natCast, BitVec.toNat_ofNat, show IntKind.bits .i64 = 64 from rfl]
      exact Nat.mod_eq_of_lt (by omega)
    have x2 : (BitVec.ofInt (IntKind.bits .i64) 1).toNat = 1 := by decide
    rw [x1, x2, Nat.and_one_is_mod]; rfl
  rw [e3]
  have : bit w i < 2 := Nat.mod_lt _ (by decide)
  rw [wrap64 (by omega) (by omega)]

theorem shl1 {n : Nat} (h : n ≤ 20) : IntKind.wrap .i64 (1 * 2 ^ (Min.min (Int.toNat (n : Int)) (IntKind.bits .i64))) = ((2 ^ n : Nat) : Int) := by
  have e1 : Min.min (Int.toNat (n : Int)) (IntKind.bits .i64) = n := by
    rw [Int.toNat_natCast, show IntKind.bits .i64 = 64 from rfl]; omega
  have e2 : (2 : Int) ^ n = ((2 ^ n : Nat) : Int) := by norm_cast
  have e3 : 2 ^ n ≤ 2 ^ 20 := Nat.pow_le_pow_right (by decide) h
  rw [e1, Int.one_mul, e2]
  generalize 2 ^ n = x at e3
  rw [wrap64 (by omega) (by omega)]

end Sp
end Go.RM

/-
  speculate: Plan as a contract.
-/
namespace Go.RM
set_option linter.unusedSimpArgs false
set_option linter.unusedVariables false
namespace Sp
variable {F : Nat → Option RFunc}

def planF (l : List Int) (budget : Int) : Int × Int := if percE l = (0, 0) then (if budget < 0 ∨ budget > 16 then (3, -2) else (0, 0)) else percE l
def runAt (l : List Int) (x : Nat) : Run := runOf ((allL l l.length).getD x (0, 0))
def keyA (l : List Int) (x : Nat) : Int := - chE l (runAt l x)
/-- The runs that are planned. -/
def PlanIs (l : List Int) (budget : Int) (L : List Run) : Prop :=
  if planF l budget = (0, 0) then ∃ C : List Nat, C.Perm (List.range (allL l l.length).length) ∧ C.Pairwise (Lex (keyA l)) ∧ L = (C.take budget.toNat).map (runAt l) else L = []

abbrev PlanC (F : Nat → Option RFunc) (f : Nat) : Prop := ∀ {fl H Q v} {l : List Int} {budget : Int}, Ints H v l → fl ≤ H.length →
  (∀ w H' L, Keep H.length H H' → Arr tRun H' w L → PlanIs l budget L → Q (.tuple [w, fp (planF l budget)]) H') → Ret F fl f [v, i64 budget] H Q

theorem plan_c {f n1 n2 n3 n4 n5 : Nat} (hF : F f = some (rf_speculate_Plan n1 n2 n3 n4)) (h1 : PercC F n1) (h2 : ChC F n2) (h3 : StabG F n3) (h4 : F n4 = some (rf_speculate_Planx1 n5)) (h5 : CmpC F n5) : PlanC F f := fun {fl H Q v l budget} hv hfl hq => by
  refine v_speculate_Plan hF _ _ ?_
  intro H2 d2
  have k2 := d2.keep
  refine h1 (hv.keep k2) fun H5 k5' => ⟨_, _, rfl, ?_⟩
  have k5 := k2.call k5'
  intro H7 d7
  have k7 := k5.call d7.keep
  unfold PlanIs planF at hq
  refine ⟨fun hn => ?_, fun hn => ⟨fun hb => ?_, fun hb => ?_⟩⟩
  · have : percE l ≠ (0, 0) := fun e => hn ⟨by rw [e], by rw [e], trivial⟩
    simp only [if_neg this] at hq
    exact hq _ H7 [] k7 Arr.nil rfl
  · obtain ⟨z1, z2, _⟩ := Classical.not_not.1 hn
    have hz : percE l = (0, 0) := Prod.ext z1 z2
    simp only [if_pos hz, if_pos hb] at hq
    exact hq _ H7 [] k7 Arr.nil (by rw [if_neg (by decide)])
  · obtain ⟨z1, z2, _⟩ := Classical.not_not.1 hn
    have hz : percE l = (0, 0) := Prod.ext z1 z2
    simp only [if_pos hz, if_neg hb, if_true] at hq
    obtain ⟨l8, pin⟩ := perc_in hz
    have v7 := hv.keep k7
    have h7 := k7.len
    refine ⟨_, v7.len, ?_⟩
    refine ⟨fun m i av H' => ∃ (j : Nat) (own : Nat → Bool) (xs : List (AV × (Nat × Nat))), i = j ∧ j + m = l.length ∧ Keep H7.length H7 H' ∧ PL l H7.length own H' av xs ∧ xs.map (·.2) = allL l j, l.length,
      ⟨0, fun _ => true, [], rfl, by omega, Keep.refl _, ⟨Own.nil, fun x hx => by simp at hx, fun b hb => absurd hb at_empty, fun x hx => by simp at hx⟩, rfl⟩, ?_⟩
    rintro m _ av H28 ⟨j, own, xs, rfl, hm, k28, pl, hxs⟩
    refine ⟨fun hlt => ?_, fun hge => ?_⟩
    · -- the runs of a change
      have hj : j < l.length := by omega
      have p9 : 2 ^ j ≤ 2 ^ 8 := Nat.pow_le_pow_right (by decide) (by omega)
      rw [shl1 (by omega)]
      refine ⟨by omega, fun m s av H' => ∃ (q : Nat) (own : Nat → Bool) (xs : List (AV × (Nat × Nat))), s = q ∧ q + m = 2 ^ j ∧ Keep H7.length H7 H' ∧ PL l H7.length own H' av xs ∧ xs.map (·.2) = allL l j ++ itemsL l j q, 2 ^ j, ⟨0, own, xs, rfl, by omega, k28, pl, by rw [hxs]; simp [itemsL]⟩, ?_⟩
      rintro m2 _ av2 H44 ⟨q, own2, xs2, rfl, hm2, k44, pl2, hxs2⟩
      refine ⟨fun hlt2 => ?_, fun hge2 => ?_⟩
      · have hq2 : q < 2 ^ j := by
          generalize 2 ^ j = z at hlt2 hm2; omega
        intro H45 d45
        refine ⟨fun m i r w H' => ∃ t : Nat, i = t ∧ t + m = j ∧ r = j ∧ Keep H44.length H44 H' ∧ Acc H44 tInt H' w (bitsL q t), j, ⟨0, rfl, by omega, rfl, d45.keep, Acc.nil⟩, ?_⟩
        rintro m3 _ _ w H55 ⟨t, rfl, hm3, rfl, k55, hw⟩
        have k55' := k44.call k55
        refine ⟨fun hlt3 => ?_, fun hge3 => ?_⟩
        · have ht : t < j := by omega
          have hwi := wsucc (i := t) (n := j) ht (by omega)
          have hbs := bitsL_succ (w := q) (n := t)
          rw [bit_and (by omega) (by generalize 2 ^ j = z at hq2 p9; omega), hwi]
          refine ⟨by omega, fun hb1 => ?_, fun hb1 => ⟨m3 - 1, by omega, t + 1, rfl, by omega, rfl, k55, ?_⟩⟩
          · intro b56 H57 n57
            obtain ⟨a, H59, q1, q2, q3, _⟩ := hw.push (fl := fl) (free := true) (bytes := 8) (a := (t : Int)) rfl n57 k55 (Nat.le_trans (k7.fl hfl) k44.len) (by have := bitsL_len (w := q) (n := t); omega) (by omega)
            refine ⟨a, H59, q1, q2.scal, m3 - 1, by omega, t + 1, rfl, by omega, rfl, q3, ?_⟩
            rw [hbs, if_pos (by omega)]; exact q2
          · rw [hbs, if_neg (by omega)]; exact hw
        · have : t = j := by omega
          subst this
          have hok := bitsL_ok (w := q) (n := t)
          have hwI : Ints H55 w (runOf (t, q)).w := hw.arr k55
          refine h2 (r := runOf (t, q)) (v7.keep k55') hwI hz hok.1 hok.2 fun H64 k64 => ⟨_, rfl, fun hpos => ?_, fun hpos => ?_⟩
          · intro b66 H67 n67
            have hlx : xs2.length ≤ 2 ^ 20 := by
              have := congrArg List.length hxs2
              rw [List.length_map, List.length_append] at this
              have a1 := allL_len (l := l) (n := t)
              have a2 := itemsL_len (l := l) (last := t) (s := q)
              generalize 2 ^ t = z at a1 p9 hq2
              omega
            have k64' := k55.call k64
            have hwg : Gr H44.length H64 1 w (runOf (t, q)).w.length (ints (runOf (t, q)).w) := (acc_gr hw).keep k64
            obtain ⟨a, H69, q1, q2, q3, own', q4⟩ := pl2.push (H0 := H44) (H := H64) (p := (t, q)) (fl := fl) k64' (.inr hwg) (Nat.le_trans k55.len k64.len) k44.len (k7.fl hfl) n67 hlx
            refine ⟨a, H69, q1, m2 - 1, by omega, q + 1, own', xs2 ++ [(w, (t, q))], wsucc (i := q) (n := 2 ^ t) hq2 (by generalize 2 ^ t = z at p9; omega), by omega, ?_, q4, ?_⟩
            · have k67 := (k44.call k64').call n67.keep
              refine ⟨Nat.le_refl _, Nat.le_trans k67.len q2, fun x hx => ?_⟩
              rw [q3 x (Nat.lt_of_lt_of_le hx k67.len) fun ha => by have := (pl2.all.at_lt ha).1; omega, k67.get x hx]
            · rw [List.map_append, hxs2, itemsL_succ, if_pos hpos, List.append_assoc]; rfl
          · refine ⟨m2 - 1, by omega, q + 1, own2, xs2, wsucc (i := q) (n := 2 ^ t) hq2 (by generalize 2 ^ t = z at p9; omega), by omega, (k44.call k55).call k64, (pl2.keep k55).keep k64, ?_⟩
            rw [hxs2, itemsL_succ, if_neg hpos]
      · have : q = 2 ^ j := by generalize 2 ^ j = z at hge2 hm2 ⊢; omega
        subst this
        exact ⟨m - 1, by omega, j + 1, own2, xs2, wsucc hj hv.small, by omega, k44, pl2, by rw [hxs2, allL]⟩
    · have : j = l.length := by omega
      subst this
      -- the list is sorted
      have hN : xs.length = (allL l l.length).length := by rw [← hxs, List.length_map]
      have hN2 : xs.length ≤ 2 ^ 8 := by
        have := allL_len (l := l) (n := l.length)
        have p9 : 2 ^ l.length ≤ 2 ^ 8 := Nat.pow_le_pow_right (by decide) l8
        generalize 2 ^ l.length = z at this p9
        omega
      have hVs : ∀ x : Nat, Scal ((xs.getD x (.empty, (0, 0))).1) := fun x => by
        rcases Nat.lt_or_ge x xs.length with h | h
        · rw [getD_get h]; exact (pl.ws _ (List.getElem_mem h)).sl.scal
        · rw [List.getD_eq_getElem?_getD, List.getElem?_eq_none h]; exact ⟨rfl, rfl⟩
      let E : Enc := ⟨fun x => ((xs.getD x (.empty, (0, 0))).2.1 : Int), fun x => (xs.getD x (.empty, (0, 0))).1, fun x => chE l (runOf (xs.getD x (.empty, (0, 0))).2), hVs⟩
      have hcells : (List.range xs.length).map E.c = xs.map (cellP l) := by
        apply List.ext_getElem
        · simp
        · intro i hi1 hi2
          simp only [List.length_map, List.length_range] at hi1
          simp only [List.getElem_map, List.getElem_range]
          show [i64 _, _, i64 _] = [i64 _, _, i64 _]
          simp only [E, getD_get hi1]
      have hrl : (List.range xs.length).length = xs.length := List.length_range
      have ss0 : SS H7.length H28 av E H28 (List.range xs.length) := ⟨by rw [hrl, hcells]; exact pl.all, k28.len, Nat.le_refl _, fun _ _ _ => rfl⟩
      have hat : ∀ x : Nat, (xs.getD x (.empty, (0, 0))).2 = (allL l l.length).getD x (0, 0) := fun x => by
        rw [← hxs, List.getD_eq_getElem?_getD, List.getD_eq_getElem?_getD, List.getElem?_map]
        cases xs[x]? <;> rfl
      have hkey : (fun x => - E.fC x) = keyA l := by
        funext x
        show - chE l (runOf (xs.getD x (.empty, (0, 0))).2) = _
        rw [hat]; rfl
      refine h3 (key := fun x => - E.fC x) ss0 (k7.fl hfl) (planx_g h4 h5 E) List.pairwise_lt_range (by rw [hrl]; omega) fun H73 C s73 hperm hlex => ⟨rfl, ?_⟩
      rw [hkey] at hlex
      have hCl : C.length = xs.length := by rw [hperm.length_eq, hrl]
      have hCm : ∀ x ∈ C, x < xs.length := fun x hx => List.mem_range.1 (hperm.mem_iff.1 hx)
      have k73 : Keep H7.length H7 H73 := ⟨Nat.le_refl _, Nat.le_trans k28.len s73.len, fun x hx => by
        rw [s73.fr x (Nat.lt_of_lt_of_le hx k28.len) fun ha => by have := (pl.all.at_lt ha).1; omega, k28.get x hx]⟩
      have hrel : ∀ x ∈ C, Ints H73 (E.fV x) (runAt l x).w := fun x hx => by
        have hxl := hCm x hx
        have hm := List.getElem_mem hxl
        have hg := pl.ws _ hm
        have hg2 := hg.frame (H' := H73) fun b hb => s73.fr b (hg.at_lt hb).2 fun ha => by
          have e1 := pl.oA b ha
          rw [pl.oW _ hm b hb] at e1; cases e1
        have e1 : E.fV x = xs[x].1 := by show (xs.getD x _).1 = _; rw [getD_get hxl]
        have e2 : runAt l x = runOf xs[x].2 := by unfold runAt; rw [← hat, getD_get hxl]
        rw [e1, e2]
        exact gr_ints hg2
      have harr : Arr (tEnc 3 E.c (by decide) (fun _ => rfl) E.scal) H73 av C := by
        refine ⟨⟨C.map E.c, ?_, s73.own.sl⟩⟩
        have : ∀ D : List Nat, All2 ((tEnc 3 E.c (by decide) (fun _ => rfl) E.scal).rel H73) (D.map E.c) D := by
          intro D
          induction D with
          | nil => trivial
          | cons x D ih => exact ⟨rfl, ih⟩
        exact this C
      have hbud : 0 ≤ budget ∧ budget ≤ 16 := by omega
      refine ⟨C.length, harr.len, ?_⟩
      have himin : imin budget (C.length : Int) = ((min budget.toNat C.length : Nat) : Int) := by rw [imin_eq]; omega
      rw [himin]
      obtain ⟨s76, u1, u2⟩ := harr.upto (n := min budget.toNat C.length) (by omega)
      have htk : C.take (min budget.toNat C.length) = C.take budget.toNat := by
        rcases Nat.le_total budget.toNat C.length with h | h
        · rw [Nat.min_eq_left h]
        · rw [Nat.min_eq_right h, List.take_of_length_le (Nat.le_refl _), List.take_of_length_le h]
      rw [htk] at u2
      refine ⟨s76, u1, _, u2.len, ?_⟩
      have hDm : ∀ x ∈ C.take budget.toNat, x ∈ C := fun x hx => List.mem_of_mem_take hx
      have hDl : (C.take budget.toNat).length ≤ 2 ^ 8 := by rw [List.length_take]; omega
      have hfin := hq
      generalize hD : C.take budget.toNat = D at u2 hDm hDl
      refine ⟨fun m i o H' => ∃ t : Nat, i = t ∧ t + m = D.length ∧ Keep H73.length H73 H' ∧ Acc H73 tRun H' o ((D.take t).map (runAt l)), D.length, ⟨0, rfl, by omega, Keep.refl _, Acc.nil⟩, ?_⟩
      rintro m2 _ o H85 ⟨t, rfl, hm2, k85, ho⟩
      refine ⟨fun hlt => ?_, fun hge2 => ?_⟩
      · have ht : t < D.length := by omega
        have hget : getA H85 3 (some 3) s76 (t : Int) 0 = some (.agg (E.c D[t])) := Arr.enc (u2.keep k85) ht
        refine ⟨_, _, _, hget, ?_⟩
        intro H90 d90
        have k90 := k85.call d90.keep
        refine ⟨E.hV _, ?_⟩
        intro b92 H93 n93
        have hx := hDm _ (List.getElem_mem ht)
        have hxl := hCm _ hx
        have hrun : tRun.rel H73 [i64 (E.fL D[t]), E.fV D[t]] (runAt l D[t]) := ⟨E.fV D[t], by
          have : E.fL D[t] = (runAt l D[t]).last := by
            show ((xs.getD _ _).2.1 : Int) = _
            rw [hat]; rfl
          rw [this], hrel _ hx⟩
        obtain ⟨a94, H95, q1, q2, q3, _⟩ := (ho.keep d90.keep).push (fl := fl) (free := true) (bytes := 32) (T := tRun) hrun n93 k90 (Nat.le_trans (k7.fl hfl) k73.len) (by rw [List.length_map, List.length_take]; omega) (by omega)
        refine ⟨a94, H95, q1, m2 - 1, by omega, t + 1, wsucc ht (by omega), by omega, q3, ?_⟩
        rw [List.take_succ_eq_append_getElem ht, List.map_append]
        exact q2
      · rw [List.take_of_length_le (by omega)] at ho
        have := hfin o H85 (D.map (runAt l)) (k7.call (k73.call k85)) (ho.arr k85) ⟨C, by rw [← hN]; exact hperm, hlex, by rw [hD]⟩
        exact this

end Sp
end Go.RM

