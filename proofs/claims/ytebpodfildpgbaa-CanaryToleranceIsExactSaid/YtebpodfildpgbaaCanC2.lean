/-
  Package canary and its reference, the rest.
-/
import Derived.Test.YtebpodfildpgbaaCanC
namespace Go.RM
set_option linter.unusedSimpArgs false
set_option linter.unusedVariables false
set_option maxRecDepth 4000

variable {F : Nat → Option RFunc}

/-- The largest k ≤ n (or 0) that passes. -/
def lastK (p : Nat → Bool) : Nat → Nat
  | 0 => 0
  | k + 1 => if p (k + 1) then k + 1 else lastK p k

theorem lastK_le (p : Nat → Bool) : ∀ n, lastK p n ≤ n
  | 0 => Nat.le_refl _
  | n + 1 => by rw [lastK]; split
                · exact Nat.le_refl _
                · have := lastK_le p n; omega
theorem lastK_spec (p : Nat → Bool) : ∀ n, (lastK p n = 0 ∨ p (lastK p n) = true) ∧ ∀ k, lastK p n < k → k ≤ n → p k = false
  | 0 => ⟨.inl rfl, fun k h1 h2 => by simp [lastK] at h1; omega⟩
  | n + 1 => by
    rw [lastK]
    split
    · rename_i h; exact ⟨.inr h, fun k h1 h2 => by omega⟩
    · rename_i h
      obtain ⟨a, b⟩ := lastK_spec p n
      refine ⟨a, fun k h1 h2 => ?_⟩
      by_cases e : k = n + 1
      · subst e; simpa using h
      · exact b k h1 (by omega)
theorem lastK_mono {p q : Nat → Bool} (h : ∀ k, p k = true → q k = true) (n : Nat) : lastK p n ≤ lastK q n := by
  obtain ⟨a, _⟩ := lastK_spec p n
  obtain ⟨_, b⟩ := lastK_spec q n
  rcases a with a | a
  · omega
  · rcases Nat.lt_or_ge (lastK q n) (lastK p n) with hlt | hge
    · have := b _ hlt (lastK_le p n)
      rw [h _ a] at this; cases this
    · exact hge

/-- Does a canary with so many bad samples pass? -/
def passK (g1 b1 : Int) (n : Nat) (pm : Int) (k : Nat) : Bool := verdictI g1 b1 ((n : Int) - k) k 0 pm == 2

def tolFault (g1 b1 samples pm : Int) : Int × Int := if okC g1 b1 then (if 0 ≤ samples ∧ samples ≤ 25 then (if 0 ≤ pm ∧ pm < 1000 then (0, 0) else (3, -3)) else (3, -2)) else (3, -1)
def tolR (g1 b1 samples pm : Int) : Int × (Int × Int) := if (tolFault g1 b1 samples pm).1 = 0 then ((lastK (passK g1 b1 samples.toNat pm) samples.toNat : Nat), (0, 0)) else (0, tolFault g1 b1 samples pm)

theorem tolFault_ok {g1 b1 samples pm : Int} (h : (tolFault g1 b1 samples pm).1 = 0) : okC g1 b1 ∧ (0 ≤ samples ∧ samples ≤ 25) ∧ (0 ≤ pm ∧ pm < 1000) ∧ tolFault g1 b1 samples pm = (0, 0) := by
  unfold tolFault at h ⊢
  split at h
  · rename_i h1
    split at h
    · rename_i h2
      split at h
      · rename_i h3; exact ⟨h1, h2, h3, by rw [if_pos h1, if_pos h2, if_pos h3]⟩
      · simp at h
    · simp at h
  · simp at h

theorem verdict_cases (g1 b1 g2 b2 pm : Int) (h : 0 ≤ g2 + b2) : verdictI g1 b1 g2 b2 0 pm = 3 ∨ verdictI g1 b1 g2 b2 0 pm = 2 := by
  unfold verdictI
  split
  · exact .inl rfl
  · rw [if_neg (by omega)]; exact .inr rfl

/-- Two cells of a new block, written at once. -/
theorem put2 {fl : Nat} {H H' : Heap} {e b : Nat} {x y a c : Int} (h : NewB H e [i64 x, i64 y] b H') (hfl : fl ≤ H.length) : ∃ H2, putA fl H' b 0 2 (cnt a c) = some H2 ∧ Keep H.length H H2 := by
  obtain ⟨rfl, rfl⟩ := h
  refine ⟨(H ++ [({ cells := [i64 x, i64 y], e := e } : Blk)]).set H.length ({ cells := [i64 a, i64 c], e := e, live := true, clean := false, kid := none } : Blk), ?_, ?_⟩
  · unfold putA rput
    show (if ([i64 a, i64 c] : List AV).length = 2 then _ else none) = _
    rw [if_pos (by rfl)]
    simp only [Heap.blk, snoc_end, if_true]
    show (if fl ≤ H.length ∧ 0 + ([i64 a, i64 c] : List AV).length ≤ ([i64 x, i64 y] : List AV).length ∧ ([i64 a, i64 c] : List AV).all AV.scalar = true then _ else none) = _
    rw [if_pos ⟨hfl, by simp, by rfl⟩]
    rfl
  · refine ⟨Nat.le_refl _, by simp, fun b hb => ?_⟩
    rw [List.getElem?_set_ne (by omega), List.getElem?_append_left hb]

abbrev TolC (F : Nat → Option RFunc) (f : Nat) : Prop := ∀ {fl H Q} {g1 b1 samples pm : Int}, fl ≤ H.length → (∀ H', Keep H.length H H' → Q (.tuple [i64 (tolR g1 b1 samples pm).1, fp (tolR g1 b1 samples pm).2]) H') → Ret F fl f [cnt g1 b1, i64 samples, i64 pm] H Q

theorem tol_c {f n1 n2 : Nat} (hF : F f = some (rf_canary_Tolerated n1 n2)) (h1 : ValidC F n1) (h2 : DecideC F n2) : TolC F f := fun {fl H Q g1 b1 samples pm} hfl hq => by
  refine v_canary_Tolerated hF _ _ _ _ ?_
  intro H4 d4 H5 d5
  have k5 := d4.keep.call d5.keep
  refine h1 fun H8 k8 => ⟨_, _, rfl, fun H10 d10 => ?_⟩
  have k10 := (k5.call k8).call d10.keep
  have hv : validR g1 b1 = if okC g1 b1 then (0, 0) else (3, -1) := rfl
  -- the faults, one after the other
  refine ⟨fun c i => (c, i) = if okC g1 b1 then (if 0 ≤ samples ∧ samples ≤ 25 then (0, 0) else (3, -2)) else (3, -1), ⟨fun h => ?_, fun h => ?_⟩, fun c i hci => ?_⟩
  · by_cases o : okC g1 b1
    · rw [if_pos o, if_neg (by omega)]
    · rw [hv, if_neg o] at h; exact absurd h.1.1 (by decide)
  · by_cases o : okC g1 b1
    · rw [hv, if_pos o] at h ⊢
      have hs : 0 ≤ samples ∧ samples ≤ 25 := by
        have : ¬ (samples < 0 ∨ samples > 25) := fun h' => h ⟨⟨rfl, rfl, trivial⟩, h'⟩
        omega
      simp only [if_pos hs, if_pos o]
    · rw [hv, if_neg o, if_neg o]
  refine ⟨fun c i => (c, i) = tolFault g1 b1 samples pm, ⟨fun h => ?_, fun h => ?_⟩, fun c i hci => ?_⟩
  · obtain ⟨⟨rfl, rfl, _⟩, h2⟩ := h
    unfold tolFault
    by_cases o : okC g1 b1
    · rw [if_pos o] at hci ⊢
      by_cases s : 0 ≤ samples ∧ samples ≤ 25
      · rw [if_pos s, if_neg (by omega)]
      · rw [if_neg s] at hci; cases hci
    · rw [if_neg o] at hci; cases hci
  · unfold tolFault
    by_cases o : okC g1 b1
    · rw [if_pos o] at hci ⊢
      by_cases s : 0 ≤ samples ∧ samples ≤ 25
      · rw [if_pos s] at hci ⊢
        cases hci
        rw [if_pos (by
          have : ¬ (pm < 0 ∨ pm ≥ 1000) := fun h' => h ⟨⟨rfl, rfl, trivial⟩, h'⟩
          omega)]
      · rw [if_neg s] at hci ⊢; exact hci
    · rw [if_neg o] at hci ⊢; exact hci
  rename_i c0 i0 _
  have hc : c = (tolFault g1 b1 samples pm).1 := by rw [← hci]
  have hi : i = (tolFault g1 b1 samples pm).2 := by rw [← hci]
  unfold tolR at hq
  refine ⟨fun h => ?_, fun h => ?_⟩
  · have hne : ¬ (tolFault g1 b1 samples pm).1 = 0 := fun h0 => h (by
      rw [hc, hi, (tolFault_ok h0).2.2.2]; exact ⟨rfl, rfl, trivial⟩)
    rw [if_neg hne] at hq
    rw [hc, hi]; exact hq H10 k10
  · have h0 : (tolFault g1 b1 samples pm).1 = 0 := by
      rw [← hc]; exact (Decidable.not_not.1 h).1
    obtain ⟨o, s, p, e⟩ := tolFault_ok h0
    rw [if_pos h0] at hq
    rw [hc, hi, e]
    refine ⟨fun m bad H' => ∃ k : Nat, bad = k ∧ k ≤ m ∧ k ≤ samples.toNat ∧ Keep H.length H H' ∧ lastK (passK g1 b1 samples.toNat pm) samples.toNat = lastK (passK g1 b1 samples.toNat pm) k, samples.toNat, ⟨samples.toNat, by omega, Nat.le_refl _, Nat.le_refl _, k10, rfl⟩, ?_⟩
    rintro m _ H' ⟨k, rfl, hm, hks, hk, hl⟩
    refine ⟨fun hlt => ?_, fun hge => ?_⟩
    · obtain ⟨k, rfl⟩ : ∃ k', k = k' + 1 := ⟨k - 1, by omega⟩
      have e1 : IntKind.wrap .i64 (samples - ((k + 1 : Nat) : Int)) = (samples.toNat : Int) - ((k + 1 : Nat) : Int) := by rw [wrap64 (by omega) (by omega)]; omega
      rw [e1]
      have ho2 : okC ((samples.toNat : Int) - ((k + 1 : Nat) : Int)) ((k + 1 : Nat) : Int) := by unfold okC; omega
      have htwo : (twoR g1 b1 ((samples.toNat : Int) - ((k + 1 : Nat) : Int)) ((k + 1 : Nat) : Int)).1 = 0 := by unfold twoR; rw [if_pos o, if_pos ho2]
      have hd : decideR g1 b1 ((samples.toNat : Int) - ((k + 1 : Nat) : Int)) ((k + 1 : Nat) : Int) 0 pm = (verdictI g1 b1 ((samples.toNat : Int) - ((k + 1 : Nat) : Int)) ((k + 1 : Nat) : Int) 0 pm, (0, 0)) := by
        unfold decideR; rw [if_pos htwo, if_pos (by unfold okP; omega)]
      refine h2 (hk.fl hfl) fun H30 k30 => ⟨_, _, _, rfl, fun b H33 hb => ?_⟩
      rw [hd]
      obtain ⟨H34, q1, q2⟩ := put2 (fl := fl) (a := 0) (c := 0) hb ((hk.call k30).fl hfl)
      refine ⟨H34, q1, fun hv => ?_, fun hv => ⟨k, by omega, k, wpred (i := k + 1) (by omega) (by omega), Nat.le_refl _, by omega, (hk.call k30).call q2, ?_⟩⟩
      · have hp : passK g1 b1 samples.toNat pm (k + 1) = true := by unfold passK; simpa using hv
        rw [lastK, if_pos hp] at hl
        have := hq H34 ((hk.call k30).call q2)
        rw [hl] at this; exact this
      · have hp : ¬ passK g1 b1 samples.toNat pm (k + 1) = true := by unfold passK; simpa using hv
        rw [hl, lastK, if_neg hp]
    · obtain rfl : k = 0 := by omega
      have := hq H' hk
      rw [hl] at this; exact this

/-! ### The reference's -/

/-- Row i of Pascal's triangle, its entries from j on already those of row i + 1. -/
def pasc (n i j : Nat) : List Int := (List.range (n + 1)).map fun k => if j ≤ k then (ch (i + 1) k : Int) else (ch i k : Int)
theorem pasc_len (n i j : Nat) : (pasc n i j).length = n + 1 := by simp [pasc]
theorem pasc_get {n i j k : Nat} (h : k < (pasc n i j).length) : (pasc n i j)[k] = if j ≤ k then (ch (i + 1) k : Int) else (ch i k : Int) := by simp [pasc]
theorem pasc_set {n i j : Nat} (h : j < n + 1) : (pasc n i (j + 1)).set j (ch (i + 1) j : Int) = pasc n i j := by
  apply List.ext_getElem?
  intro k
  rw [List.getElem?_set]
  by_cases e : j = k
  · subst e
    rw [if_pos (by rfl), if_pos (by rw [pasc_len]; omega)]
    simp only [pasc, List.getElem?_map]
    rw [List.getElem?_range h, Option.map_some, if_pos (Nat.le_refl _)]
  · rw [if_neg e]
    simp only [pasc, List.getElem?_map]
    by_cases hk : k < n + 1
    · rw [List.getElem?_range hk]
      simp only [Option.map_some, Option.some.injEq]
      by_cases h1 : j ≤ k
      · rw [if_pos h1, if_pos (by omega)]
      · rw [if_neg h1, if_neg (by omega)]
    · rw [List.getElem?_eq_none (by simp; omega)]; rfl
theorem pasc_next (n i : Nat) : pasc n i 1 = pasc n (i + 1) (n + 1) := by
  unfold pasc
  apply List.map_congr_left
  intro k hk
  rw [List.mem_range] at hk
  by_cases h : 1 ≤ k
  · rw [if_pos h, if_neg (by omega)]
  · rw [if_neg h, if_neg (by omega)]
    obtain rfl : k = 0 := by omega
    rw [ch_zero, ch_zero]

abbrev ChooseC (F : Nat → Option RFunc) (f : Nat) : Prop := ∀ {fl H Q} {n k : Nat}, n ≤ 50 → fl ≤ H.length → (∀ H', Keep H.length H H' → Q (i64 (ch n k : Nat)) H') → Ret F fl f [i64 n, i64 k] H Q
theorem choose_c {f : Nat} (hF : F f = some rf_FChoose) : ChooseC F f := fun {fl H Q n k} hn hfl hq => by
  refine v_FChoose hF _ _ ⟨fun h => ?_, fun h => ?_⟩
  · have := hq H (Keep.refl H)
    rw [ch_gt n k (by omega)] at this; exact this
  · have hk : k ≤ n := by omega
    have e1 : IntKind.wrap .i64 ((n : Int) + 1) = ((n + 1 : Nat) : Int) := by rw [wrap64 (by omega) (by omega)]; omega
    rw [e1, Int.toNat_natCast]
    refine ⟨⟨by omega, by omega, by omega, by omega⟩, fun b H3 hb => ?_⟩
    have hr := Row.new hb (by omega)
    have hbl : H.length ≤ b := by rw [hb.b_eq]; exact Nat.le_refl _
    refine ⟨b, 0, Row.ptr (i := 0) (by omega), ?_⟩
    obtain ⟨H6, p1, p2, p3⟩ := hr.put (fl := fl) (i := 0) (x := 1) (by simp) (by omega)
    refine ⟨H6, p1, ?_⟩
    have hr0 : Row H6 b (pasc n 0 (n + 1)) := by
      have : (List.replicate (n + 1) (0 : Int)).set 0 1 = pasc n 0 (n + 1) := by
        apply List.ext_getElem?
        intro j
        rw [List.getElem?_set]
        by_cases e : 0 = j
        · subst e; simp [pasc, ch_zero]
        · rw [if_neg e]
          by_cases hj : j < n + 1
          · have : ch 0 j = 0 := ch_gt 0 j (by omega)
            simp [pasc, hj, List.getElem?_range hj, this]; omega
          · rw [List.getElem?_eq_none (by simp; omega), List.getElem?_eq_none (by rw [pasc_len]; omega)]
      rw [← this]; exact p2
    have k6 : Keep H.length H H6 := (hb.keep).tr (p3.keep hbl (Nat.le_trans hb.keep.low hb.keep.len))
    refine ⟨fun m v H' => ∃ i : Nat, v = i ∧ i + m = n ∧ Keep H.length H H' ∧ Row H' b (pasc n i (n + 1)), n, ⟨0, rfl, by omega, k6, hr0⟩, ?_⟩
    rintro m _ H' ⟨i, rfl, hm, hk', hrow⟩
    refine ⟨fun hlt => ?_, fun hge => ?_⟩
    · have e2 : IntKind.wrap .i64 ((i : Int) + 1) = ((i + 1 : Nat) : Int) := by rw [wrap64 (by omega) (by omega)]; omega
      rw [e2]
      -- the entries behind i + 1 are nothing in both rows
      have hskip : pasc n i (n + 1) = pasc n i (i + 2) := by
        unfold pasc
        apply List.map_congr_left
        intro k hk
        rw [List.mem_range] at hk
        rw [if_neg (by omega)]
        by_cases h : i + 2 ≤ k
        · rw [if_pos h, ch_gt i k (by omega), ch_gt (i + 1) k (by omega)]
        · rw [if_neg h]
      rw [hskip] at hrow
      refine ⟨fun m' v H2 => ∃ j : Nat, v = j ∧ j ≤ m' ∧ j ≤ i + 1 ∧ Keep H.length H H2 ∧ Row H2 b (pasc n i (j + 1)), i + 1, ⟨i + 1, rfl, Nat.le_refl _, Nat.le_refl _, hk', hrow⟩, ?_⟩
      rintro m' _ H2 ⟨j, rfl, hm', hj, hk2, hrow2⟩
      refine ⟨fun hpos => ?_, fun hz => ?_⟩
      · obtain ⟨j, rfl⟩ : ∃ j', j = j' + 1 := ⟨j - 1, by omega⟩
        have e3 : IntKind.wrap .i64 (((j + 1 : Nat) : Int) - 1) = (j : Int) := by rw [wrap64 (by omega) (by omega)]; omega
        rw [e3]
        have hl1 : j + 1 < (pasc n i (j + 1 + 1)).length := by rw [pasc_len]; omega
        have hl2 : j < (pasc n i (j + 1 + 1)).length := by rw [pasc_len]; omega
        have x1 := (hrow2.arr (n := n + 1) (pasc_len _ _ _).symm).int hl1
        have x2 := (hrow2.arr (n := n + 1) (pasc_len _ _ _).symm).int hl2
        rw [pasc_get, if_neg (by omega)] at x1
        rw [pasc_get, if_neg (by omega)] at x2
        have b1 := ch_bound (n := i) (k := j + 1) (by omega)
        have b2 := ch_bound (n := i) (k := j) (by omega)
        have hch : ch (i + 1) (j + 1) = ch i j + ch i (j + 1) := rfl
        have e4 : IntKind.wrap .i64 ((ch i (j + 1) : Int) + (ch i j : Int)) = (ch (i + 1) (j + 1) : Int) := by rw [wrap64 (by omega) (by omega), hch]; omega
        refine ⟨_, x1, _, x2, b, j + 1, Row.ptr (by omega), ?_⟩
        rw [e4]
        obtain ⟨H7, q1, q2, q3⟩ := hrow2.put (fl := fl) (i := j + 1) (x := (ch (i + 1) (j + 1) : Int)) (by rw [pasc_len]; omega) (by omega)
        rw [pasc_set (by omega)] at q2
        exact ⟨H7, q1, j, by omega, j, rfl, Nat.le_refl _, by omega, hk2.tr (q3.keep hbl (Nat.le_trans hk2.low hk2.len)), q2⟩
      · obtain rfl : j = 0 := by omega
        refine ⟨m - 1, by omega, i + 1, rfl, by omega, hk2, ?_⟩
        rw [← pasc_next]; exact hrow2
    · have : i = n := by omega
      subst this
      have hl : k < (pasc i i (i + 1)).length := by rw [pasc_len]; omega
      have x1 := (hrow.arr (n := i + 1) (pasc_len _ _ _).symm).int hl
      rw [pasc_get, if_neg (by omega)] at x1
      exact ⟨_, x1, hq H' hk'⟩

/-- The choices with fewer than j bad ones. -/
def lo (B G m : Nat) : Nat → Nat
  | 0 => 0
  | j + 1 => lo B G m j + ch B j * ch G (m - j)
theorem lo_tl (B G m : Nat) : ∀ j, j ≤ m + 1 → lo B G m j + tl B G m (m + 1 - j) = tl B G m (m + 1)
  | 0, _ => by simp [lo]
  | j + 1, h => by
    have ih := lo_tl B G m j (by omega)
    have e : m + 1 - j = (m - j) + 1 := by omega
    have e2 : m + 1 - (j + 1) = m - j := by omega
    have e3 : m - (m - j) = j := by omega
    rw [e, tl, e3] at ih
    rw [lo, e2]; omega

def waysR (g1 b1 g2 b2 : Int) : Int × Int := (allI g1 b1 g2 b2 - waysI g1 b1 g2 b2, allI g1 b1 g2 b2)

abbrev WaysC (F : Nat → Option RFunc) (f : Nat) : Prop := ∀ {fl H Q} {g1 b1 g2 b2 : Int}, okC g1 b1 → okC g2 b2 → fl ≤ H.length → (∀ H', Keep H.length H H' → Q (.tuple [i64 (waysR g1 b1 g2 b2).1, i64 (waysR g1 b1 g2 b2).2]) H') → Ret F fl f [cnt g1 b1, cnt g2 b2] H Q
theorem ways_c {f n1 : Nat} (hF : F f = some (rf_FWays n1)) (h1 : ChooseC F n1) : WaysC F f := fun {fl H Q g1 b1 g2 b2} o1 o2 hfl hq => by
  obtain ⟨a1, a2, a3⟩ := okC_nat o1
  obtain ⟨c1, c2, c3⟩ := okC_nat o2
  unfold waysR allI waysI at hq
  generalize g1.toNat = G1 at *
  generalize b1.toNat = B1 at *
  generalize g2.toNat = G2 at *
  generalize b2.toNat = B2 at *
  subst a1 a2 c1 c2
  refine v_FWays hF _ _ _ _ ?_
  intro H4 d4 H5 d5
  have k5 := d4.keep.call d5.keep
  have e1 : IntKind.wrap .i64 ((G1 : Int) + G2) = ((G1 + G2 : Nat) : Int) := by rw [wrap64 (by omega) (by omega)]; omega
  have e2 : IntKind.wrap .i64 ((B1 : Int) + B2) = ((B1 + B2 : Nat) : Int) := by rw [wrap64 (by omega) (by omega)]; omega
  have e3 : IntKind.wrap .i64 ((G2 : Int) + B2) = ((G2 + B2 : Nat) : Int) := by rw [wrap64 (by omega) (by omega)]; omega
  have e4 : IntKind.wrap .i64 (((G1 + G2 : Nat) : Int) + ((B1 + B2 : Nat) : Int)) = ((B1 + B2 + (G1 + G2) : Nat) : Int) := by rw [wrap64 (by omega) (by omega)]; omega
  rw [e1, e2, e3, e4]
  have hall := tl_all (G1 + G2) (B1 + B2) (G2 + B2)
  have hbd := ch_bound (n := B1 + B2 + (G1 + G2)) (k := G2 + B2) (by omega)
  refine ⟨fun m k fewer H' => ∃ i : Nat, k = i ∧ i + m = B2 ∧ fewer = (lo (B1 + B2) (G1 + G2) (G2 + B2) i : Int) ∧ Keep H.length H H', B2, ⟨0, rfl, by omega, rfl, k5⟩, ?_⟩
  rintro m _ _ H' ⟨i, rfl, hm, rfl, hk⟩
  have hlo := lo_tl (B1 + B2) (G1 + G2) (G2 + B2) i (by omega)
  refine ⟨fun hlt => ?_, fun hge => ?_⟩
  · have hlo2 := lo_tl (B1 + B2) (G1 + G2) (G2 + B2) (i + 1) (by omega)
    rw [lo] at hlo2
    have e5 : IntKind.wrap .i64 (((G2 + B2 : Nat) : Int) - i) = ((G2 + B2 - i : Nat) : Int) := by rw [wrap64 (by omega) (by omega)]; omega
    have e6 : IntKind.wrap .i64 ((i : Int) + 1) = ((i + 1 : Nat) : Int) := by rw [wrap64 (by omega) (by omega)]; omega
    rw [e5, e6]
    refine h1 (by omega) (hk.fl hfl) fun H14 k14 => ⟨_, rfl, h1 (by omega) ((hk.call k14).fl hfl) fun H17 k17 => ⟨_, rfl, m - 1, by omega, i + 1, rfl, by omega, ?_, (hk.call k14).call k17⟩⟩
    have y1 : IntKind.wrap .i64 ((ch (B1 + B2) i : Int) * (ch (G1 + G2) (G2 + B2 - i) : Int)) = ((ch (B1 + B2) i * ch (G1 + G2) (G2 + B2 - i) : Nat) : Int) := by rw [← Int.natCast_mul, wrap64 (by omega) (by omega)]
    rw [y1, wrap64 (by omega) (by omega), lo]; omega
  · have hi : i = B2 := by omega
    subst hi
    refine h1 (by omega) (hk.fl hfl) fun H21 k21 => ⟨_, rfl, ?_⟩
    have := hq H21 (hk.call k21)
    have e7 : G2 + i + 1 - i = G2 + 1 := by omega
    rw [e7, hall] at hlo
    have e8 : (lo (B1 + i) (G1 + G2) (G2 + i) i : Int) = (ch (B1 + i + (G1 + G2)) (G2 + i) : Int) - (tl (B1 + i) (G1 + G2) (G2 + i) (G2 + 1) : Int) := by omega
    rw [e8]; exact this

abbrev VerdictC (F : Nat → Option RFunc) (f : Nat) : Prop := ∀ {fl H Q} {g1 b1 g2 b2 need pm : Int}, okC g1 b1 → okC g2 b2 → 0 ≤ pm → pm < 1000 → fl ≤ H.length → (∀ H', Keep H.length H H' → Q (i64 (verdictI g1 b1 g2 b2 need pm)) H') → Ret F fl f [cnt g1 b1, cnt g2 b2, i64 need, i64 pm] H Q
theorem verdict_c {f n1 : Nat} (hF : F f = some (rf_FVerdict n1)) (h1 : WaysC F n1) : VerdictC F f := fun {fl H Q g1 b1 g2 b2 need pm} o1 o2 p0 p1 hfl hq => by
  refine v_FVerdict hF _ _ _ _ _ _ ?_
  intro H6 d6 H7 d7
  have k7 := d6.keep.call d7.keep
  obtain ⟨w0, w1, w2, _⟩ := ways_le o1 o2
  have x1 := mul_bd (p := 1000) w0 (by omega) (by decide) (by decide)
  have x2 := mul_bd (a := allI g1 b1 g2 b2) (p := pm) (by omega) w2 p0 (by omega)
  refine h1 o1 o2 (k7.fl hfl) fun H10 k10 => ⟨_, _, rfl, ?_⟩
  have hw : IntKind.wrap .i64 (g2 + b2) = g2 + b2 := by unfold okC at o2; rw [wrap64 (by omega) (by omega)]
  have e1 : IntKind.wrap .i64 ((waysR g1 b1 g2 b2).2 - (waysR g1 b1 g2 b2).1) = waysI g1 b1 g2 b2 := by unfold waysR; simp only; rw [wrap64 (by omega) (by omega)]; omega
  rw [e1, wrap64 (n := waysI g1 b1 g2 b2 * 1000) (by omega) (by omega), hw]
  show (IntKind.wrap .i64 (allI g1 b1 g2 b2 * pm) ≥ _ → _) ∧ (¬ IntKind.wrap .i64 (allI g1 b1 g2 b2 * pm) ≥ _ → _)
  rw [wrap64 (n := allI g1 b1 g2 b2 * pm) (by omega) (by omega)]
  have hq' := hq H10 (k7.call k10)
  unfold verdictI at hq'
  refine ⟨fun hc => ?_, fun hc => ⟨fun hn => ?_, fun hn => ?_⟩⟩
  · rw [if_pos hc] at hq'; exact hq'
  · rw [if_neg hc, if_pos hn] at hq'; exact hq'
  · rw [if_neg hc, if_neg hn] at hq'; exact hq'

end Go.RM
