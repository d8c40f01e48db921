/-
  Package canary and its reference: what their functions return.
-/
import Derived.Test.YtebpodfildpgbaaCanW
import Derived.Test.YtebpodfildpgbaaRefC
import Derived.Test.YtebpodfildpgbaaPlCh
namespace Go.RM
set_option linter.unusedSimpArgs false
set_option linter.unusedVariables false
set_option maxRecDepth 4000

theorem PCh : True := trivial

variable {F : Nat → Option RFunc}

abbrev cnt (g b : Int) : AV := .agg [i64 g, i64 b]

/-- The binomials of n, the first k + 1 of them. -/
def rowK (n k : Nat) : List Int := (List.range (n + 1)).map fun j => if j ≤ k then (ch n j : Int) else 0
theorem rowK_len (n k : Nat) : (rowK n k).length = n + 1 := by simp [rowK]
theorem rowK_get {n k j : Nat} (h : j < (rowK n k).length) (hk : j ≤ k) : (rowK n k)[j] = (ch n j : Int) := by simp [rowK, hk]
theorem rowK_set {n k : Nat} (h : k + 1 ≤ n) : (rowK n k).set (k + 1) (ch n (k + 1) : Int) = rowK n (k + 1) := by
  apply List.ext_getElem?
  intro j
  rw [List.getElem?_set]
  by_cases e : k + 1 = j
  · subst e
    rw [if_pos (by rfl), if_pos (by rw [rowK_len]; omega)]
    simp only [rowK, List.getElem?_map]
    rw [List.getElem?_range (by omega), Option.map_some, if_pos (Nat.le_refl _)]
  · rw [if_neg e]
    simp only [rowK, List.getElem?_map]
    by_cases hj : j < n + 1
    · simp only [List.getElem?_range hj, Option.map_some]
      by_cases h1 : j ≤ k
      · rw [if_pos h1, if_pos (by omega)]
      · rw [if_neg h1, if_neg (by omega)]
    · rw [List.getElem?_eq_none (by simp; omega)]; rfl

theorem pow50 : (2 : Nat) ^ 50 = 1125899906842624 := by decide

theorem ch_bound {n k : Nat} (h : n ≤ 50) : ch n k ≤ 1125899906842624 := by
  have := Nat.le_trans (ch_le n k) (Nat.pow_le_pow_right (by omega) h)
  rw [pow50] at this; exact this

abbrev RowC (F : Nat → Option RFunc) (f : Nat) : Prop := ∀ {fl H Q} {n : Nat}, n ≤ 50 → fl ≤ H.length → (∀ b H', Keep H.length H H' → Row H' b (rowK n n) → H.length ≤ b → Q (rowV b (n + 1)) H') → Ret F fl f [i64 n] H Q

theorem row_c {f : Nat} (hF : F f = some rf_canary_row) : RowC F f := fun {fl H Q n} hn hfl hq => by
  refine v_canary_row hF _ ?_
  have e1 : IntKind.wrap .i64 ((n : Int) + 1) = ((n + 1 : Nat) : Int) := by rw [wrap64 (by omega) (by omega)]; omega
  rw [e1, Int.toNat_natCast]
  refine ⟨⟨by omega, by omega, by omega, by omega⟩, fun b H2 hb => ?_⟩
  have hr := Row.new hb (by omega)
  have hbl : H.length ≤ b := by rw [hb.b_eq]; exact Nat.le_refl _
  refine ⟨b, 0, Row.ptr (i := 0) (by omega), ?_⟩
  obtain ⟨H5, p1, p2, p3⟩ := hr.put (fl := fl) (i := 0) (x := 1) (by simp) (by omega)
  refine ⟨H5, p1, ?_⟩
  have hr0 : Row H5 b (rowK n 0) := by
    have : (List.replicate (n + 1) (0 : Int)).set 0 1 = rowK n 0 := by
      apply List.ext_getElem?
      intro j
      rw [List.getElem?_set]
      by_cases e : 0 = j
      · subst e; simp [rowK, ch_zero]
      · rw [if_neg e]
        by_cases hj : j < n + 1
        · simp [rowK, hj, List.getElem?_range hj]; omega
        · rw [List.getElem?_eq_none (by simp; omega), List.getElem?_eq_none (by rw [rowK_len]; omega)]
    rw [← this]; exact p2
  have k5 : Keep H.length H H5 := (hb.keep).tr (p3.keep hbl (Nat.le_trans hb.keep.low hb.keep.len))
  refine ⟨fun m v H' => ∃ k : Nat, v = k ∧ k + m = n ∧ Keep H.length H H' ∧ Row H' b (rowK n k), n, ⟨0, rfl, by omega, k5, hr0⟩, ?_⟩
  rintro m _ H' ⟨k, rfl, hm, hk, hrow⟩
  refine ⟨fun hlt => ?_, fun hge => ?_⟩
  · have hkn : k < n := by omega
    have e2 : IntKind.wrap .i64 ((k : Int) + 1) = ((k + 1 : Nat) : Int) := by rw [wrap64 (by omega) (by omega)]; omega
    have e3 : IntKind.wrap .i64 ((n : Int) - k) = ((n - k : Nat) : Int) := by rw [wrap64 (by omega) (by omega)]; omega
    have hkl : k < (rowK n k).length := by rw [rowK_len]; omega
    have hbound := ch_bound (n := n) (k := k) hn
    have hmul : ch n k * (n - k) ≤ 1125899906842624 * 50 := Nat.mul_le_mul hbound (by omega)
    have e4 : IntKind.wrap .i64 ((ch n k : Int) * ((n - k : Nat) : Int)) = ((ch n k * (n - k) : Nat) : Int) := by rw [← Int.natCast_mul, wrap64 (by omega) (by omega)]
    have hg := (hrow.arr (n := n + 1) (rowK_len n k).symm).int hkl
    rw [rowK_get hkl (Nat.le_refl _)] at hg
    refine ⟨_, hg, by rw [e2]; omega, b, k + 1, by rw [e2]; exact Row.ptr (by omega), ?_⟩
    have hst : ch n k * (n - k) / (k + 1) = ch n (k + 1) := by rw [← ch_step, Nat.mul_div_cancel _ (Nat.succ_pos k)]
    have e5 : IntKind.wrap .i64 (Int.tdiv (((ch n k * (n - k) : Nat) : Int)) ((k + 1 : Nat) : Int)) = (ch n (k + 1) : Int) := by
      rw [Int.tdiv_eq_ediv_of_nonneg (by omega), ← Int.natCast_ediv, hst]
      have := ch_bound (n := n) (k := k + 1) hn
      rw [wrap64 (by omega) (by omega)]
    rw [e3, e4, e2, e5]
    obtain ⟨H6, q1, q2, q3⟩ := hrow.put (fl := fl) (i := k + 1) (x := (ch n (k + 1) : Int)) (by rw [rowK_len]; omega) (by omega)
    rw [rowK_set (by omega)] at q2
    exact ⟨H6, q1, m - 1, by omega, k + 1, rfl, by omega, hk.tr (q3.keep hbl (Nat.le_trans hk.low hk.len)), q2⟩
  · have : k = n := by omega
    subst this
    exact hq b H' hk hrow hbl

/-! ### The ways -/

abbrev TailNC (F : Nat → Option RFunc) (f : Nat) : Prop := ∀ {fl H Q} {g1 b1 g2 b2 : Nat}, g1 + b1 ≤ 25 → g2 + b2 ≤ 25 → fl ≤ H.length →
  (∀ H', Keep H.length H H' → Q (.tuple [i64 (tl (b1 + b2) (g1 + g2) (g2 + b2) (g2 + 1) : Nat), i64 (ch (b1 + b2 + (g1 + g2)) (g2 + b2) : Nat)]) H') → Ret F fl f [cnt g1 b1, cnt g2 b2] H Q

theorem tl_none (B G m : Nat) : ∀ d, B + d < m + 1 → tl B G m d = 0
  | 0, _ => rfl
  | d + 1, h => by rw [tl, tl_none B G m d (by omega), ch_gt B (m - d) (by omega)]; simp

theorem tailN_c {f n1 : Nat} (hF : F f = some (rf_canary_tail n1)) (h1 : RowC F n1) : TailNC F f := fun {fl H Q g1 b1 g2 b2} hb1 hb2 hfl hq => by
  refine v_canary_tail hF _ _ _ _ ?_
  intro H4 d4 H5 d5
  have k5 := d4.keep.call d5.keep
  have e1 : IntKind.wrap .i64 ((g1 : Int) + g2) = ((g1 + g2 : Nat) : Int) := by rw [wrap64 (by omega) (by omega)]; omega
  have e2 : IntKind.wrap .i64 ((b1 : Int) + b2) = ((b1 + b2 : Nat) : Int) := by rw [wrap64 (by omega) (by omega)]; omega
  have e3 : IntKind.wrap .i64 ((g2 : Int) + b2) = ((g2 + b2 : Nat) : Int) := by rw [wrap64 (by omega) (by omega)]; omega
  rw [e1, e2, e3]
  refine h1 (by omega) (Nat.le_refl _) fun bg H7 k7 rg hbg => h1 (by omega) (k5.call k7 |>.fl hfl) fun bb H10 k10 rb hbb => ?_
  have rg' := rg.keep k10
  have hk10 := (k5.call k7).call k10
  have ag := rg'.arr (n := g1 + g2 + 1) (rowK_len _ _).symm
  have ab := rb.arr (n := b1 + b2 + 1) (rowK_len _ _).symm
  have hall : tl (b1 + b2) (g1 + g2) (g2 + b2) (g2 + 1) ≤ ch (b1 + b2 + (g1 + g2)) (g2 + b2) := tl_le_all _ _ _ _ (by omega)
  have hbd := ch_bound (n := b1 + b2 + (g1 + g2)) (k := g2 + b2) (by omega)
  refine ⟨fun m k acc => ∃ i a : Nat, k = i ∧ acc = a ∧ i + m = g2 + b2 + 1 ∧ b2 ≤ i ∧ a + tl (b1 + b2) (g1 + g2) (g2 + b2) m = tl (b1 + b2) (g1 + g2) (g2 + b2) (g2 + 1), g2 + 1, ⟨b2, 0, rfl, rfl, by omega, Nat.le_refl _, by omega⟩, ?_⟩
  rintro m _ _ ⟨i, a, rfl, rfl, hm, hi, ha⟩
  have e4 : IntKind.wrap .i64 (((b1 + b2 + 1 : Nat) : Int) - 1) = ((b1 + b2 : Nat) : Int) := by rw [wrap64 (by omega) (by omega)]; omega
  refine ⟨b1 + b2 + 1, ab.len' (rowK_len _ _), ?_⟩
  rw [e4, imin_eq]
  refine ⟨fun hle => ?_, fun hgt => ?_⟩
  · obtain ⟨m, rfl⟩ : ∃ m', m = m' + 1 := ⟨m - 1, by omega⟩
    have e5 : IntKind.wrap .i64 (((g2 + b2 : Nat) : Int) - i) = (m : Int) := by rw [wrap64 (by omega) (by omega)]; omega
    have e6 : IntKind.wrap .i64 ((i : Int) + 1) = ((i + 1 : Nat) : Int) := by rw [wrap64 (by omega) (by omega)]; omega
    have hm' : g2 + b2 - m = i := by omega
    have htl : tl (b1 + b2) (g1 + g2) (g2 + b2) (m + 1) = ch (b1 + b2) i * ch (g1 + g2) m + tl (b1 + b2) (g1 + g2) (g2 + b2) m := by rw [tl, hm']
    rw [e5, e6]
    refine ⟨g1 + g2 + 1, ag.len' (rowK_len _ _), fun hlt => ?_, fun hge => ?_⟩
    · have hbi : i < (rowK (b1 + b2) (b1 + b2)).length := by rw [rowK_len]; omega
      have hgm : m < (rowK (g1 + g2) (g1 + g2)).length := by rw [rowK_len]; omega
      have x1 := ab.int hbi
      have x2 := ag.int hgm
      rw [rowK_get hbi (by omega)] at x1
      rw [rowK_get hgm (by omega)] at x2
      refine ⟨_, x1, _, x2, m, Nat.lt_succ_self _, i + 1, a + ch (b1 + b2) i * ch (g1 + g2) m, rfl, ?_, by omega, by omega, by omega⟩
      have y1 : IntKind.wrap .i64 ((ch (b1 + b2) i : Int) * (ch (g1 + g2) m : Int)) = ((ch (b1 + b2) i * ch (g1 + g2) m : Nat) : Int) := by rw [← Int.natCast_mul, wrap64 (by omega) (by omega)]
      rw [y1, wrap64 (by omega) (by omega)]; omega
    · have h0 : ch (g1 + g2) m = 0 := ch_gt _ _ (by omega)
      rw [h0, Nat.mul_zero, Nat.zero_add] at htl
      exact ⟨m, Nat.lt_succ_self _, i + 1, a, rfl, rfl, by omega, by omega, by omega⟩
  · have hz : tl (b1 + b2) (g1 + g2) (g2 + b2) m = 0 := by
      by_cases hm0 : m = 0
      · subst hm0; rfl
      · exact tl_none _ _ _ _ (by omega)
    refine ⟨g1 + g2 + 1, ag.len' (rowK_len _ _), b1 + b2 + 1, ab.len' (rowK_len _ _), ?_⟩
    have e7 : IntKind.wrap .i64 (((g1 + g2 + 1 : Nat) : Int) + ((b1 + b2 + 1 : Nat) : Int)) = ((g1 + g2 + 1 + (b1 + b2 + 1) : Nat) : Int) := by rw [wrap64 (by omega) (by omega)]; omega
    have e8 : IntKind.wrap .i64 (((g1 + g2 + 1 + (b1 + b2 + 1) : Nat) : Int) - 2) = ((b1 + b2 + (g1 + g2) : Nat) : Int) := by rw [wrap64 (by omega) (by omega)]; omega
    rw [e7, e8]
    refine h1 (by omega) (hk10.fl hfl) fun b H30 k30 r30 _ => ?_
    have hl : g2 + b2 < (rowK (b1 + b2 + (g1 + g2)) (b1 + b2 + (g1 + g2))).length := by rw [rowK_len]; omega
    have x3 := (r30.arr (n := b1 + b2 + (g1 + g2) + 1) (rowK_len _ _).symm).int hl
    rw [rowK_get hl (by omega)] at x3
    refine ⟨_, x3, ?_⟩
    have ha' : a = tl (b1 + b2) (g1 + g2) (g2 + b2) (g2 + 1) := by omega
    rw [ha']
    exact hq H30 (hk10.call k30)

/-! ### Samples -/

/-- Samples that a side may have. -/
def okC (g b : Int) : Prop := 0 ≤ g ∧ 0 ≤ b ∧ g + b ≤ 25
instance (g b : Int) : Decidable (okC g b) := by unfold okC; exact inferInstance

theorem bad_iff {g b : Int} : (((((g < 0 ∨ b < 0) ∨ g > 25) ∨ b > 25) ∨ IntKind.wrap .i64 (g + b) > 25)) ↔ ¬ okC g b := by
  unfold okC
  by_cases h : 0 ≤ g ∧ 0 ≤ b ∧ g ≤ 25 ∧ b ≤ 25
  · rw [wrap64 (by omega) (by omega)]; omega
  · constructor
    · intro _ h'; omega
    · intro _
      by_cases h1 : g < 0
      · exact .inl (.inl (.inl (.inl h1)))
      · by_cases h2 : b < 0
        · exact .inl (.inl (.inl (.inr h2)))
        · by_cases h3 : g > 25
          · exact .inl (.inl (.inr h3))
          · exact .inl (.inr (by omega))

def validR (g b : Int) : Int × Int := if okC g b then (0, 0) else (3, -1)
abbrev fp (p : Int × Int) : AV := flt p.1 p.2

abbrev ValidC (F : Nat → Option RFunc) (f : Nat) : Prop := ∀ {fl H Q} {g b : Int}, (∀ H', Keep H.length H H' → Q (fp (validR g b)) H') → Ret F fl f [cnt g b] H Q
theorem valid_c {f : Nat} (hF : F f = some rf_canary_Validate) : ValidC F f := fun {fl H Q g b} hq => by
  refine v_canary_Validate hF _ _ ?_
  intro H2 d2 H3 d3
  have := hq H3 (d2.keep.call d3.keep)
  unfold validR at this
  refine ⟨fun h => ?_, fun h => ?_⟩
  · rw [if_neg (bad_iff.1 h)] at this; exact this
  · rw [if_pos (Decidable.not_not.1 fun h' => h (bad_iff.2 h'))] at this; exact this

abbrev CountsValidC (F : Nat → Option RFunc) (f : Nat) : Prop := ∀ {fl H Q} {g b : Int}, (∀ H', Keep H.length H H' → Q (.bool (decide (okC g b))) H') → Ret F fl f [cnt g b] H Q
theorem countsValid_c {f : Nat} (hF : F f = some rf_FCountsValid) : CountsValidC F f := fun {fl H Q g b} hq => by
  refine v_FCountsValid hF _ _ ?_
  intro H2 d2
  have := hq H2 d2.keep
  have e : ((((decide (g ≥ 0) && decide (b ≥ 0)) && decide (g ≤ 25)) && decide (b ≤ 25)) && decide (IntKind.wrap .i64 (g + b) ≤ 25)) = decide (okC g b) := by
    rw [Bool.eq_iff_iff, decide_eq_true_eq, ← Decidable.not_not (p := okC g b), ← bad_iff]
    simp only [Bool.and_eq_true, decide_eq_true_eq]
    omega
  rw [e]; exact this

def twoR (g1 b1 g2 b2 : Int) : Int × Int := if okC g1 b1 then (if okC g2 b2 then (0, 0) else (3, -2)) else (3, -1)

abbrev TwoC (F : Nat → Option RFunc) (f : Nat) : Prop := ∀ {fl H Q} {g1 b1 g2 b2 : Int}, (∀ H', Keep H.length H H' → Q (fp (twoR g1 b1 g2 b2)) H') → Ret F fl f [cnt g1 b1, cnt g2 b2] H Q
theorem two_c {f n1 : Nat} (hF : F f = some (rf_canary_two n1)) (h1 : ValidC F n1) : TwoC F f := fun {fl H Q g1 b1 g2 b2} hq => by
  refine v_canary_two hF _ _ _ _ ?_
  intro H4 d4 H5 d5 H6 d6
  have k6 := (d4.keep.call d5.keep).call d6.keep
  refine h1 fun H9 k9 => ⟨_, _, rfl, fun H11 d11 => ?_⟩
  have k11 := (k6.call k9).call d11.keep
  unfold twoR at hq
  by_cases o1 : okC g1 b1
  · rw [if_pos o1] at hq
    have e1 : validR g1 b1 = (0, 0) := if_pos o1
    rw [e1]
    refine ⟨fun h => absurd ⟨rfl, rfl, trivial⟩ h, fun _ => h1 fun H14 k14 => ⟨_, _, rfl, fun H16 d16 => ?_⟩⟩
    have k16 := (k11.call k14).call d16.keep
    by_cases o2 : okC g2 b2
    · rw [if_pos o2] at hq
      have e2 : validR g2 b2 = (0, 0) := if_pos o2
      rw [e2]
      exact ⟨fun h => absurd ⟨rfl, rfl, trivial⟩ h, fun _ => hq H16 k16⟩
    · rw [if_neg o2] at hq
      have e2 : validR g2 b2 = (3, -1) := if_neg o2
      rw [e2]
      exact ⟨fun _ => hq H16 k16, fun h => absurd (fun h' => by cases h'.1) h⟩
  · rw [if_neg o1] at hq
    have e1 : validR g1 b1 = (3, -1) := if_neg o1
    rw [e1]
    exact ⟨fun _ => hq H11 k11, fun h => absurd (fun h' => by cases h'.1) h⟩

/-! ### Tail, Decide -/

def waysI (g1 b1 g2 b2 : Int) : Int := (tl (b1.toNat + b2.toNat) (g1.toNat + g2.toNat) (g2.toNat + b2.toNat) (g2.toNat + 1) : Nat)
def allI (g1 b1 g2 b2 : Int) : Int := (ch (b1.toNat + b2.toNat + (g1.toNat + g2.toNat)) (g2.toNat + b2.toNat) : Nat)

theorem twoR_ok {g1 b1 g2 b2 : Int} (h : (twoR g1 b1 g2 b2).1 = 0) : okC g1 b1 ∧ okC g2 b2 ∧ twoR g1 b1 g2 b2 = (0, 0) := by
  unfold twoR at h ⊢
  split at h
  · rename_i h1
    split at h
    · rename_i h2; exact ⟨h1, h2, by rw [if_pos h1, if_pos h2]⟩
    · simp at h
  · simp at h

theorem twoR_iff {g1 b1 g2 b2 : Int} : ((twoR g1 b1 g2 b2).1 = 0 ∧ (twoR g1 b1 g2 b2).2 = 0 ∧ True) ↔ (twoR g1 b1 g2 b2).1 = 0 := ⟨fun h => h.1, fun h => by rw [(twoR_ok h).2.2]; exact ⟨rfl, rfl, trivial⟩⟩

theorem okC_nat {g b : Int} (h : okC g b) : g = (g.toNat : Int) ∧ b = (b.toNat : Int) ∧ g.toNat + b.toNat ≤ 25 := by
  unfold okC at h; omega

/-- tail, for samples as numbers of Go. -/
abbrev TailIC (F : Nat → Option RFunc) (f : Nat) : Prop := ∀ {fl H Q} {g1 b1 g2 b2 : Int}, okC g1 b1 → okC g2 b2 → fl ≤ H.length → (∀ H', Keep H.length H H' → Q (.tuple [i64 (waysI g1 b1 g2 b2), i64 (allI g1 b1 g2 b2)]) H') → Ret F fl f [cnt g1 b1, cnt g2 b2] H Q
theorem tailI_c {f : Nat} (h : TailNC F f) : TailIC F f := fun {fl H Q g1 b1 g2 b2} o1 o2 hfl hq => by
  obtain ⟨a1, a2, a3⟩ := okC_nat o1
  obtain ⟨c1, c2, c3⟩ := okC_nat o2
  have := h (fl := fl) (H := H) (Q := Q) a3 c3 hfl hq
  rw [← a1, ← a2, ← c1, ← c2] at this
  exact this

def tailR (g1 b1 g2 b2 : Int) : Int × Int × (Int × Int) := if (twoR g1 b1 g2 b2).1 = 0 then (waysI g1 b1 g2 b2, allI g1 b1 g2 b2, (0, 0)) else (0, 0, twoR g1 b1 g2 b2)

abbrev TailC (F : Nat → Option RFunc) (f : Nat) : Prop := ∀ {fl H Q} {g1 b1 g2 b2 : Int}, fl ≤ H.length → (∀ H', Keep H.length H H' → Q (.tuple [i64 (tailR g1 b1 g2 b2).1, i64 (tailR g1 b1 g2 b2).2.1, fp (tailR g1 b1 g2 b2).2.2]) H') → Ret F fl f [cnt g1 b1, cnt g2 b2] H Q
theorem tail_c {f n1 n2 : Nat} (hF : F f = some (rf_canary_Tail n1 n2)) (h1 : TwoC F n1) (h2 : TailIC F n2) : TailC F f := fun {fl H Q g1 b1 g2 b2} hfl hq => by
  refine v_canary_Tail hF _ _ _ _ ?_
  intro H4 d4 H5 d5 H6 d6
  have k6 := (d4.keep.call d5.keep).call d6.keep
  refine h1 fun H9 k9 => ⟨_, _, rfl, fun H11 d11 => ?_⟩
  have k11 := (k6.call k9).call d11.keep
  unfold tailR at hq
  rw [twoR_iff]
  refine ⟨fun h => ?_, fun h => ?_⟩
  · rw [if_neg h] at hq; exact hq H11 k11
  · have h := Decidable.not_not.1 h
    rw [if_pos h] at hq
    obtain ⟨o1, o2, e⟩ := twoR_ok h
    refine h2 o1 o2 (k11.fl hfl) fun H14 k14 => ⟨_, _, rfl, ?_⟩
    rw [e]
    exact hq H14 (k11.call k14)

def verdictI (g1 b1 g2 b2 need pm : Int) : Int := if waysI g1 b1 g2 b2 * 1000 ≤ allI g1 b1 g2 b2 * pm then 3 else if g2 + b2 < need then 1 else 2

theorem ways_le {g1 b1 g2 b2 : Int} (o1 : okC g1 b1) (o2 : okC g2 b2) : 0 ≤ waysI g1 b1 g2 b2 ∧ waysI g1 b1 g2 b2 ≤ allI g1 b1 g2 b2 ∧ allI g1 b1 g2 b2 ≤ 1125899906842624 ∧ 0 < waysI g1 b1 g2 b2 := by
  obtain ⟨a1, a2, a3⟩ := okC_nat o1
  obtain ⟨c1, c2, c3⟩ := okC_nat o2
  unfold waysI allI
  have h1 : tl (b1.toNat + b2.toNat) (g1.toNat + g2.toNat) (g2.toNat + b2.toNat) (g2.toNat + 1) ≤ ch (b1.toNat + b2.toNat + (g1.toNat + g2.toNat)) (g2.toNat + b2.toNat) := tl_le_all _ _ _ _ (by omega)
  have h2 := ch_bound (n := b1.toNat + b2.toNat + (g1.toNat + g2.toNat)) (k := g2.toNat + b2.toNat) (by omega)
  have h3 : 0 < tl (b1.toNat + b2.toNat) (g1.toNat + g2.toNat) (g2.toNat + b2.toNat) (g2.toNat + 1) := by
    rw [tl]
    have x1 := ch_pos (b1.toNat + b2.toNat) (g2.toNat + b2.toNat - g2.toNat) (by omega)
    have x2 := ch_pos (g1.toNat + g2.toNat) g2.toNat (by omega)
    have := Nat.mul_pos x1 x2
    omega
  omega

/-- What a decision may be asked with. -/
def okP (need pm : Int) : Prop := 0 ≤ need ∧ need ≤ 25 ∧ 0 ≤ pm ∧ pm < 1000
instance (a b : Int) : Decidable (okP a b) := by unfold okP; exact inferInstance

def decideR (g1 b1 g2 b2 need pm : Int) : Int × (Int × Int) := if (twoR g1 b1 g2 b2).1 = 0 then (if okP need pm then (verdictI g1 b1 g2 b2 need pm, (0, 0)) else (0, (3, -3))) else (0, twoR g1 b1 g2 b2)

abbrev DecideC (F : Nat → Option RFunc) (f : Nat) : Prop := ∀ {fl H Q} {g1 b1 g2 b2 need pm : Int}, fl ≤ H.length → (∀ H', Keep H.length H H' → Q (.tuple [i64 (decideR g1 b1 g2 b2 need pm).1, fp (decideR g1 b1 g2 b2 need pm).2]) H') → Ret F fl f [cnt g1 b1, cnt g2 b2, i64 need, i64 pm] H Q

theorem mul_bd {a p : Int} (h0 : 0 ≤ a) (h1 : a ≤ 1125899906842624) (p0 : 0 ≤ p) (p1 : p ≤ 1000) : 0 ≤ a * p ∧ a * p ≤ 1125899906842624000 := by
  constructor
  · exact Int.mul_nonneg h0 p0
  · calc a * p ≤ 1125899906842624 * 1000 := Int.mul_le_mul h1 p1 p0 (by decide)
      _ = 1125899906842624000 := by decide

theorem decide_c {f n1 n2 : Nat} (hF : F f = some (rf_canary_Decide n1 n2)) (h1 : TwoC F n1) (h2 : TailIC F n2) : DecideC F f := fun {fl H Q g1 b1 g2 b2 need pm} hfl hq => by
  refine v_canary_Decide hF _ _ _ _ _ _ ?_
  intro H6 d6 H7 d7 H8 d8
  have k8 := (d6.keep.call d7.keep).call d8.keep
  refine h1 fun H11 k11 => ⟨_, _, rfl, fun H13 d13 => ?_⟩
  have k13 := (k8.call k11).call d13.keep
  unfold decideR at hq
  rw [twoR_iff]
  refine ⟨fun h => ?_, fun h => ?_⟩
  · obtain ⟨ht, hp⟩ := h
    rw [if_pos ht, if_neg (by unfold okP; omega)] at hq
    exact ⟨fun _ => hq H13 k13, fun h => absurd (fun h' => by cases h'.1) h⟩
  · refine ⟨fun ht => ?_, fun ht => ?_⟩
    · rw [if_neg ht] at hq; exact hq H13 k13
    · have ht := Decidable.not_not.1 ht
      have hp : okP need pm := by
        unfold okP
        have : ¬ (((need < 0 ∨ need > 25) ∨ pm < 0) ∨ pm ≥ 1000) := fun h' => h ⟨ht, h'⟩
        omega
      obtain ⟨o1, o2, e⟩ := twoR_ok ht
      rw [if_pos ht, if_pos hp] at hq
      obtain ⟨w0, w1, w2, _⟩ := ways_le o1 o2
      have x1 := mul_bd (p := 1000) w0 (by omega) (by decide) (by decide)
      have x2 := mul_bd (a := allI g1 b1 g2 b2) (p := pm) (by omega) w2 hp.2.2.1 (by have := hp.2.2.2; omega)
      refine h2 o1 o2 (k13.fl hfl) fun H16 k16 => ⟨_, _, rfl, ?_⟩
      rw [wrap64 (n := waysI g1 b1 g2 b2 * 1000) (by omega) (by omega), wrap64 (n := allI g1 b1 g2 b2 * pm) (by omega) (by omega), e]
      have hw : IntKind.wrap .i64 (g2 + b2) = g2 + b2 := by unfold okC at o2; rw [wrap64 (by omega) (by omega)]
      rw [hw]
      have hq' := hq H16 (k13.call k16)
      unfold verdictI at hq'
      refine ⟨fun hc => ?_, fun hc => ⟨fun hn => ?_, fun hn => ?_⟩⟩
      · rw [if_pos hc] at hq'; exact hq'
      · rw [if_neg hc, if_pos hn] at hq'; exact hq'
      · rw [if_neg hc, if_neg hn] at hq'; exact hq'

end Go.RM
