import Derived.Test.YtpjbnjgckbhohaaSpC2
import Derived.Test.YtpjbnjgckbhohaaSpS
/-
  speculate: Next, BinarySearch, Useful; the document's Decide and Upto.
-/
namespace Go.RM
set_option linter.unusedSimpArgs false
set_option linter.unusedVariables false
namespace Sp
variable {F : Nat → Option RFunc}

theorem half_shift {i j : Nat} (h : i + j ≤ 9223372036854775807) : IntKind.wrap .i64 (Int.fdiv (IntKind.wrap .u64 (IntKind.wrap .i64 ((i : Int) + j))) (2 ^ (Min.min (Int.toNat 1) (IntKind.bits .u64)))) = (((i + j) / 2 : Nat) : Int) := by
  have e1 : IntKind.wrap .i64 ((i : Int) + j) = ((i + j : Nat) : Int) := by rw [wrap64 (by omega) (by omega)]; omega
  have e2 : IntKind.wrap .u64 ((i + j : Nat) : Int) = ((i + j : Nat) : Int) := by
    have hb : (2 ^ IntKind.u64.bits : Int) = 18446744073709551616 := rfl
    have hs : IntKind.u64.signed = false := rfl
    unfold IntKind.wrap
    simp only [hb, hs, Bool.false_and, Bool.false_eq_true, if_false]
    omega
  have e3 : (2 : Int) ^ (Min.min (Int.toNat 1) (IntKind.bits .u64)) = 2 := rfl
  rw [e1, e2, e3, Int.fdiv_eq_ediv_of_nonneg _ (by decide), wrap64 (by omega) (by omega)]
  omega

theorem decS_len {l : List TR} : ∀ {m : Nat} {a b : List Int}, (decS l m a b).1.length + (decS l m a b).2.length ≤ a.length + b.length + m
  | 0, a, b => by rw [decS]; exact Nat.le_refl _
  | m + 1, a, b => by
    rw [decS]
    split
    · simp only; omega
    · split
      · have := decS_len (l := l) (m := m) (a := a ++ [((a.length + b.length : Nat) : Int)]) (b := b)
        simp only [List.length_append, List.length_cons, List.length_nil] at this; omega
      · have := decS_len (l := l) (m := m) (a := a) (b := b ++ [((a.length + b.length : Nat) : Int)])
        simp only [List.length_append, List.length_cons, List.length_nil] at this; omega
theorem resE_n {n : Int} {l : List TR} (h : resE n l = (0, 0)) : 0 ≤ n ∧ n ≤ 8 ∧ l.length ≤ 16 := by
  unfold resE at h
  split at h
  · simp at h
  · split at h
    · simp at h
    · omega
theorem decA_len {n : Int} {l : List TR} : (decA n l).1.length + (decA n l).2.length ≤ 8 := by
  unfold decA
  split
  · rename_i h
    have := resE_n h
    have h2 := decS_len (l := l) (m := n.toNat) (a := []) (b := [])
    unfold decR
    simp only [List.length_nil] at h2; omega
  · exact Nat.zero_le _

def nextE (n : Int) (l : List TR) : Run × (Int × Int) :=
  if resE n l = (0, 0) then
    if (((decA n l).1.length + (decA n l).2.length : Nat) : Int) = n then (⟨0, []⟩, (6, -3))
    else (⟨(((decA n l).1.length + (decA n l).2.length : Nat) : Int), (decA n l).1⟩, (0, 0))
  else (⟨0, []⟩, resE n l)

abbrev NextC (F : Nat → Option RFunc) (f : Nat) : Prop := ∀ {fl H Q v} {n : Int} {l : List TR}, Arr tTR H v l → fl ≤ H.length →
  (∀ w H', Keep H.length H H' → Own H.length H' 1 w (nextE n l).1.w.length (ints (nextE n l).1.w) → Q (.tuple [.agg (runC w (nextE n l).1), fp (nextE n l).2]) H') → Ret F fl f [i64 n, v] H Q
theorem next_c {f n1 : Nat} (hF : F f = some (rf_speculate_Next n1)) (h1 : DecC F n1) : NextC F f := fun {fl H Q v n l} hv hfl hq => by
  refine v_speculate_Next hF _ _ ?_
  intro b2 H3 n3 H4 d4
  have e2 := n3.b_eq
  have k4 := n3.keep.call d4.keep
  have hlen := decA_len (n := n) (l := l)
  refine h1 (hv.keep k4) (k4.fl hfl) fun a b H9 k9' oa ob => ⟨_, _, _, _, rfl, ?_⟩
  have k9 := k4.call k9'
  intro H11 d11
  have k11 := k9.call d11.keep
  have hl3 := n3.lt
  have bx : Box H11 b2 [i64 0, .empty] := n3.box.frame (((d4.keep.call k9').call d11.keep).get _ hl3)
  have oa11 := oa.keep d11.keep
  have h34 : H3.length ≤ H4.length := d4.keep.len
  have hla : ∀ x, At a x → x ≠ b2 := fun x hx e => by have := (oa.at_lt hx).1; omega
  -- the result is written and read
  have out : ∀ (r : Run) (w : AV) (f : Int × Int), Scal w → (∀ H12, KeepX b2 H11 H12 → Own H.length H12 1 w r.w.length (ints r.w)) → nextE n l = (r, f) →
      ∃ H12, putA fl H11 b2 0 2 (.agg (runC w r)) = some H12 ∧ ∃ e13, rload H12 (some 2) b2 0 = some e13 ∧ Q (.tuple [e13, fp f]) H12 := by
    intro r w f hw ho he
    obtain ⟨H12, p1, p2, p3⟩ := bx.put (fl := fl) (v := .agg (runC w r)) (n := 2) (o := 0) rfl (by simp) (by
      show (true && (w.scalar && true)) = true
      rw [hw.2]; rfl) (by rw [e2]; exact hfl)
    have p2' : Box H12 b2 (runC w r) := p2
    refine ⟨H12, p1, _, p2'.loadN (o := 0) (n := 2) (by simp), ?_⟩
    have := hq w H12 (k11.tr (p3.keep (by omega) (Nat.le_trans k11.low k11.len))) (by rw [he]; exact ho H12 p3)
    rw [he] at this; exact this
  refine ⟨fun hn => ?_, fun hn => ?_⟩
  · have : resE n l ≠ (0, 0) := fun e => hn ⟨by rw [e], by rw [e], trivial⟩
    exact out ⟨0, []⟩ .empty (resE n l) ⟨rfl, rfl⟩ (fun _ _ => Own.nil) (by unfold nextE; rw [if_neg this])
  · obtain ⟨z1, z2, _⟩ := Classical.not_not.1 hn
    have hz : resE n l = (0, 0) := Prod.ext z1 z2
    refine ⟨_, oa11.len, _, (ob.keep d11.keep).len, ?_⟩
    rw [wrap64 (by omega) (by omega)]
    refine ⟨fun he => ?_, fun he => ⟨_, oa11.len, _, (ob.keep d11.keep).len, oa11.scal, ?_⟩⟩
    · exact out ⟨0, []⟩ .empty (6, -3) ⟨rfl, rfl⟩ (fun _ _ => Own.nil) (by unfold nextE; rw [if_pos hz, if_pos (by omega)])
    · rw [wrap64 (by omega) (by omega)]
      have := out ⟨(((decA n l).1.length + (decA n l).2.length : Nat) : Int), (decA n l).1⟩ a (0, 0) oa.scal (fun H12 hx => own_less (oa11.frame fun x hx2 => hx.get x (hla x hx2)) k4.len) (by unfold nextE; rw [if_pos hz, if_neg (by omega)])
      rw [hz]
      exact this

abbrev BinC (F : Nat → Option RFunc) (f : Nat) : Prop := ∀ {fl H Q v} {l : List Int} {t : Int}, Ints H v l → l.length ≤ 2 ^ 62 →
  (∀ (k : Nat) b, k ≤ l.length → (0 < k → l.getD (k - 1) 0 < t) → (k < l.length → ¬ l.getD k 0 < t) → Q (.tuple [i64 k, .bool b]) H) → Ret F fl f [v, i64 t] H Q
theorem bin_c {f n1 n2 n3 : Nat} (hF : F f = some (rf_slices_BinarySearch__int_int n1 n2)) (h1 : F n1 = some (rf_cmp_Less_int n3)) (h3 : F n3 = some rf_cmp_isNaN_int) (h2 : F n2 = some rf_slices_isNaN_int) : BinC F f := fun {fl H Q v l t} hv h62 hq => by
  refine v_slices_BinarySearch__int_int hF _ _ ?_
  refine ⟨_, hv.len, fun m i j H' => ∃ a b : Nat, i = a ∧ j = b ∧ m = b - a ∧ a ≤ b ∧ b ≤ l.length ∧ H' = H ∧ (0 < a → l.getD (a - 1) 0 < t) ∧ (b < l.length → ¬ l.getD b 0 < t), l.length, ⟨0, l.length, rfl, rfl, by omega, by omega, Nat.le_refl _, rfl, fun h => by omega, fun h => by omega⟩, ?_⟩
  rintro m _ _ _ ⟨a, b, rfl, rfl, rfl, hab, hbl, rfl, ha, hb⟩
  refine ⟨fun hlt => ?_, fun hge => ?_⟩
  · rw [half_shift (by omega)]
    have hc : (a + b) / 2 < l.length := by omega
    refine ⟨_, hv.int hc, ?_⟩
    refine v_cmp_Less_int h1 _ _ ?_
    refine v_cmp_isNaN_int h3 _ ⟨_, rfl, fun hx => by simp at hx, fun _ => ⟨_, rfl, fun ht => ?_, fun hf => ?_⟩⟩
    · have ht := of_decide_eq_true ht
      rw [wrap64 (by omega) (by omega)]
      exact ⟨b - ((a + b) / 2 + 1), by omega, (a + b) / 2 + 1, b, by omega, rfl, rfl, by omega, hbl, rfl, fun _ => by rw [Nat.add_sub_cancel, getD_get hc]; exact ht, hb⟩
    · have hf := of_decide_eq_false (Bool.eq_false_iff.2 hf)
      exact ⟨(a + b) / 2 - a, by omega, a, (a + b) / 2, rfl, rfl, rfl, by omega, by omega, rfl, ha, fun _ => by rw [getD_get hc]; exact hf⟩
  · have : a = b := by omega
    subst this
    refine ⟨fun hlt => ?_, fun hge => hq a _ hbl ha hb⟩
    have hal : a < l.length := by omega
    refine ⟨_, hv.int hal, fun _ => hq a _ hbl ha hb, fun _ => ⟨_, hv.int hal, ?_⟩⟩
    refine v_slices_isNaN_int h2 _ ⟨_, rfl, fun hx => by simp at hx, fun _ => hq a _ hbl ha hb⟩

theorem codeL_sorted {last : Int} : ∀ {l : List Int} {p : Int}, codeL last p l = 0 → (∀ x ∈ l, p < x ∧ 0 ≤ x ∧ x < last) ∧ l.Pairwise (· < ·)
  | [], _, _ => ⟨fun x hx => by simp at hx, List.Pairwise.nil⟩
  | c :: l, p, h => by
    rw [codeL] at h
    split at h
    · simp at h
    · split at h
      · simp at h
      · obtain ⟨h1, h2⟩ := codeL_sorted h
        refine ⟨fun x hx => ?_, List.pairwise_cons.2 ⟨fun x hx => (h1 x hx).1, h2⟩⟩
        rcases List.mem_cons.1 hx with rfl | hx
        · omega
        · have := h1 x hx; omega

theorem take_filter {l : List Int} (hp : l.Pairwise (· < ·)) {k : Nat} {t : Int} (hk : k ≤ l.length) (h1 : 0 < k → l.getD (k - 1) 0 < t) (h2 : k < l.length → ¬ l.getD k 0 < t) : l.take k = l.filter fun x => decide (x < t) := by
  have e : l = l.take k ++ l.drop k := (List.take_append_drop k l).symm
  have hpp := hp
  rw [e] at hpp
  obtain ⟨p1, p2, p3⟩ := List.pairwise_append.1 hpp
  have f1 : (l.take k).filter (fun x => decide (x < t)) = l.take k := List.filter_eq_self.2 fun x hx => by
    rw [List.mem_take_iff_getElem] at hx
    obtain ⟨j, hj, rfl⟩ := hx
    have hkl : k - 1 < l.length := by omega
    have := h1 (by omega)
    rw [getD_get hkl] at this
    have hle : l[j]'(by omega) ≤ l[k - 1] := by
      rcases Nat.lt_or_ge j (k - 1) with h | h
      · have := List.pairwise_iff_getElem.1 hp j (k - 1) (by omega) hkl h; omega
      · have : j = k - 1 := by omega
        subst this; exact Int.le_refl _
    simp only [decide_eq_true_eq]; omega
  have f2 : (l.drop k).filter (fun x => decide (x < t)) = [] := List.filter_eq_nil_iff.2 fun x hx => by
    rw [List.mem_drop_iff_getElem] at hx
    obtain ⟨j, hj, rfl⟩ := hx
    have hkl : k < l.length := by omega
    have := h2 hkl
    rw [getD_get hkl] at this
    have hle : l[k] ≤ l[k + j] := by
      rcases Nat.eq_zero_or_pos j with h | h
      · subst h; exact Int.le_refl _
      · have := List.pairwise_iff_getElem.1 hp k (k + j) hkl (by omega) (by omega); omega
    simp only [decide_eq_true_eq]; omega
  have : l.filter (fun x => decide (x < t)) = (l.take k ++ l.drop k).filter fun x => decide (x < t) := by rw [← e]
  rw [this, List.filter_append, f1, f2, List.append_nil]

/-- Useful's answer. -/
def usefulE (n : Int) (l : List TR) (r : Run) : Bool × (Int × Int) :=
  if resE n l = (0, 0) then
    if runE n r ≠ 0 then (false, (runE n r, -3))
    else (decide (r.last ≥ (((decA n l).1.length + (decA n l).2.length : Nat) : Int)) && decide ((r.w.filter fun x => decide (x < (((decA n l).1.length + (decA n l).2.length : Nat) : Int))) = (decA n l).1), (0, 0))
  else (false, resE n l)

abbrev UsefulC (F : Nat → Option RFunc) (f : Nat) : Prop := ∀ {fl H Q v w} {n : Int} {l : List TR} {r : Run}, Arr tTR H v l → Ints H w r.w → fl ≤ H.length →
  (∀ H', Keep H.length H H' → Q (.tuple [.bool (usefulE n l r).1, fp (usefulE n l r).2]) H') → Ret F fl f [i64 n, v, .agg (runC w r)] H Q
theorem useful_c {f n1 n2 n3 n4 : Nat} (hF : F f = some (rf_speculate_Useful n1 n2 n3 n4)) (h1 : DecC F n1) (h2 : RunCodeC F n2) (h3 : BinC F n3) (h4 : FEqualIntsC F n4) : UsefulC F f := fun {fl H Q v w n l r} hv hw hfl hq => by
  refine v_speculate_Useful hF _ _ _ _ ?_
  intro H4 d4 H5 d5
  have k5 := d4.keep.call d5.keep
  have hlen := decA_len (n := n) (l := l)
  refine h1 (hv.keep k5) (k5.fl hfl) fun a b H10 k10' oa ob => ⟨_, _, _, _, rfl, ?_⟩
  have k10 := k5.call k10'
  intro H12 d12
  have k12 := k10.call d12.keep
  unfold usefulE at hq
  refine ⟨fun hn => ?_, fun hn => ?_⟩
  · have : resE n l ≠ (0, 0) := fun e => hn ⟨by rw [e], by rw [e], trivial⟩
    rw [if_neg this] at hq
    exact hq H12 k12
  · obtain ⟨z1, z2, _⟩ := Classical.not_not.1 hn
    have hz : resE n l = (0, 0) := Prod.ext z1 z2
    rw [if_pos hz] at hq
    refine h2 (hw.keep k12) fun H14 k14' => ⟨_, rfl, fun hc => ?_, fun hc => ?_⟩
    · rw [if_pos hc] at hq
      exact hq H14 (k12.call k14')
    · have hc0 : ¬ runE n r ≠ 0 := hc
      rw [if_neg hc0] at hq
      have k14 := k12.call k14'
      have hs : r.w.Pairwise (· < ·) ∧ r.w.length ≤ 8 := by
        have hc := Classical.not_not.1 hc0
        unfold runE at hc
        have hn := resE_n hz
        split at hc
        · simp at hc
        · rename_i hlast
          obtain ⟨s1, s2⟩ := codeL_sorted hc
          refine ⟨s2, ?_⟩
          -- strictly rising numbers below last
          have : ∀ (m : List Int) (lo : Int), m.Pairwise (· < ·) → (∀ x ∈ m, lo < x ∧ x < r.last) → lo < r.last → (m.length : Int) < r.last - lo := by
            intro m
            induction m with
            | nil => intro lo _ _ h; simp only [List.length_nil]; omega
            | cons y m ih =>
              intro lo hp hb _
              obtain ⟨q1, q2⟩ := List.pairwise_cons.1 hp
              have hy := hb y (by simp)
              have := ih y q2 (fun x hx => ⟨q1 x hx, (hb x (by simp [hx])).2⟩) hy.2
              simp only [List.length_cons]; omega
          have := this r.w (-1) s2 (fun x hx => ⟨(s1 x hx).1, (s1 x hx).2.2⟩) (by omega)
          omega
      have oa14 := (oa.keep d12.keep).keep k14'
      have ob14 := (ob.keep d12.keep).keep k14'
      refine ⟨_, oa14.len, _, ob14.len, ?_⟩
      rw [wrap64 (by omega) (by omega)]
      have hdec : ((decA n l).1.length : Int) + ((decA n l).2.length : Int) = (((decA n l).1.length + (decA n l).2.length : Nat) : Int) := by omega
      rw [hdec]
      have hw14 := hw.keep k14
      rw [hz]
      refine h3 hw14 (by omega) fun k bb hk g1 g2 => ⟨_, _, rfl, fun hge => ?_, fun hlt => ?_⟩
      · obtain ⟨s22, u1, u2⟩ := hw14.upto hk
        rw [take_filter hs.1 hk g1 g2] at u2
        refine ⟨s22, u1, h4 u2 (own_ints oa14) ⟨_, rfl, ?_⟩⟩
        have := hq H14 k14
        rw [decide_eq_true hge, Bool.true_and] at this
        exact this
      · have := hq H14 k14
        rw [decide_eq_false hlt, Bool.false_and] at this
        exact this

end Sp
end Go.RM

/-
  speculate: chances; the program's and the document's; runs of a weight.
-/
namespace Go.RM
set_option linter.unusedSimpArgs false
set_option linter.unusedVariables false
namespace Sp
variable {F : Nat → Option RFunc}

def fac (l : List Int) (r : Run) (i : Nat) : Int := if (i : Int) ≥ r.last then 100 else if (i : Int) ∈ r.w then l.getD i 0 else 100 - l.getD i 0
def chP (l : List Int) (r : Run) : Nat → Int
  | 0 => 1
  | n + 1 => chP l r n * fac l r n
abbrev chE (l : List Int) (r : Run) : Int := chP l r l.length

theorem chP_congr {l l' : List Int} {r r' : Run} : ∀ {n : Nat}, (∀ i, i < n → fac l r i = fac l' r' i) → chP l r n = chP l' r' n
  | 0, _ => rfl
  | n + 1, h => by rw [chP, chP, chP_congr fun i hi => h i (by omega), h n (by omega)]

theorem perc_in {l : List Int} (h : percE l = (0, 0)) : l.length ≤ 8 ∧ ∀ p ∈ l, 0 ≤ p ∧ p ≤ 100 := by
  have pg : ∀ (m : List Int) (i : Int), percL i m = (0, 0) → ∀ p ∈ m, 0 ≤ p ∧ p ≤ 100 := by
    intro m
    induction m with
    | nil => intro i _ p hp; simp at hp
    | cons x m ih =>
      intro i hi p hp
      rw [percL] at hi
      split at hi
      · simp at hi
      · rcases List.mem_cons.1 hp with rfl | hp
        · omega
        · exact ih _ hi p hp
  unfold percE at h
  split at h
  · simp at h
  · exact ⟨by omega, pg _ _ h⟩

theorem fac_in {l : List Int} {r : Run} (h : ∀ p ∈ l, 0 ≤ p ∧ p ≤ 100) (i : Nat) : 0 ≤ fac l r i ∧ fac l r i ≤ 100 := by
  have : 0 ≤ l.getD i 0 ∧ l.getD i 0 ≤ 100 := by
    rcases Nat.lt_or_ge i l.length with h' | h'
    · rw [getD_get h']; exact h _ (List.getElem_mem h')
    · rw [List.getD_eq_getElem?_getD, List.getElem?_eq_none h']; exact ⟨Int.le_refl _, by decide⟩
  unfold fac
  split
  · omega
  · split <;> omega
theorem chP_in {l : List Int} {r : Run} (h : ∀ p ∈ l, 0 ≤ p ∧ p ≤ 100) : ∀ n : Nat, 0 ≤ chP l r n ∧ chP l r n ≤ 100 ^ n
  | 0 => by rw [chP]; decide
  | n + 1 => by
    obtain ⟨h1, h2⟩ := chP_in (r := r) h n
    obtain ⟨f1, f2⟩ := fac_in (r := r) h n
    rw [chP, Int.pow_succ]
    exact ⟨Int.mul_nonneg h1 f1, Int.mul_le_mul h2 f2 f1 (by have : (0 : Int) ≤ 100 ^ n := Int.pow_nonneg (by decide); exact this)⟩
theorem pow_le8 {n : Nat} (h : n ≤ 8) : (100 : Int) ^ n ≤ 10000000000000000 := by
  match n, h with
  | 0, _ | 1, _ | 2, _ | 3, _ | 4, _ | 5, _ | 6, _ | 7, _ | 8, _ => decide
theorem chP_small {l : List Int} {r : Run} (h : ∀ p ∈ l, 0 ≤ p ∧ p ≤ 100) {n : Nat} (hn : n ≤ 8) : 0 ≤ chP l r n ∧ chP l r n ≤ 10000000000000000 := by
  obtain ⟨h1, h2⟩ := chP_in (r := r) h n
  exact ⟨h1, Int.le_trans h2 (pow_le8 hn)⟩

abbrev ChC (F : Nat → Option RFunc) (f : Nat) : Prop := ∀ {fl H Q v w} {l : List Int} {r : Run}, Ints H v l → Ints H w r.w → percE l = (0, 0) → r.w.Pairwise (· < ·) → (∀ x ∈ r.w, 0 ≤ x ∧ x < r.last) → (∀ H', Keep H.length H H' → Q (i64 (chE l r)) H') → Ret F fl f [v, .agg (runC w r)] H Q
theorem chance_c {f : Nat} (hF : F f = some rf_speculate_chance) : ChC F f := fun {fl H Q v w l r} hv hw hp hs hb hq => by
  refine v_speculate_chance hF _ _ _ ?_
  intro H3 d3
  have k3 := d3.keep
  have v3 := hv.keep k3
  have w3 := hw.keep k3
  obtain ⟨l8, pin⟩ := perc_in hp
  refine ⟨_, v3.len, fun m i o k => ∃ j q : Nat, i = j ∧ j + m = l.length ∧ o = chP l r j ∧ k = q ∧ q ≤ r.w.length ∧ (∀ x, x < q → r.w.getD x 0 < j) ∧ (∀ x, q ≤ x → x < r.w.length → r.w.getD x 0 ≥ j), l.length, ⟨0, 0, rfl, by omega, rfl, rfl, by omega, fun x hx => by omega, fun x _ hx => by rw [getD_get hx]; exact (hb _ (List.getElem_mem hx)).1⟩, ?_⟩
  rintro m _ _ _ ⟨j, q, rfl, hm, rfl, rfl, hql, h1, h2⟩
  refine ⟨fun hlt => ?_, fun hge => ?_⟩
  · have hj : j < l.length := by omega
    have hw1 := wsucc hj hv.small
    obtain ⟨c1, c2⟩ := chP_in (r := r) pin j
    have c3 := pow_le8 (show j ≤ 8 by omega)
    have cn : chP l r (j + 1) ≤ 10000000000000000 := (chP_small (r := r) pin (by omega)).2
    have cn0 : 0 ≤ chP l r (j + 1) := (chP_in (r := r) pin (j + 1)).1
    have pj := pin _ (List.getElem_mem hj)
    -- the next factor
    have next : ∀ (x : Int) (q' : Nat), fac l r j = x → q' ≤ r.w.length → (∀ x, x < q' → r.w.getD x 0 < (j + 1 : Nat)) → (∀ x, q' ≤ x → x < r.w.length → r.w.getD x 0 ≥ (j + 1 : Nat)) → ∀ k : Int, k = q' →
        ∃ m' : Nat, m' < m ∧ ∃ j' q2 : Nat, IntKind.wrap .i64 ((j : Int) + 1) = j' ∧ j' + m' = l.length ∧ IntKind.wrap .i64 (chP l r j * x) = chP l r j' ∧ k = q2 ∧ q2 ≤ r.w.length ∧ (∀ x, x < q2 → r.w.getD x 0 < j') ∧ (∀ x, q2 ≤ x → x < r.w.length → r.w.getD x 0 ≥ j') := by
      intro x q' hx a1 a2 a3 k hk
      have e : chP l r j * x = chP l r (j + 1) := by rw [chP, hx]
      exact ⟨m - 1, by omega, j + 1, q', hw1, by omega, by rw [e, wrap64 (by omega) (by omega)], hk, a1, a2, a3⟩
    refine ⟨_, v3.int hj, fun hge => ?_, fun hlt' => ⟨_, w3.len, fun hq1 => ?_, fun hq1 => ?_⟩⟩
    · -- after the change: no more of w
      have hall : q = r.w.length := by
        rcases Nat.lt_or_ge q r.w.length with h | h
        · have := h2 q (Nat.le_refl _) h
          rw [getD_get h] at this
          have := (hb _ (List.getElem_mem h)).2
          omega
        · omega
      exact next 100 q (by unfold fac; rw [if_pos hge]) hql (fun x hx => by have := h1 x hx; omega) (fun x hx hx2 => by omega) _ rfl
    · have hqn : q < r.w.length := by omega
      refine ⟨_, w3.int hqn, fun he => ?_, fun hne => ?_⟩
      · have := next l[j] (q + 1) (by
          unfold fac
          rw [if_neg hlt', if_pos (by rw [← he]; exact List.getElem_mem hqn), getD_get hj]) hqn (fun x hx => ?_) (fun x hx hx2 => ?_) ((q + 1 : Nat) : Int) rfl
        · rw [wsucc hqn hw.small]; exact this
        · rcases Nat.lt_or_ge x q with h | h
          · have := h1 x h; omega
          · have : x = q := by omega
            subst this
            rw [getD_get hqn]; omega
        · rw [getD_get hx2]
          have := List.pairwise_iff_getElem.1 hs q x hqn hx2 (by omega)
          omega
      · have hg := h2 q (Nat.le_refl _) hqn
        rw [getD_get hqn] at hg
        have hnm : (j : Int) ∉ r.w := fun hm => by
          obtain ⟨x, hx, hxe⟩ := List.mem_iff_getElem.1 hm
          rcases Nat.lt_or_ge x q with h | h
          · have := h1 x h
            rw [getD_get hx] at this; omega
          · rcases Nat.lt_or_ge q x with h' | h'
            · have := List.pairwise_iff_getElem.1 hs q x hqn hx h'; omega
            · have : x = q := by omega
              subst this; exact hne hxe
        rw [wrap64 (n := 100 - l[j]) (by omega) (by omega)]
        refine next (100 - l[j]) q (by unfold fac; rw [if_neg hlt', if_neg hnm, getD_get hj]) hql (fun x hx => by have := h1 x hx; omega) (fun x hx hx2 => ?_) _ rfl
        rw [getD_get hx2]
        rcases Nat.lt_or_ge q x with h' | h'
        · have := List.pairwise_iff_getElem.1 hs q x hqn hx2 h'; omega
        · have : x = q := by omega
          subst this; omega
    · have hnm : (j : Int) ∉ r.w := fun hm => by
        obtain ⟨x, hx, hxe⟩ := List.mem_iff_getElem.1 hm
        have := h1 x (by omega)
        rw [getD_get hx] at this; omega
      rw [wrap64 (n := 100 - l[j]) (by omega) (by omega)]
      exact next (100 - l[j]) q (by unfold fac; rw [if_neg hlt', if_neg hnm, getD_get hj]) hql (fun x hx => by have := h1 x hx; omega) (fun x hx hx2 => by omega) _ rfl
  · have : j = l.length := by omega
    subst this
    exact hq H3 k3

abbrev FChC (F : Nat → Option RFunc) (f : Nat) : Prop := ∀ (n : Nat) {fl H Q v w} {l : List Int} {r : Run}, l.length = n → Ints H v l → Ints H w r.w → (∀ p ∈ l, 0 ≤ p ∧ p ≤ 100) → n ≤ 8 → (∀ H', Keep H.length H H' → Q (i64 (chE l r)) H') → Ret F fl f [v, .agg (runC w r)] H Q
theorem fChance_c {f n1 : Nat} (hF : F f = some (rf_FChance f n1)) (h1 : FHasC F n1) : FChC F f := by
  intro n
  induction n with
  | zero =>
    intro fl H Q v w l r hn hv hw hp h8 hq
    refine v_FChance hF _ _ _ ?_
    intro H3 d3
    have k3 := d3.keep
    have hl : l = [] := List.eq_nil_of_length_eq_zero hn
    subst hl
    exact ⟨_, (hv.keep k3).len, fun _ => hq H3 k3, fun h => absurd rfl h⟩
  | succ n ih =>
    intro fl H Q v w l r hn hv hw hp h8 hq
    refine v_FChance hF _ _ _ ?_
    intro H3 d3
    have k3 := d3.keep
    refine ⟨_, (hv.keep k3).len, fun h0 => by omega, fun _ => ⟨_, (hv.keep k3).len, hw.scal, ?_⟩⟩
    intro H7 d7
    have k7 := k3.call d7.keep
    have v7 := hv.keep k7
    have w7 := hw.keep k7
    have hwr : IntKind.wrap .i64 ((l.length : Int) - 1) = (n : Int) := by rw [wrap64 (by omega) (by omega)]; omega
    rw [hwr]
    have hnl : n < l.length := by omega
    -- the rest is as before
    have hrest : chE (l.take n) ⟨imin r.last n, r.w⟩ = chP l r n := by
      have hl : (l.take n).length = n := by rw [List.length_take]; omega
      show chP _ _ (l.take n).length = _
      rw [hl]
      refine chP_congr fun i hi => ?_
      unfold fac
      have e1 : (l.take n).getD i 0 = l.getD i 0 := by rw [List.getD_eq_getElem?_getD, List.getD_eq_getElem?_getD, List.getElem?_take_of_lt hi]
      have e2 : ((i : Int) ≥ imin r.last n) ↔ ((i : Int) ≥ r.last) := by
        unfold imin
        split <;> omega
      simp only [e1, e2]
    have hsum : chE l r = chP l r n * fac l r n := by
      show chP l r l.length = _
      rw [hn, chP]
    rw [hsum] at hq
    have hpt : ∀ p ∈ l.take n, 0 ≤ p ∧ p ≤ 100 := fun p hp' => hp p (List.mem_of_mem_take hp')
    obtain ⟨c1, c2⟩ := chP_small (r := r) hp (show n ≤ 8 by omega)
    obtain ⟨d1, d2⟩ := chP_small (r := r) hp (show n + 1 ≤ 8 by omega)
    rw [chP] at d1 d2
    have pn := hp _ (List.getElem_mem hnl)
    have call : ∀ {fl' : Nat} {H' : Heap} {Q' : AV → Heap → Prop} {v' : AV}, Keep H.length H H' → rslice H' 1 v none (some (i64 (n : Int))) none = some v' → Ints H' v' (l.take n) → (∀ H'', Keep H.length H H'' → Q' (i64 (chP l r n)) H'') → Ret F fl' f [v', .agg [i64 (imin r.last n), w]] H' Q' := by
      intro fl' H' Q' v' kh _ hv' hq'
      refine ih (r := ⟨imin r.last n, r.w⟩) (by rw [List.length_take]; omega) hv' (hw.keep kh) hpt (by omega) fun H'' k'' => ?_
      rw [hrest]
      exact hq' H'' (kh.call k'')
    refine ⟨fun hge => ?_, fun hlt => ?_⟩
    · obtain ⟨s8, u1, u2⟩ := v7.upto (n := n) (by omega)
      have hf : fac l r n = 100 := by unfold fac; rw [if_pos hge]
      rw [hf] at hq d1 d2
      refine ⟨s8, u1, call k7 u1 u2 fun H10 k10 => ⟨_, rfl, ?_⟩⟩
      rw [wrap64 (by omega) (by omega), Int.mul_comm]
      exact hq H10 k10
    · refine h1 w7 ⟨_, rfl, fun hin => ?_, fun hin => ?_⟩
      · have hin := of_decide_eq_true hin
        obtain ⟨s8, u1, u2⟩ := v7.upto (n := n) (by omega)
        have hf : fac l r n = l[n] := by unfold fac; rw [if_neg hlt, if_pos hin, getD_get hnl]
        rw [hf] at hq d1 d2
        refine ⟨_, v7.int hnl, s8, u1, call k7 u1 u2 fun H10 k10 => ⟨_, rfl, ?_⟩⟩
        rw [Int.mul_comm, wrap64 (by omega) (by omega)]
        exact hq H10 k10
      · have hin := of_decide_eq_false (Bool.eq_false_iff.2 hin)
        obtain ⟨s8, u1, u2⟩ := v7.upto (n := n) (by omega)
        have hf : fac l r n = 100 - l[n] := by unfold fac; rw [if_neg hlt, if_neg hin, getD_get hnl]
        rw [hf] at hq d1 d2
        refine ⟨_, v7.int hnl, s8, u1, call k7 u1 u2 fun H10 k10 => ⟨_, rfl, ?_⟩⟩
        rw [wrap64 (n := 100 - l[n]) (by omega) (by omega), Int.mul_comm, wrap64 (by omega) (by omega)]
        exact hq H10 k10

def chanceE (l : List Int) (r : Run) : Int × (Int × Int) :=
  if percE l = (0, 0) then (if runE l.length r ≠ 0 then (0, (runE l.length r, -2)) else (chE l r, (0, 0))) else (0, percE l)
theorem runE_ok {n : Int} {r : Run} (h : runE n r = 0) : (0 ≤ r.last ∧ r.last < n) ∧ r.w.Pairwise (· < ·) ∧ ∀ x ∈ r.w, 0 ≤ x ∧ x < r.last := by
  unfold runE at h
  split at h
  · simp at h
  · obtain ⟨h1, h2⟩ := codeL_sorted h
    exact ⟨by omega, h2, fun x hx => (h1 x hx).2⟩
abbrev ChanceC (F : Nat → Option RFunc) (f : Nat) : Prop := ∀ {fl H Q v w} {l : List Int} {r : Run}, Ints H v l → Ints H w r.w → (∀ H', Keep H.length H H' → Q (.tuple [i64 (chanceE l r).1, fp (chanceE l r).2]) H') → Ret F fl f [v, .agg (runC w r)] H Q
theorem chanceA_c {f n1 n2 n3 : Nat} (hF : F f = some (rf_speculate_Chance n1 n2 n3)) (h1 : PercC F n1) (h2 : RunCodeC F n2) (h3 : ChC F n3) : ChanceC F f := fun {fl H Q v w l r} hv hw hq => by
  refine v_speculate_Chance hF _ _ _ ?_
  intro H3 d3 H4 d4
  have k4 := d3.keep.call d4.keep
  refine h1 (hv.keep k4) fun H7 k7' => ⟨_, _, rfl, ?_⟩
  have k7 := k4.call k7'
  intro H9 d9
  have k9 := k7.call d9.keep
  unfold chanceE at hq
  refine ⟨fun hn => ?_, fun hn => ?_⟩
  · have : percE l ≠ (0, 0) := fun e => hn ⟨by rw [e], by rw [e], trivial⟩
    rw [if_neg this] at hq
    exact hq H9 k9
  · obtain ⟨z1, z2, _⟩ := Classical.not_not.1 hn
    have hz : percE l = (0, 0) := Prod.ext z1 z2
    rw [if_pos hz] at hq
    refine ⟨_, (hv.keep k9).len, h2 (hw.keep k9) fun H12 k12' => ⟨_, rfl, fun hc => ?_, fun hc => ?_⟩⟩
    · rw [if_pos hc] at hq
      exact hq H12 (k9.call k12')
    · rw [if_neg hc] at hq
      have k12 := k9.call k12'
      obtain ⟨_, r2, r3⟩ := runE_ok (Classical.not_not.1 hc)
      exact h3 (hv.keep k12) (hw.keep k12) hz r2 r3 fun H15 k15 => ⟨_, rfl, hq H15 (k12.call k15)⟩

/-- The changes of a weight. -/
def bit (w i : Nat) : Nat := w / 2 ^ i % 2
def bitsL (w n : Nat) : List Int := ((List.range n).filter fun i => bit w i == 1).map fun (i : Nat) => (i : Int)
theorem bitsL_succ {w n : Nat} : bitsL w (n + 1) = if bit w n = 1 then bitsL w n ++ [(n : Int)] else bitsL w n := by
  unfold bitsL
  rw [List.range_succ, List.filter_append, List.map_append]
  by_cases h : bit w n = 1
  · rw [if_pos h]; simp [List.filter_cons, h]
  · rw [if_neg h]; simp [List.filter_cons, h]
theorem bitsL_len {w n : Nat} : (bitsL w n).length ≤ n := by
  unfold bitsL
  rw [List.length_map]
  exact Nat.le_trans (List.length_filter_le _ _) (by simp)
theorem bitsL_ok {w n : Nat} : (bitsL w n).Pairwise (· < ·) ∧ ∀ x ∈ bitsL w n, 0 ≤ x ∧ x < n := by
  refine ⟨?_, fun x hx => ?_⟩
  · unfold bitsL
    rw [List.pairwise_map]
    exact (List.pairwise_lt_range.filter _).imp fun h => by omega
  · unfold bitsL at hx
    obtain ⟨i, hi, rfl⟩ := List.mem_map.1 hx
    have := List.mem_range.1 (List.mem_filter.1 hi).1
    omega

theorem codeL_of {last : Int} : ∀ {l : List Int} {p : Int}, l.Pairwise (· < ·) → (∀ x ∈ l, p < x ∧ 0 ≤ x ∧ x < last) → codeL last p l = 0
  | [], _, _, _ => rfl
  | c :: l, p, h, hb => by
    obtain ⟨h1, h2⟩ := List.pairwise_cons.1 h
    have hc := hb c (by simp)
    rw [codeL, if_neg (by omega), if_neg (by omega)]
    exact codeL_of h2 fun x hx => ⟨h1 x hx, (hb x (by simp [hx])).2⟩
theorem runE_bits {n : Int} {w last : Nat} (h : (last : Int) < n) : runE n ⟨last, bitsL w last⟩ = 0 := by
  unfold runE
  rw [if_neg (by simp only; omega)]
  obtain ⟨h1, h2⟩ := bitsL_ok (w := w) (n := last)
  exact codeL_of h1 fun x hx => by have := h2 x hx; simp only; omega

abbrev RunOfC (F : Nat → Option RFunc) (f : Nat) : Prop := ∀ {fl H Q} {last w : Nat}, fl ≤ H.length → last ≤ 20 → w ≤ 2 ^ 60 → (∀ v H', Keep H.length H H' → Ints H' v (bitsL w last) → Q (.agg [i64 last, v]) H') → Ret F fl f [i64 last, i64 w] H Q
theorem runOf_c {f : Nat} (hF : F f = some rf_FRunOf) : RunOfC F f := fun {fl H Q last w} hfl h20 h60 hq => by
  refine v_FRunOf hF _ _ ?_
  intro H2 d2 H3 d3
  have k3 := d2.keep.call d3.keep
  refine ⟨fun m x i r v H' => ∃ j : Nat, x = (w / 2 ^ j : Nat) ∧ i = j ∧ r = last ∧ j + m = last ∧ Keep H.length H H' ∧ Acc H tInt H' v (bitsL w j), last, ⟨0, by simp, rfl, rfl, by omega, k3, Acc.nil⟩, ?_⟩
  rintro m _ _ _ v H13 ⟨j, rfl, rfl, rfl, hm, hk, hv⟩
  refine ⟨fun hlt => ?_, fun hge => ?_⟩
  · have hj : j < last := by omega
    have hw1 := wsucc (i := j) (n := last) hj (by omega)
    have hle : w / 2 ^ j ≤ w := Nat.div_le_self _ _
    have hxs : w / 2 ^ (j + 1) = w / 2 ^ j / 2 := by rw [Nat.pow_succ, ← Nat.div_div_eq_div_mul]
    have hbx : bit w j = w / 2 ^ j % 2 := rfl
    have e1 : Int.tmod ((w / 2 ^ j : Nat) : Int) 2 = (bit w j : Nat) := by
      rw [hbx]
      generalize w / 2 ^ j = x
      rw [Int.tmod_eq_emod_of_nonneg (by omega)]; omega
    have e2 : IntKind.wrap .i64 (Int.tdiv ((w / 2 ^ j : Nat) : Int) 2) = ((w / 2 ^ (j + 1) : Nat) : Int) := by
      rw [hxs]
      generalize w / 2 ^ j = x at hle
      rw [Int.tdiv_eq_ediv_of_nonneg (by omega), wrap64 (by omega) (by omega)]; omega
    rw [e1, e2, hw1]
    have hb := bitsL_succ (w := w) (n := j)
    refine ⟨fun h1 => ?_, fun h1 => ⟨m - 1, by omega, j + 1, rfl, rfl, rfl, by omega, hk, ?_⟩⟩
    · intro b14 H15 n15
      obtain ⟨a, H17, q1, q2, q3, _⟩ := hv.push (fl := fl) (free := true) (bytes := 8) (a := (j : Int)) rfl n15 hk hfl (by have := bitsL_len (w := w) (n := j); omega) (by omega)
      refine ⟨a, H17, q1, q2.scal, m - 1, by omega, j + 1, rfl, rfl, rfl, by omega, q3, ?_⟩
      rw [hb, if_pos (by omega)]; exact q2
    · rw [hb, if_neg (by omega)]; exact hv
  · have : j = last := by omega
    subst this
    exact ⟨hv.scal, hq v H13 hk (hv.arr hk)⟩

end Sp
end Go.RM

/-
  slices.SortStableFunc of structs of three cells: insertion sort, ranges exchanged, rotation.
-/
namespace Go.RM
set_option linter.unusedSimpArgs false
set_option linter.unusedVariables false
namespace Sp
variable {F : Nat → Option RFunc}

/-- What an element, known by its number, holds. -/
structure Enc where
  fL : Nat → Int
  fV : Nat → AV
  fC : Nat → Int
  hV : ∀ x, Scal (fV x)
abbrev Enc.c (E : Enc) (x : Nat) : List AV := [i64 (E.fL x), E.fV x, i64 (E.fC x)]

theorem Enc.scal (E : Enc) (x : Nat) : (E.c x).all AV.scalar = true := by
  show (true && ((E.fV x).scalar && (true && true))) = true
  rw [(E.hV x).2]; rfl

/-- The slice that is sorted, as a list of numbers. -/
structure SS (n : Nat) (H0 : Heap) (dv : AV) (E : Enc) (H : Heap) (l : List Nat) : Prop where
  own : Own n H 3 dv l.length (l.map E.c).flatten
  low : n ≤ H0.length
  len : H0.length ≤ H.length
  fr : ∀ b, b < H0.length → ¬ At dv b → H[b]? = H0[b]?

section
variable {n fl : Nat} {H0 H : Heap} {dv : AV} {E : Enc} {l L R : List Nat} {x : Nat}

theorem lens3 (E : Enc) (l : List Nat) : ∀ c ∈ l.map E.c, c.length = 3 := fun c hc => by
  obtain ⟨x, _, rfl⟩ := List.mem_map.1 hc; rfl

theorem SS.keep {H' : Heap} (h : SS n H0 dv E H l) (k : Keep H.length H H') : SS n H0 dv E H' l :=
  ⟨h.own.keep k, h.low, Nat.le_trans h.len k.len, fun b hb ha => by rw [k.get b (Nat.lt_of_lt_of_le hb h.len), h.fr b hb ha]⟩

theorem SS.get (h : SS n H0 dv E H (L ++ x :: R)) {i : Nat} (hi : i = L.length) : getA H 3 (some 3) dv (i : Int) 0 = some (.agg (E.c x)) := by
  subst hi
  refine h.own.sl.seg (by simp) ?_
  refine flat_seg (lens3 E _) ?_
  rw [List.getElem?_map, List.getElem?_append_right (Nat.le_refl _), Nat.sub_self]
  rfl

theorem SS.put (h : SS n H0 dv E H (L ++ x :: R)) (hfl : fl ≤ n) {i : Nat} (hi : i = L.length) (z : Nat) : ∃ b o, ptrA 3 dv (i : Int) = some (b, o) ∧ ∃ H', putA fl H b o 3 (.agg (E.c z)) = some H' ∧ SS n H0 dv E H' (L ++ z :: R) := by
  subst hi
  have hl : L.length < ((L ++ x :: R).map E.c).length := by simp
  obtain ⟨b, o, h1, h2, h3, _, h5⟩ := h.own.elemR (lens3 E _) (by simp) hl
  obtain ⟨H', p1, p2, p3⟩ := h5 fl 0 3 (.agg (E.c z)) hfl rfl (by decide) (E.scal z)
  refine ⟨b, o, h1, H', p1, ?_, h.low, by rw [p3.len]; exact h.len, fun y hy ha => by rw [p3.get y fun e => ha (by rw [e]; exact h2), h.fr y hy ha]⟩
  have e1 : splice (((L ++ x :: R).map E.c)[L.length]) 0 (AV.agg (E.c z)).cells = E.c z := by
    rw [List.getElem_map]; rfl
  rw [e1] at p2
  have e2 : ((L ++ x :: R).map E.c).set L.length (E.c z) = (L ++ z :: R).map E.c := by
    rw [List.map_append, List.map_append, List.set_append_right _ _ (by simp)]
    simp
  rw [e2] at p2
  have e3 : (L ++ x :: R).length = (L ++ z :: R).length := by simp
  rw [e3] at p2
  exact p2

theorem SS.cast {l' : List Nat} (h : SS n H0 dv E H l) (e : l = l') : SS n H0 dv E H l' := e ▸ h
end

/-- A comparison of two elements. -/
def CmpG (F : Nat → Option RFunc) (fl g : Nat) (E : Enc) (key : Nat → Int) : Prop :=
  ∀ {H : Heap} {Q : AV → Heap → Prop} (x y : Nat), (∀ (r : Int) H', Keep H.length H H' → (r < 0 ↔ key x < key y) → Q (i64 r) H') → Ret F fl g [.agg (E.c x), .agg (E.c y)] H Q

def Lex (key : Nat → Int) (a b : Nat) : Prop := key a < key b ∨ (key a = key b ∧ a < b)
theorem Lex.trans {key : Nat → Int} {a b c : Nat} (h1 : Lex key a b) (h2 : Lex key b c) : Lex key a c := by unfold Lex at *; omega

theorem ndeclI (n : Nat) (h : n ≤ 2 ^ 40) (h1 : 1 ≤ n) : IntKind.wrap .i64 ((n : Int) - 1) = ((n - 1 : Nat) : Int) := by rw [wrap64 (by omega) (by omega)]; omega
theorem nsuccI (n : Nat) (h : n ≤ 2 ^ 40) : IntKind.wrap .i64 ((n : Int) + 1) = ((n + 1 : Nat) : Int) := by rw [wrap64 (by omega) (by omega)]; omega
theorem naddI (n m : Nat) (h : n + m ≤ 2 ^ 40) : IntKind.wrap .i64 ((n : Int) + (m : Int)) = ((n + m : Nat) : Int) := by rw [wrap64 (by omega) (by omega)]; omega
theorem nsubI (n m : Nat) (h : n ≤ 2 ^ 40) (h1 : m ≤ n) : IntKind.wrap .i64 ((n : Int) - (m : Int)) = ((n - m : Nat) : Int) := by rw [wrap64 (by omega) (by omega)]; omega

abbrev InsG (F : Nat → Option RFunc) (f : Nat) : Prop := ∀ {fl n : Nat} {H0 H : Heap} {dv : AV} {g : Nat} {E : Enc} {key : Nat → Int} {Q : AV → Heap → Prop} {P A S : List Nat} {a b : Nat}, SS n H0 dv E H (P ++ (A ++ S)) → fl ≤ n → CmpG F fl g E key → A.Pairwise (· < ·) → (P ++ (A ++ S)).length ≤ 2 ^ 20 → a = P.length → b = P.length + A.length →
  (∀ H' C, SS n H0 dv E H' (P ++ (C ++ S)) → C.Perm A → C.Pairwise (Lex key) → Q .undef H') → Ret F fl f [dv, i64 a, i64 b, .func g []] H Q
theorem ins_g {f : Nat} (hF : F f = some rf_slices_insertionSortCmpFunc_speculate_planned) : InsG F f := fun {fl n H0 H dv g E key Q P A S a b} h hfl hcmp hA h20 ha hb hq => by
  refine v_slices_insertionSortCmpFunc_speculate_planned hF _ _ _ _ _ ?_
  simp only [List.length_append] at h20
  rw [nsuccI a (by omega)]
  refine ⟨fun m i H' => ∃ (j : Nat) (C : List Nat), i = (P.length + j : Nat) ∧ 1 ≤ j ∧ j + m = A.length + 1 ∧ SS n H0 dv E H' (P ++ (C ++ (A.drop j ++ S))) ∧ C.Perm (A.take j) ∧ C.Pairwise (Lex key), A.length, ⟨1, A.take 1, by rw [ha], Nat.le_refl _, by omega, ?_, List.Perm.refl _, ?_⟩, ?_⟩
  · exact h.cast (by rw [← List.append_assoc (A.take 1), List.take_append_drop])
  · cases A with
    | nil => exact List.Pairwise.nil
    | cons x A => simp
  rintro m _ H12 ⟨j, C, rfl, hj1, hm, ss, hperm, hlex⟩
  have hCl : C.length = (A.take j).length := hperm.length_eq
  refine ⟨fun hlt => ?_, fun hge => ?_⟩
  · have hj : j < A.length := by omega
    rw [List.length_take] at hCl
    have hCj : C.length = j := by omega
    have hx : A.drop j = A[j] :: A.drop (j + 1) := List.drop_eq_getElem_cons hj
    rw [hx] at ss
    have hlt : ∀ y ∈ C, y < A[j] := fun y hy => by
      have := hperm.mem_iff.1 hy
      rw [List.mem_take_iff_getElem] at this
      obtain ⟨i, hi, rfl⟩ := this
      exact List.pairwise_iff_getElem.1 hA i j (by omega) hj (by omega)
    have htk : A.take (j + 1) = A.take j ++ [A[j]] := List.take_succ_eq_append_getElem hj
    generalize A[j] = x at ss hlt htk
    generalize hRr : A.drop (j + 1) ++ S = R at ss
    have ss' : SS n H0 dv E H12 (P ++ (C ++ x :: R)) := ss.cast (by rw [← hRr]; rfl)
    refine ⟨fun q i H' => ∃ C1 C2, i = (P.length + C1.length : Nat) ∧ q = C1.length ∧ C = C1 ++ C2 ∧ SS n H0 dv E H' (P ++ (C1 ++ x :: (C2 ++ R))) ∧ ∀ y ∈ C2, key x < key y, C.length, ⟨C, [], by rw [hCj], rfl, by simp, ss', fun y hy => by simp at hy⟩, ?_⟩
    rintro q _ H18 ⟨C1, C2, rfl, rfl, hC, s2, hgt⟩
    have hC1 : C1.length ≤ C.length := by rw [hC]; simp
    have done : (∀ y ∈ C1, ¬ key x < key y) → ∀ H', SS n H0 dv E H' (P ++ (C1 ++ x :: (C2 ++ R))) → ∃ m' : Nat, m' < m ∧ ∃ (j' : Nat) (C' : List Nat), IntKind.wrap .i64 (((P.length + j : Nat) : Int) + 1) = (P.length + j' : Nat) ∧ 1 ≤ j' ∧ j' + m' = A.length + 1 ∧ SS n H0 dv E H' (P ++ (C' ++ (A.drop j' ++ S))) ∧ C'.Perm (A.take j') ∧ C'.Pairwise (Lex key) := by
      intro hle H' s3
      refine ⟨m - 1, by omega, j + 1, C1 ++ x :: C2, by rw [nsuccI _ (by omega)]; congr 1, by omega, by omega, s3.cast (by rw [hRr]; simp), ?_, ?_⟩
      · rw [htk]
        refine (List.perm_middle).trans ?_
        refine (List.Perm.cons x (hC ▸ hperm)).trans ?_
        exact (List.perm_append_singleton x _).symm
      · rw [hC] at hlex
        obtain ⟨p1, p2, p3⟩ := List.pairwise_append.1 hlex
        refine List.pairwise_append.2 ⟨p1, List.pairwise_cons.2 ⟨fun y hy => .inl (hgt y hy), p2⟩, fun y hy z hz => ?_⟩
        rcases List.mem_cons.1 hz with rfl | hz
        · have h1 := hle y hy
          have h2 := hlt y (by rw [hC]; simp [hy])
          unfold Lex; omega
        · exact p3 y hy z hz
    refine ⟨fun hpos => ?_, fun h0 => ?_⟩
    · -- the one before
      have hne : C1 ≠ [] := fun e => by rw [e] at hpos; simp at hpos; omega
      obtain ⟨D, y, hD⟩ : ∃ D y, C1 = D ++ [y] := ⟨C1.dropLast, C1.getLast hne, (List.dropLast_concat_getLast hne).symm⟩
      subst hD
      have hDl : (D ++ [y]).length = D.length + 1 := by simp
      have s3 : SS n H0 dv E H18 ((P ++ D) ++ y :: x :: (C2 ++ R)) := s2.cast (by simp)
      have s4 : SS n H0 dv E H18 ((P ++ D ++ [y]) ++ x :: (C2 ++ R)) := s2.cast (by simp)
      rw [ndeclI _ (by omega) (by omega)]
      refine ⟨_, _, _, s4.get (i := P.length + (D ++ [y]).length) (by simp [Nat.add_assoc]), _, _, _, s3.get (i := P.length + (D ++ [y]).length - 1) (by simp <;> omega), hcmp x y fun r H28 k28 hr => ⟨r, rfl, fun hlt' => ?_, fun hge' => ?_⟩⟩
      · have s5 := s3.keep k28
        have s6 := s4.keep k28
        refine ⟨_, _, _, s5.get (by simp <;> omega), _, _, _, s6.get (by simp [Nat.add_assoc]), ?_⟩
        obtain ⟨b1, o1, q1, H40, q2, s7⟩ := s6.put (fl := fl) hfl (i := P.length + (D ++ [y]).length) (by simp [Nat.add_assoc]) y
        have s8 : SS n H0 dv E H40 ((P ++ D) ++ y :: y :: (C2 ++ R)) := s7.cast (by simp)
        obtain ⟨b2, o2, q3, H43, q4, s9⟩ := s8.put (fl := fl) hfl (i := P.length + (D ++ [y]).length - 1) (by simp <;> omega) x
        refine ⟨b1, o1, q1, H40, q2, b2, o2, q3, H43, q4, D.length, by omega, D, y :: C2, ?_, rfl, by rw [hC]; simp, s9.cast (by simp), fun z hz => ?_⟩
        · rw [hDl]; congr 1
        · rcases List.mem_cons.1 hz with rfl | hz
          · exact hr.1 hlt'
          · exact hgt z hz
      · refine done (fun z hz => ?_) H28 (s2.keep k28)
        have hxy : ¬ key x < key y := fun h => hge' (hr.2 h)
        rcases List.mem_append.1 hz with hz | hz
        · rw [hC, List.append_assoc] at hlex
          have := (List.pairwise_append.1 hlex).2.2 z hz y (by simp)
          unfold Lex at this; omega
        · rw [List.mem_singleton.1 hz]; exact hxy
    · have : C1 = [] := List.eq_nil_of_length_eq_zero (by omega)
      exact done (by rw [this]; intro y hy; simp at hy) H18 s2
  · have hjA : A.length ≤ j := by omega
    rw [List.drop_eq_nil_of_le hjA, List.nil_append] at ss
    rw [List.take_of_length_le hjA] at hperm
    exact hq H12 C ss hperm hlex

abbrev SwapG (F : Nat → Option RFunc) (f : Nat) : Prop := ∀ {fl n : Nat} {H0 H : Heap} {dv : AV} {g : Nat} {E : Enc} {Q : AV → Heap → Prop} {P X M Y S : List Nat} {a b k : Nat}, SS n H0 dv E H (P ++ (X ++ (M ++ (Y ++ S)))) → fl ≤ n → X.length = k → Y.length = k → (P ++ (X ++ (M ++ (Y ++ S)))).length ≤ 2 ^ 20 → a = P.length → b = P.length + k + M.length →
  (∀ H', SS n H0 dv E H' (P ++ (Y ++ (M ++ (X ++ S)))) → Q .undef H') → Ret F fl f [dv, i64 a, i64 b, i64 k, .func g []] H Q
theorem swap_g {f : Nat} (hF : F f = some rf_slices_swapRangeCmpFunc_speculate_planned) : SwapG F f := fun {fl n H0 H dv g E Q P X M Y S a b k} h hfl hX hY h20 ha hb hq => by
  refine v_slices_swapRangeCmpFunc_speculate_planned hF _ _ _ _ _ _ ?_
  simp only [List.length_append] at h20
  refine ⟨fun m i H' => ∃ j : Nat, i = j ∧ j + m = k ∧ SS n H0 dv E H' (P ++ (Y.take j ++ (X.drop j ++ (M ++ (X.take j ++ (Y.drop j ++ S)))))), k, ⟨0, rfl, by omega, h⟩, ?_⟩
  rintro m _ H11 ⟨j, rfl, hm, ss⟩
  refine ⟨fun hlt => ?_, fun hge => ?_⟩
  · have hjX : j < X.length := by omega
    have hjY : j < Y.length := by omega
    have tX : X.take (j + 1) = X.take j ++ [X[j]] := List.take_succ_eq_append_getElem hjX
    have tY : Y.take (j + 1) = Y.take j ++ [Y[j]] := List.take_succ_eq_append_getElem hjY
    have dX : X.drop j = X[j] :: X.drop (j + 1) := List.drop_eq_getElem_cons hjX
    have dY : Y.drop j = Y[j] :: Y.drop (j + 1) := List.drop_eq_getElem_cons hjY
    have lX : (X.take j).length = j := by rw [List.length_take]; omega
    have lY : (Y.take j).length = j := by rw [List.length_take]; omega
    have lX2 : (X.drop (j + 1)).length = k - (j + 1) := by rw [List.length_drop]; omega
    rw [dX, dY] at ss
    generalize X[j] = x at *
    generalize Y[j] = y at *
    have s1 : SS n H0 dv E H11 ((P ++ Y.take j) ++ x :: (X.drop (j + 1) ++ (M ++ (X.take j ++ (y :: (Y.drop (j + 1) ++ S)))))) := ss.cast (by simp)
    have s2 : SS n H0 dv E H11 ((P ++ (Y.take j ++ (x :: (X.drop (j + 1) ++ (M ++ X.take j))))) ++ y :: (Y.drop (j + 1) ++ S)) := ss.cast (by simp)
    have i1 : a + j = (P ++ Y.take j).length := by rw [List.length_append, lY]; omega
    have i2 : b + j = (P ++ (Y.take j ++ (x :: (X.drop (j + 1) ++ (M ++ X.take j))))).length := by simp only [List.length_append, List.length_cons, lX, lY, lX2]; omega
    rw [naddI b j (by omega), naddI a j (by omega)]
    refine ⟨_, _, _, s2.get i2, _, _, _, s1.get i1, ?_⟩
    obtain ⟨b1, o1, q1, H22, q2, s3⟩ := s1.put (fl := fl) hfl i1 y
    have s4 : SS n H0 dv E H22 ((P ++ (Y.take j ++ (y :: (X.drop (j + 1) ++ (M ++ X.take j))))) ++ y :: (Y.drop (j + 1) ++ S)) := s3.cast (by simp)
    have i3 : b + j = (P ++ (Y.take j ++ (y :: (X.drop (j + 1) ++ (M ++ X.take j))))).length := by simp only [List.length_append, List.length_cons, lX, lY, lX2]; omega
    obtain ⟨b2, o2, q3, H25, q4, s5⟩ := s4.put (fl := fl) hfl i3 x
    refine ⟨b1, o1, q1, H22, q2, b2, o2, q3, H25, q4, m - 1, by omega, j + 1, nsuccI j (by omega), by omega, s5.cast ?_⟩
    rw [tX, tY]; simp
  · rw [List.take_of_length_le (by omega), List.take_of_length_le (by omega), List.drop_eq_nil_of_le (by omega), List.drop_eq_nil_of_le (by omega)] at ss
    exact hq H11 (ss.cast (by simp))

abbrev RotG (F : Nat → Option RFunc) (f : Nat) : Prop := ∀ {fl n : Nat} {H0 H : Heap} {dv : AV} {g : Nat} {E : Enc} {Q : AV → Heap → Prop} {P A B S : List Nat} {a m b : Nat}, SS n H0 dv E H (P ++ (A ++ (B ++ S))) → fl ≤ n → 0 < A.length → 0 < B.length → (P ++ (A ++ (B ++ S))).length ≤ 2 ^ 20 → a = P.length → m = P.length + A.length → b = P.length + A.length + B.length →
  (∀ H', SS n H0 dv E H' (P ++ (B ++ (A ++ S))) → Q .undef H') → Ret F fl f [dv, i64 a, i64 m, i64 b, .func g []] H Q
theorem rot_g {f n1 : Nat} (hF : F f = some (rf_slices_rotateCmpFunc_speculate_planned n1)) (h1 : SwapG F n1) : RotG F f := fun {fl n H0 H dv g E Q P A B S a m b} h hfl hA hB h20 ha hmm hb hq => by
  refine v_slices_rotateCmpFunc_speculate_planned hF _ _ _ _ _ _ ?_
  rw [nsubI m a (by simp only [List.length_append] at h20; omega) (by omega), nsubI b m (by simp only [List.length_append] at h20; omega) (by omega)]
  refine ⟨fun q i j H' => ∃ P' A' B' S', i = (A'.length : Nat) ∧ j = (B'.length : Nat) ∧ q = A'.length + B'.length ∧ 0 < A'.length ∧ 0 < B'.length ∧ P'.length + A'.length = m ∧ SS n H0 dv E H' (P' ++ (A' ++ (B' ++ S'))) ∧ P' ++ (B' ++ (A' ++ S')) = P ++ (B ++ (A ++ S)), A.length + B.length, ⟨P, A, B, S, by congr 1; omega, by congr 1; omega, rfl, hA, hB, by omega, h, rfl⟩, ?_⟩
  rintro q _ _ H13 ⟨P', A', B', S', rfl, rfl, rfl, hA', hB', hm', ss, he⟩
  have hl : P'.length + A'.length + B'.length + S'.length ≤ 2 ^ 20 := by
    have := congrArg List.length he
    simp only [List.length_append] at this h20; omega
  rw [nsubI m A'.length (by omega) (by omega)]
  refine ⟨fun hne => ⟨fun hgt => ?_, fun hle => ?_⟩, fun heq => ?_⟩
  · -- A' = A1 ++ A2
    have eA : A' = A'.take B'.length ++ A'.drop B'.length := (List.take_append_drop _ _).symm
    have l1 : (A'.take B'.length).length = B'.length := by rw [List.length_take]; omega
    have l2 : (A'.drop B'.length).length = A'.length - B'.length := List.length_drop
    generalize A'.take B'.length = A1 at eA l1
    generalize A'.drop B'.length = A2 at eA l2
    subst eA
    simp only [List.length_append] at hm' hl hgt l2 hne ⊢
    rw [nsubI _ _ (by omega) (by omega)]
    refine h1 (P := P') (X := A1) (M := A2) (Y := B') (S := S') (ss.cast (by simp)) hfl l1 rfl (by simp only [List.length_append]; omega) (by omega) (by omega) fun H14 s14 => ⟨rfl, A2.length + A1.length, by omega, P' ++ B', A2, A1, S', by congr 1; omega, by rw [l1], rfl, by omega, by omega, by simp only [List.length_append]; omega, s14.cast (by simp), ?_⟩
    rw [← he]; simp
  · -- B' = B1 ++ B2
    have hlt : A'.length < B'.length := by omega
    have eB : B' = B'.take (B'.length - A'.length) ++ B'.drop (B'.length - A'.length) := (List.take_append_drop _ _).symm
    have l1 : (B'.take (B'.length - A'.length)).length = B'.length - A'.length := by rw [List.length_take]; omega
    have l2 : (B'.drop (B'.length - A'.length)).length = A'.length := by rw [List.length_drop]; omega
    generalize B'.take (B'.length - A'.length) = B1 at eB l1
    generalize B'.drop (B'.length - A'.length) = B2 at eB l2
    subst eB
    simp only [List.length_append] at hl hle l1 hne hlt ⊢
    rw [naddI m _ (by omega), nsubI (m + _) A'.length (by omega) (by omega), nsubI _ A'.length (by omega) (by omega)]
    refine h1 (P := P') (X := A') (M := B1) (Y := B2) (S := S') (ss.cast (by simp)) hfl rfl l2 (by simp only [List.length_append]; omega) (by omega) (by omega) fun H14 s14 => ⟨rfl, B2.length + B1.length, by omega, P', B2, B1, A' ++ S', by rw [l2], by congr 1; omega, rfl, by omega, by omega, by omega, s14.cast (by simp), ?_⟩
    rw [← he]; simp
  · have heq : A'.length = B'.length := by have := Classical.not_not.1 heq; omega
    refine h1 (P := P') (X := A') (M := []) (Y := B') (S := S') (ss.cast (by simp)) hfl rfl heq.symm (by simp only [List.length_append, List.length_nil]; omega) (by omega) (by simp; omega) fun H14 s14 => ⟨rfl, hq H14 (s14.cast ?_)⟩
    rw [← he]; simp

end Sp
end Go.RM

/-
  slices.SortStableFunc of structs of three cells: the merge in place.
-/
namespace Go.RM
set_option linter.unusedSimpArgs false
set_option linter.unusedVariables false
namespace Sp
variable {F : Nat → Option RFunc}

theorem lex_key {key : Nat → Int} {l : List Nat} (h : l.Pairwise (Lex key)) {i j : Nat} (hij : i ≤ j) (hj : j < l.length) : key (l[i]'(by omega)) ≤ key l[j] := by
  rcases Nat.lt_or_ge i j with h' | h'
  · have := List.pairwise_iff_getElem.1 h i j (by omega) hj h'
    unfold Lex at this; omega
  · have : i = j := by omega
    subst this; exact Int.le_refl _

theorem split_mid {B : List Nat} {c : Nat} (hc : c < B.length) (S : List Nat) : B ++ S = B.take c ++ B[c] :: (B.drop (c + 1) ++ S) := by
  rw [← List.cons_append, ← List.drop_eq_getElem_cons hc, ← List.append_assoc, List.take_append_drop]

abbrev SymG (F : Nat → Option RFunc) (f : Nat) : Prop := ∀ (N : Nat) {fl n : Nat} {H0 H : Heap} {dv : AV} {g : Nat} {E : Enc} {key : Nat → Int} {Q : AV → Heap → Prop} {P A B S : List Nat} {a m b : Nat}, A.length + B.length ≤ N → SS n H0 dv E H (P ++ (A ++ (B ++ S))) → fl ≤ n → CmpG F fl g E key → 0 < A.length → 0 < B.length →
  A.Pairwise (Lex key) → B.Pairwise (Lex key) → (∀ x ∈ A, ∀ y ∈ B, x < y) → (P ++ (A ++ (B ++ S))).length ≤ 2 ^ 20 → a = P.length → m = P.length + A.length → b = P.length + A.length + B.length →
  (∀ H' C, SS n H0 dv E H' (P ++ (C ++ S)) → C.Perm (A ++ B) → C.Pairwise (Lex key) → Q .undef H') → Ret F fl f [dv, i64 a, i64 m, i64 b, .func g []] H Q

set_option maxHeartbeats 2000000 in
theorem sym_g {f n1 : Nat} (hF : F f = some (rf_slices_symMergeCmpFunc_speculate_planned n1 f)) (h1 : RotG F n1) : SymG F f := by
  intro N
  induction N with
  | zero => intro fl n H0 H dv g E key Q P A B S a m b hN h hfl hcmp hA; omega
  | succ N ih =>
  intro fl n H0 H dv g E key Q P A B S a m b hN h hfl hcmp hA hB pA pB hlt h20 ha hmm hb hq
  refine v_slices_symMergeCmpFunc_speculate_planned hF _ _ _ _ _ _ ?_
  simp only [List.length_append] at h20
  rw [nsubI m a (by omega) (by omega), nsubI b m (by omega) (by omega)]
  refine ⟨fun hone => ?_, fun hmany => ⟨fun hone => ?_, fun hmany2 => ?_⟩⟩
  · -- one element before
    obtain ⟨x, rfl⟩ : ∃ x, A = [x] := by
      match A, hA, (show A.length = 1 by omega) with
      | [x], _, _ => exact ⟨x, rfl⟩
    simp only [List.length_cons, List.length_nil] at *
    refine ⟨fun k i j H' => ∃ p q : Nat, i = (m + p : Nat) ∧ j = (m + q : Nat) ∧ k = q - p ∧ p ≤ q ∧ q ≤ B.length ∧ SS n H0 dv E H' (P ++ ([x] ++ (B ++ S))) ∧ (∀ h : p - 1 < B.length, 0 < p → key B[p - 1] < key x) ∧ (∀ h : q < B.length, ¬ key B[q] < key x), B.length, ⟨0, B.length, rfl, by congr 1; omega, by omega, by omega, Nat.le_refl _, h, fun _ h => by omega, fun h => by omega⟩, ?_⟩
    rintro k _ _ H14 ⟨p, q, rfl, rfl, rfl, hpq, hqB, ss, hp, hq'⟩
    refine ⟨fun hlt' => ?_, fun hge => ?_⟩
    · rw [half_shift (by omega)]
      have hc : (p + q) / 2 < B.length := by omega
      have s1 : SS n H0 dv E H14 ((P ++ (x :: B.take ((p + q) / 2))) ++ B[(p + q) / 2] :: (B.drop ((p + q) / 2 + 1) ++ S)) := ss.cast (by
        rw [split_mid hc S]
        simp only [List.append_assoc, List.cons_append, List.nil_append])
      have s2 : SS n H0 dv E H14 (P ++ x :: (B ++ S)) := ss
      have i1 : (m + p + (m + q)) / 2 = (P ++ (x :: B.take ((p + q) / 2))).length := by
        simp only [List.length_append, List.length_cons, List.length_take]; omega
      refine ⟨_, _, _, s1.get i1, _, _, _, s2.get ha, hcmp _ x fun r H24 k24 hr => ⟨r, rfl, fun hl => ?_, fun hl => ?_⟩⟩
      · rw [nsuccI _ (by omega)]
        exact ⟨_, by omega, (p + q) / 2 + 1, q, by congr 1; omega, rfl, rfl, by omega, hqB, ss.keep k24, fun _ _ => by simpa using hr.1 hl, hq'⟩
      · exact ⟨_, by omega, p, (p + q) / 2, rfl, by congr 1; omega, rfl, by omega, by omega, ss.keep k24, hp, fun _ hlt => hl (hr.2 hlt)⟩
    · have : p = q := by omega
      subst this
      have eB : B = B.take p ++ B.drop p := (List.take_append_drop _ _).symm
      have l1 : (B.take p).length = p := by rw [List.length_take]; omega
      have b1 : ∀ y ∈ B.take p, key y < key x := fun y hy => by
        rw [List.mem_take_iff_getElem] at hy
        obtain ⟨i, hi, rfl⟩ := hy
        have := hp (by omega) (by omega)
        have := lex_key pB (show i ≤ p - 1 by omega) (by omega)
        omega
      have b2 : ∀ y ∈ B.drop p, ¬ key y < key x := fun y hy => by
        rw [List.mem_drop_iff_getElem] at hy
        obtain ⟨i, hi, rfl⟩ := hy
        have := hq' (by omega)
        have := lex_key pB (show p ≤ p + i by omega) (by omega)
        omega
      have pB' := pB
      rw [eB] at pB'
      obtain ⟨pp1, pp2, pp3⟩ := List.pairwise_append.1 pB'
      have ix : ∀ y ∈ B, x < y := fun y hy => hlt x (by simp) y hy
      have m2 : ∀ y ∈ B.drop p, y ∈ B := fun y hy => List.mem_of_mem_drop hy
      generalize B.take p = B1 at *
      generalize B.drop p = B2 at *
      refine ⟨fun q k H' => ∃ t : Nat, k = (a + t : Nat) ∧ q + t = p ∧ SS n H0 dv E H' (P ++ (B1.take t ++ x :: (B1.drop t ++ (B2 ++ S)))), p, ⟨0, rfl, by omega, ss.cast (by rw [eB]; simp)⟩, ?_⟩
      rintro q _ H33 ⟨t, rfl, ht, s33⟩
      rw [ndeclI (m + p) (by omega) (by omega)]
      refine ⟨fun hl => ?_, fun hl => ?_⟩
      · have htB : t < B1.length := by omega
        have hd : B1.drop t = B1[t] :: B1.drop (t + 1) := List.drop_eq_getElem_cons htB
        have htk : B1.take (t + 1) = B1.take t ++ [B1[t]] := List.take_succ_eq_append_getElem htB
        have ltk : (B1.take t).length = t := by rw [List.length_take]; omega
        rw [hd] at s33
        generalize B1[t] = y at *
        have s1 : SS n H0 dv E H33 ((P ++ B1.take t) ++ x :: (y :: (B1.drop (t + 1) ++ (B2 ++ S)))) := s33.cast (by simp)
        have s2 : SS n H0 dv E H33 ((P ++ (B1.take t ++ [x])) ++ y :: (B1.drop (t + 1) ++ (B2 ++ S))) := s33.cast (by simp)
        have i1 : a + t = (P ++ B1.take t).length := by rw [List.length_append, ltk]; omega
        have i2 : a + t + 1 = (P ++ (B1.take t ++ [x])).length := by simp only [List.length_append, List.length_cons, List.length_nil, ltk]; omega
        rw [nsuccI (a + t) (by omega)]
        refine ⟨_, _, _, s2.get i2, _, _, _, s1.get i1, ?_⟩
        obtain ⟨c1, o1, q1, H44, q2, s3⟩ := s1.put (fl := fl) hfl i1 y
        have s4 : SS n H0 dv E H44 ((P ++ (B1.take t ++ [y])) ++ y :: (B1.drop (t + 1) ++ (B2 ++ S))) := s3.cast (by simp)
        have i3 : a + t + 1 = (P ++ (B1.take t ++ [y])).length := by simp only [List.length_append, List.length_cons, List.length_nil, ltk]; omega
        obtain ⟨c2, o2, q3, H47, q4, s5⟩ := s4.put (fl := fl) hfl i3 x
        exact ⟨c1, o1, q1, H44, q2, c2, o2, q3, H47, q4, q - 1, by omega, t + 1, by congr 1, by omega, s5.cast (by rw [htk]; simp)⟩
      · have : t = p := by omega
        subst this
        rw [List.take_of_length_le (by omega), List.drop_eq_nil_of_le (by omega)] at s33
        refine hq H33 (B1 ++ x :: B2) (s33.cast (by simp)) (by rw [eB]; exact List.perm_middle) ?_
        refine List.pairwise_append.2 ⟨pp1, List.pairwise_cons.2 ⟨fun y hy => ?_, pp2⟩, fun y hy z hz => ?_⟩
        · have := b2 y hy
          have := ix y (m2 y hy)
          unfold Lex; omega
        · rcases List.mem_cons.1 hz with rfl | hz
          · exact .inl (b1 y hy)
          · exact pp3 y hy z hz
  · -- one element behind
    obtain ⟨y, rfl⟩ : ∃ y, B = [y] := by
      match B, hB, (show B.length = 1 by omega) with
      | [y], _, _ => exact ⟨y, rfl⟩
    simp only [List.length_cons, List.length_nil] at *
    refine ⟨fun k i j H' => ∃ p q : Nat, i = (a + p : Nat) ∧ j = (a + q : Nat) ∧ k = q - p ∧ p ≤ q ∧ q ≤ A.length ∧ SS n H0 dv E H' (P ++ (A ++ ([y] ++ S))) ∧ (∀ h : p - 1 < A.length, 0 < p → ¬ key y < key A[p - 1]) ∧ (∀ h : q < A.length, key y < key A[q]), A.length, ⟨0, A.length, rfl, by congr 1; omega, by omega, by omega, Nat.le_refl _, h, fun _ h => by omega, fun h => by omega⟩, ?_⟩
    rintro k _ _ H57 ⟨p, q, rfl, rfl, rfl, hpq, hqA, ss, hp, hq'⟩
    refine ⟨fun hlt' => ?_, fun hge => ?_⟩
    · rw [half_shift (by omega)]
      have hc : (p + q) / 2 < A.length := by omega
      have s1 : SS n H0 dv E H57 ((P ++ A.take ((p + q) / 2)) ++ A[(p + q) / 2] :: (A.drop ((p + q) / 2 + 1) ++ ([y] ++ S))) := ss.cast (by
        rw [split_mid hc ([y] ++ S)]
        simp only [List.append_assoc, List.cons_append, List.nil_append])
      have s2 : SS n H0 dv E H57 ((P ++ A) ++ y :: S) := ss.cast (by simp)
      have i1 : (a + p + (a + q)) / 2 = (P ++ A.take ((p + q) / 2)).length := by
        simp only [List.length_append, List.length_take]; omega
      have i2 : m = (P ++ A).length := by rw [List.length_append]; omega
      refine ⟨_, _, _, s2.get i2, _, _, _, s1.get i1, hcmp y _ fun r H67 k67 hr => ⟨r, rfl, fun hl => ?_, fun hl => ?_⟩⟩
      · rw [nsuccI _ (by omega)]
        exact ⟨_, by omega, (p + q) / 2 + 1, q, by congr 1; omega, rfl, rfl, by omega, hqA, ss.keep k67, fun _ _ hlt => hl (hr.2 (by simpa using hlt)), hq'⟩
      · exact ⟨_, by omega, p, (p + q) / 2, rfl, by congr 1; omega, rfl, by omega, by omega, ss.keep k67, hp, fun _ => hr.1 (Classical.not_not.1 hl)⟩
    · have : p = q := by omega
      subst this
      have eA : A = A.take p ++ A.drop p := (List.take_append_drop _ _).symm
      have l1 : (A.take p).length = p := by rw [List.length_take]; omega
      have l2 : (A.drop p).length = A.length - p := List.length_drop
      have a1 : ∀ x ∈ A.take p, ¬ key y < key x := fun x hx => by
        rw [List.mem_take_iff_getElem] at hx
        obtain ⟨i, hi, rfl⟩ := hx
        have := hp (by omega) (by omega)
        have := lex_key pA (show i ≤ p - 1 by omega) (by omega)
        omega
      have a2 : ∀ x ∈ A.drop p, key y < key x := fun x hx => by
        rw [List.mem_drop_iff_getElem] at hx
        obtain ⟨i, hi, rfl⟩ := hx
        have := hq' (by omega)
        have := lex_key pA (show p ≤ p + i by omega) (by omega)
        omega
      have pA' := pA
      rw [eA] at pA'
      obtain ⟨pp1, pp2, pp3⟩ := List.pairwise_append.1 pA'
      have ix : ∀ x ∈ A, x < y := fun x hx => hlt x hx y (by simp)
      have m1 : ∀ x ∈ A.take p, x ∈ A := fun x hx => List.mem_of_mem_take hx
      generalize A.take p = A1 at *
      generalize A.drop p = A2 at *
      refine ⟨fun q k H' => ∃ t : Nat, k = (a + p + t : Nat) ∧ q = t ∧ t ≤ A2.length ∧ SS n H0 dv E H' (P ++ (A1 ++ (A2.take t ++ y :: (A2.drop t ++ S)))), A2.length, ⟨A2.length, by congr 1; omega, rfl, Nat.le_refl _, ss.cast (by rw [eA]; simp)⟩, ?_⟩
      rintro q _ H76 ⟨t, rfl, hqt, ht, s76⟩
      refine ⟨fun hl => ?_, fun hl => ?_⟩
      · have htA : t - 1 < A2.length := by omega
        have hd : A2.drop (t - 1) = A2[t - 1] :: A2.drop t := by
          have := List.drop_eq_getElem_cons htA
          rw [show t - 1 + 1 = t by omega] at this; exact this
        have htk : A2.take t = A2.take (t - 1) ++ [A2[t - 1]] := by
          have := List.take_succ_eq_append_getElem htA
          rw [show t - 1 + 1 = t by omega] at this; exact this
        have ltk : (A2.take (t - 1)).length = t - 1 := by rw [List.length_take]; omega
        rw [htk] at s76
        generalize A2[t - 1] = x at *
        have s1 : SS n H0 dv E H76 ((P ++ (A1 ++ A2.take (t - 1))) ++ x :: (y :: (A2.drop t ++ S))) := s76.cast (by simp)
        have s2 : SS n H0 dv E H76 ((P ++ (A1 ++ (A2.take (t - 1) ++ [x]))) ++ y :: (A2.drop t ++ S)) := s76.cast (by simp)
        have i1 : a + p + t - 1 = (P ++ (A1 ++ A2.take (t - 1))).length := by simp only [List.length_append, ltk]; omega
        have i2 : a + p + t = (P ++ (A1 ++ (A2.take (t - 1) ++ [x]))).length := by simp only [List.length_append, List.length_cons, List.length_nil, ltk]; omega
        rw [ndeclI (a + p + t) (by omega) (by omega)]
        refine ⟨_, _, _, s1.get i1, _, _, _, s2.get i2, ?_⟩
        obtain ⟨c1, o1, q1, H87, q2, s3⟩ := s2.put (fl := fl) hfl i2 x
        have s4 : SS n H0 dv E H87 ((P ++ (A1 ++ A2.take (t - 1))) ++ x :: (x :: (A2.drop t ++ S))) := s3.cast (by simp)
        obtain ⟨c2, o2, q3, H90, q4, s5⟩ := s4.put (fl := fl) hfl i1 y
        refine ⟨c1, o1, q1, H87, q2, c2, o2, q3, H90, q4, t - 1, by omega, t - 1, by congr 1; omega, rfl, by omega, s5.cast (by rw [hd]; simp)⟩
      · have : t = 0 := by omega
        subst this
        simp only [List.take_zero, List.drop_zero, List.nil_append] at s76
        refine hq H76 (A1 ++ y :: A2) (s76.cast (by simp)) ?_ ?_
        · rw [eA, List.append_assoc]
          exact List.Perm.append_left A1 (List.perm_append_singleton y A2).symm
        · refine List.pairwise_append.2 ⟨pp1, List.pairwise_cons.2 ⟨fun x hx => .inl (a2 x hx), pp2⟩, fun x hx z hz => ?_⟩
          rcases List.mem_cons.1 hz with rfl | hz
          · have := a1 x hx
            have := ix x (m1 x hx)
            unfold Lex; omega
          · exact pp3 x hx z hz
  · -- the general case
    have hA2 : 2 ≤ A.length := by omega
    have hB2 : 2 ≤ B.length := by omega
    simp only [half_shift (i := a) (j := b) (by omega)]
    generalize hmd : (a + b) / 2 = md
    have hmd1 : a < md ∧ md < b := by omega
    simp only [naddI md m (by omega)]
    -- the search's first range: start at most r
    refine ⟨fun s r => ∃ st rr : Nat, s = st ∧ r = rr ∧ st ≤ rr ∧ a ≤ st ∧ rr ≤ m ∧ m ≤ md + m - rr ∧ md + m - st ≤ b ∧ (st = a ∨ md + m - st = b) ∧ (rr = m ∨ md + m - rr = m), ⟨fun hgt => ?_, fun hle => ?_⟩, ?_⟩
    · exact ⟨md + m - b, md, nsubI _ b (by omega) (by omega), rfl, by omega, by omega, by omega, by omega, by omega, by omega, by omega⟩
    · exact ⟨a, m, rfl, rfl, by omega, by omega, by omega, by omega, by omega, by omega, by omega⟩
    rintro _ _ ⟨st0, rr0, rfl, rfl, g1, g2, g3, g4, g5, g6, g7⟩
    simp only [ndeclI (md + m) (by omega) (by omega)]
    -- what an element of A, of B is, by its place
    have getA' : ∀ c, a ≤ c → ∀ hc : c - a < A.length, ∀ H', SS n H0 dv E H' (P ++ (A ++ (B ++ S))) → getA H' 3 (some 3) dv (c : Int) 0 = some (.agg (E.c A[c - a])) := fun c hc hcl H' s' => by
      have s1 : SS n H0 dv E H' ((P ++ A.take (c - a)) ++ A[c - a] :: (A.drop (c - a + 1) ++ (B ++ S))) := s'.cast (by
        rw [split_mid hcl (B ++ S)]
        simp only [List.append_assoc, List.cons_append, List.nil_append])
      exact s1.get (by rw [List.length_append, List.length_take]; omega)
    have getB' : ∀ c, m ≤ c → ∀ hc : c - m < B.length, ∀ H', SS n H0 dv E H' (P ++ (A ++ (B ++ S))) → getA H' 3 (some 3) dv (c : Int) 0 = some (.agg (E.c B[c - m])) := fun c hc hcl H' s' => by
      have s1 : SS n H0 dv E H' ((P ++ (A ++ B.take (c - m))) ++ B[c - m] :: (B.drop (c - m + 1) ++ S)) := s'.cast (by
        rw [split_mid hcl S]
        simp only [List.append_assoc, List.cons_append, List.nil_append])
      exact s1.get (by simp only [List.length_append, List.length_take]; omega)
    refine ⟨fun k s r H' => ∃ st rr : Nat, s = st ∧ r = rr ∧ k = rr - st ∧ st ≤ rr ∧ st0 ≤ st ∧ rr ≤ rr0 ∧ SS n H0 dv E H' (P ++ (A ++ (B ++ S))) ∧
        (st0 < st → ∀ h1 : st - 1 - a < A.length, ∀ h2 : md + m - st - m < B.length, ¬ key B[md + m - st - m] < key A[st - 1 - a]) ∧
        (rr < rr0 → ∀ h1 : rr - a < A.length, ∀ h2 : md + m - rr - 1 - m < B.length, key B[md + m - rr - 1 - m] < key A[rr - a]), rr0 - st0, ⟨st0, rr0, rfl, rfl, rfl, g1, Nat.le_refl _, Nat.le_refl _, h, fun h => by omega, fun h => by omega⟩, ?_⟩
    rintro k _ _ H104 ⟨st, rr, rfl, rfl, rfl, e1, e2, e3, ss, e4, e5⟩
    refine ⟨fun hl => ?_, fun hge => ?_⟩
    · rw [half_shift (by omega)]
      generalize hcd : (st + rr) / 2 = c
      have hc : st ≤ c ∧ c < rr := by omega
      rw [nsubI (md + m - 1) c (by omega) (by omega)]
      have hcA : c - a < A.length := by omega
      have hcB : md + m - 1 - c - m < B.length := by omega
      refine ⟨_, _, _, getB' _ (by omega) hcB H104 ss, _, _, _, getA' _ (by omega) hcA H104 ss, hcmp _ _ fun r H114 k114 hr => ⟨r, rfl, fun hn => ?_, fun hn => ?_⟩⟩
      · rw [nsuccI c (by omega)]
        refine ⟨_, by omega, c + 1, rr, rfl, rfl, rfl, by omega, by omega, e3, ss.keep k114, fun _ h1 h2 hlt' => hn (hr.2 ?_), e5⟩
        have x1 : md + m - (c + 1) - m = md + m - 1 - c - m := by omega
        have x2 : c + 1 - 1 - a = c - a := by omega
        simp only [x1, x2] at hlt'
        exact hlt'
      · refine ⟨_, by omega, st, c, rfl, rfl, rfl, by omega, e2, by omega, ss.keep k114, e4, fun _ h1 h2 => ?_⟩
        have x1 : md + m - c - 1 - m = md + m - 1 - c - m := by omega
        simp only [x1]
        exact hr.1 (Classical.not_not.1 hn)
    · have : st = rr := by omega
      subst this
      simp only [nsubI (md + m) st (by omega) (by omega)]
      -- the four parts
      have eA : A = A.take (st - a) ++ A.drop (st - a) := (List.take_append_drop _ _).symm
      have eB : B = B.take (md - st) ++ B.drop (md - st) := (List.take_append_drop _ _).symm
      have lA1 : (A.take (st - a)).length = st - a := by rw [List.length_take]; omega
      have lA2 : (A.drop (st - a)).length = m - st := by rw [List.length_drop]; omega
      have lB1 : (B.take (md - st)).length = md - st := by rw [List.length_take]; omega
      have lB2 : (B.drop (md - st)).length = b - (md + m - st) := by rw [List.length_drop]; omega
      have pA' := pA
      rw [eA] at pA'
      obtain ⟨pA1, pA2, pA3⟩ := List.pairwise_append.1 pA'
      have pB' := pB
      rw [eB] at pB'
      obtain ⟨pB1, pB2, pB3⟩ := List.pairwise_append.1 pB'
      -- A1 is not after B2, B1 is before A2
      have o1 : ∀ x ∈ A.take (st - a), ∀ y ∈ B.drop (md - st), key x ≤ key y := fun x hx y hy => by
        rw [List.mem_take_iff_getElem] at hx
        obtain ⟨i, hi, rfl⟩ := hx
        rw [List.mem_drop_iff_getElem] at hy
        obtain ⟨j, hj, rfl⟩ := hy
        have := e4 (by omega) (by omega) (by omega)
        have t1 := lex_key pA (show i ≤ st - 1 - a by omega) (by omega)
        have t2 := lex_key pB (show md + m - st - m ≤ md - st + j by omega) (by omega)
        omega
      have o2 : ∀ y ∈ B.take (md - st), ∀ x ∈ A.drop (st - a), key y < key x := fun y hy x hx => by
        rw [List.mem_drop_iff_getElem] at hx
        obtain ⟨i, hi, rfl⟩ := hx
        rw [List.mem_take_iff_getElem] at hy
        obtain ⟨j, hj, rfl⟩ := hy
        have := e5 (by omega) (by omega) (by omega)
        have t1 := lex_key pA (show st - a ≤ st - a + i by omega) (by omega)
        have t2 := lex_key pB (show j ≤ md + m - st - 1 - m by omega) (by omega)
        omega
      have i1 : ∀ x ∈ A.take (st - a), ∀ y ∈ B.take (md - st), x < y := fun x hx y hy => hlt x (List.mem_of_mem_take hx) y (List.mem_of_mem_take hy)
      have i2 : ∀ x ∈ A.drop (st - a), ∀ y ∈ B.drop (md - st), x < y := fun x hx y hy => hlt x (List.mem_of_mem_drop hx) y (List.mem_of_mem_drop hy)
      have i3 : ∀ x ∈ A.take (st - a), ∀ y ∈ B.drop (md - st), x < y := fun x hx y hy => hlt x (List.mem_of_mem_take hx) y (List.mem_of_mem_drop hy)
      generalize A.take (st - a) = A1 at *
      generalize A.drop (st - a) = A2 at *
      generalize B.take (md - st) = B1 at *
      generalize B.drop (md - st) = B2 at *
      have hall : A.length = A1.length + A2.length := by rw [eA, List.length_append]
      have hbll : B.length = B1.length + B2.length := by rw [eB, List.length_append]
      -- at the end
      have fin : ∀ C1 C2, C1.Perm (A1 ++ B1) → C1.Pairwise (Lex key) → C2.Perm (A2 ++ B2) → C2.Pairwise (Lex key) → ∀ H', SS n H0 dv E H' (P ++ (C1 ++ (C2 ++ S))) → Q .undef H' := by
        intro C1 C2 q1 w1 q2 w2 H' s'
        refine hq H' (C1 ++ C2) (s'.cast (by simp)) ?_ ?_
        · refine (q1.append q2).trans ?_
          rw [eA, eB]
          simp only [List.append_assoc]
          refine List.Perm.append_left A1 ?_
          rw [← List.append_assoc, ← List.append_assoc]
          exact List.Perm.append_right B2 List.perm_append_comm
        · refine List.pairwise_append.2 ⟨w1, w2, fun x hx y hy => ?_⟩
          rcases List.mem_append.1 (q1.mem_iff.1 hx) with hx | hx <;> rcases List.mem_append.1 (q2.mem_iff.1 hy) with hy | hy
          · exact pA3 x hx y hy
          · have := o1 x hx y hy
            have := i3 x hx y hy
            unfold Lex; omega
          · exact .inl (o2 x hx y hy)
          · exact pB3 x hx y hy
      -- the second half
      have half2 : ∀ C1, C1.Perm (A1 ++ B1) → C1.Pairwise (Lex key) → ∀ H', SS n H0 dv E H' (P ++ (C1 ++ (A2 ++ (B2 ++ S)))) →
          ((((md : Int) < ((md + m - st : Nat) : Int)) ∧ (((md + m - st : Nat) : Int) < (b : Int))) → Ret F fl f [dv, i64 md, i64 ((md + m - st : Nat) : Int), i64 b, .func g []] H' (fun v H'' => v = .undef ∧ Q .undef H'')) ∧
          (¬(((md : Int) < ((md + m - st : Nat) : Int)) ∧ (((md + m - st : Nat) : Int) < (b : Int))) → Q .undef H') := by
        intro C1 q1 w1 H' s'
        have lC : C1.length = A1.length + B1.length := by rw [q1.length_eq, List.length_append]
        refine ⟨fun hc => ?_, fun hc => ?_⟩
        · refine ih (P := P ++ C1) (A := A2) (B := B2) (S := S) (key := key) (by omega) (s'.cast (by simp)) hfl hcmp (by omega) (by omega) pA2 pB2 i2 (by simp only [List.length_append]; omega) (by rw [List.length_append]; omega) (by rw [List.length_append]; omega) (by rw [List.length_append]; omega) fun H'' C2 s'' q2 w2 => ⟨rfl, ?_⟩
          exact fin C1 C2 q1 w1 q2 w2 H'' (s''.cast (by simp))
        · -- one of the two is empty
          have : A2 = [] ∨ B2 = [] := by
            rcases Nat.eq_zero_or_pos A2.length with h0 | h0
            · exact .inl (List.eq_nil_of_length_eq_zero h0)
            · exact .inr (List.eq_nil_of_length_eq_zero (by omega))
          refine fin C1 (A2 ++ B2) q1 w1 (List.Perm.refl _) ?_ H' (s'.cast (by simp))
          rcases this with e | e
          · rw [e]; exact pB2
          · rw [e, List.append_nil]; exact pA2
      -- both halves
      have halves : ∀ H', SS n H0 dv E H' (P ++ (A1 ++ (B1 ++ (A2 ++ (B2 ++ S))))) →
          ((((a : Int) < (st : Int)) ∧ ((st : Int) < (md : Int))) → Ret F fl f [dv, i64 a, i64 st, i64 md, .func g []] H' (fun v H'' => v = .undef ∧
            (((((md : Int) < ((md + m - st : Nat) : Int)) ∧ (((md + m - st : Nat) : Int) < (b : Int))) → Ret F fl f [dv, i64 md, i64 ((md + m - st : Nat) : Int), i64 b, .func g []] H'' (fun v H3 => v = .undef ∧ Q .undef H3)) ∧
            (¬(((md : Int) < ((md + m - st : Nat) : Int)) ∧ (((md + m - st : Nat) : Int) < (b : Int))) → Q .undef H'')))) ∧
          (¬(((a : Int) < (st : Int)) ∧ ((st : Int) < (md : Int))) →
            ((((md : Int) < ((md + m - st : Nat) : Int)) ∧ (((md + m - st : Nat) : Int) < (b : Int))) → Ret F fl f [dv, i64 md, i64 ((md + m - st : Nat) : Int), i64 b, .func g []] H' (fun v H3 => v = .undef ∧ Q .undef H3)) ∧
            (¬(((md : Int) < ((md + m - st : Nat) : Int)) ∧ (((md + m - st : Nat) : Int) < (b : Int))) → Q .undef H')) := by
        intro H' s'
        refine ⟨fun hc => ?_, fun hc => ?_⟩
        · refine ih (P := P) (A := A1) (B := B1) (S := A2 ++ (B2 ++ S)) (key := key) (by omega) s' hfl hcmp (by omega) (by omega) pA1 pB1 i1 (by simp only [List.length_append]; omega) ha (by omega) (by omega) fun H'' C1 s'' q1 w1 => ⟨rfl, half2 C1 q1 w1 H'' s''⟩
        · have : A1 = [] ∨ B1 = [] := by
            rcases Nat.eq_zero_or_pos A1.length with h0 | h0
            · exact .inl (List.eq_nil_of_length_eq_zero h0)
            · exact .inr (List.eq_nil_of_length_eq_zero (by omega))
          refine half2 (A1 ++ B1) (List.Perm.refl _) ?_ H' (s'.cast (by simp))
          rcases this with e | e
          · rw [e]; exact pB1
          · rw [e, List.append_nil]; exact pA1
      refine ⟨fun hrot => ?_, fun hrot => ?_⟩
      · refine h1 (P := P ++ A1) (A := A2) (B := B1) (S := B2 ++ S) (ss.cast (by rw [eA, eB]; simp)) hfl (by omega) (by omega) (by simp only [List.length_append]; omega) (by rw [List.length_append]; omega) (by rw [List.length_append]; omega) (by rw [List.length_append]; omega) fun H118 s118 => ⟨rfl, halves H118 (s118.cast (by simp))⟩
      · refine halves H104 (ss.cast ?_)
        have : A2 = [] ∨ B1 = [] := by
          rcases Nat.eq_zero_or_pos A2.length with h0 | h0
          · exact .inl (List.eq_nil_of_length_eq_zero h0)
          · exact .inr (List.eq_nil_of_length_eq_zero (by omega))
        rw [eA, eB]
        rcases this with e | e <;> rw [e] <;> simp

end Sp
end Go.RM

/-
  slices.SortStableFunc of structs of three cells: blocks that are merged; the whole.
-/
namespace Go.RM
set_option linter.unusedSimpArgs false
set_option linter.unusedVariables false
namespace Sp
variable {F : Nat → Option RFunc}

/-- Blocks in order, one after the other. -/
inductive Blks (key : Nat → Int) (bs : Nat) : List Nat → Prop
  | last {L : List Nat} : L.length ≤ bs → L.Pairwise (Lex key) → Blks key bs L
  | cons {A R : List Nat} : A.length = bs → A.Pairwise (Lex key) → (∀ a ∈ A, ∀ b ∈ R, a < b) → Blks key bs R → Blks key bs (A ++ R)

theorem blks_small {key : Nat → Int} {bs : Nat} {R : List Nat} (h : Blks key bs R) (hl : R.length ≤ bs) : R.Pairwise (Lex key) := by
  cases h with
  | last _ h => exact h
  | @cons A R h1 h2 _ _ =>
    have : R = [] := List.eq_nil_of_length_eq_zero (by rw [List.length_append] at hl; omega)
    rw [this, List.append_nil]; exact h2
theorem blks_two {key : Nat → Int} {bs : Nat} {R : List Nat} (h : Blks key bs R) (h0 : 0 < bs) (hl : 2 * bs ≤ R.length) :
    ∃ A B R2, R = A ++ (B ++ R2) ∧ A.length = bs ∧ B.length = bs ∧ A.Pairwise (Lex key) ∧ B.Pairwise (Lex key) ∧ (∀ a ∈ A, ∀ b ∈ B, a < b) ∧ (∀ x ∈ A ++ B, ∀ r ∈ R2, x < r) ∧ Blks key bs R2 := by
  cases h with
  | last h _ => omega
  | @cons A R h1 h2 h3 h4 =>
    rw [List.length_append] at hl
    cases h4 with
    | last k1 k2 =>
      refine ⟨A, R, [], by rw [List.append_nil], h1, by omega, h2, k2, h3, fun x _ r hr => by simp at hr, .last (Nat.zero_le _) List.Pairwise.nil⟩
    | @cons B R2 k1 k2 k3 k4 =>
      refine ⟨A, B, R2, rfl, h1, k1, h2, k2, fun a ha b hb => h3 a ha b (by simp [hb]), fun x hx r hr => ?_, k4⟩
      rcases List.mem_append.1 hx with hx | hx
      · exact h3 x hx r (by simp [hr])
      · exact k3 x hx r hr
theorem blks_one {key : Nat → Int} {bs : Nat} {R : List Nat} (h : Blks key bs R) (hl : bs < R.length) (hl2 : R.length < 2 * bs) :
    ∃ A B, R = A ++ B ∧ A.length = bs ∧ A.Pairwise (Lex key) ∧ B.Pairwise (Lex key) ∧ (∀ a ∈ A, ∀ b ∈ B, a < b) := by
  cases h with
  | last h _ => omega
  | @cons A R h1 h2 h3 h4 =>
    rw [List.length_append] at hl hl2
    exact ⟨A, R, rfl, h1, h2, blks_small h4 (by omega), h3⟩

/-- What is done, whatever becomes of the rest. -/
def Done (key : Nat → Int) (bs : Nat) (P T : List Nat) : Prop := ∀ R, R.Perm T → Blks key bs R → Blks key bs (P ++ R)
theorem Done.step {key : Nat → Int} {bs : Nat} {P A C T : List Nat} (h : Done key bs P (A ++ T)) (hp : C.Perm A) (hl : C.length = bs) (hc : C.Pairwise (Lex key)) (hlt : ∀ a ∈ A, ∀ t ∈ T, a < t) : Done key bs (P ++ C) T := fun R hR hB => by
  rw [List.append_assoc]
  exact h _ (hp.append hR) (.cons hl hc (fun a ha b hb => hlt a (hp.mem_iff.1 ha) b (hR.mem_iff.1 hb)) hB)

abbrev StabG (F : Nat → Option RFunc) (f : Nat) : Prop := ∀ {fl n : Nat} {H0 H : Heap} {dv : AV} {g : Nat} {E : Enc} {key : Nat → Int} {Q : AV → Heap → Prop} {l : List Nat}, SS n H0 dv E H l → fl ≤ n → CmpG F fl g E key → l.Pairwise (· < ·) → l.length ≤ 2 ^ 20 →
  (∀ H' C, SS n H0 dv E H' C → C.Perm l → C.Pairwise (Lex key) → Q .undef H') → Ret F fl f [dv, .func g []] H Q

theorem stab_g {f n1 n2 n3 : Nat} (hF : F f = some (rf_slices_SortStableFunc__speculate_planned_speculate_planned n1)) (h1 : F n1 = some (rf_slices_stableCmpFunc_speculate_planned n2 n3)) (h2 : InsG F n2) (h3 : SymG F n3) : StabG F f := fun {fl n H0 H dv g E key Q l} h hfl hcmp hl h20 hq => by
  refine v_slices_SortStableFunc__speculate_planned_speculate_planned hF _ _ _ ?_
  refine ⟨_, h.own.len, ?_⟩
  refine v_slices_stableCmpFunc_speculate_planned h1 _ _ _ _ ?_
  refine ⟨fun q b a H' => ∃ P T : List Nat, a = (P.length : Nat) ∧ b = (P.length + 20 : Nat) ∧ q = T.length ∧ SS n H0 dv E H' (P ++ T) ∧ (P ++ T).Perm l ∧ T.Pairwise (· < ·) ∧ Done key 20 P T, l.length, ⟨[], l, rfl, rfl, rfl, h, List.Perm.refl _, hl, fun R _ hB => hB⟩, ?_⟩
  rintro q _ _ H10 ⟨P, T, rfl, rfl, rfl, ss, hperm, hT, hD⟩
  have hlen := hperm.length_eq
  rw [List.length_append] at hlen
  refine ⟨fun hle => ?_, fun hgt => ?_⟩
  · have eT : T = T.take 20 ++ T.drop 20 := (List.take_append_drop _ _).symm
    have l1 : (T.take 20).length = 20 := by rw [List.length_take]; omega
    have l2 : (T.drop 20).length = T.length - 20 := List.length_drop
    generalize T.take 20 = A at eT l1
    generalize T.drop 20 = T' at eT l2
    subst eT
    obtain ⟨p1, p2, p3⟩ := List.pairwise_append.1 hT
    refine h2 (P := P) (A := A) (S := T') (key := key) ss hfl hcmp p1 (by simp only [List.length_append] at *; omega) rfl (by omega) fun H11 C s11 q1 q2 => ⟨rfl, T'.length, by simp only [List.length_append]; omega, P ++ C, T', ?_, ?_, rfl, s11.cast (by simp), ?_, p2, hD.step q1 (by rw [q1.length_eq, l1]) q2 p3⟩
    · rw [List.length_append, q1.length_eq, l1]
    · rw [List.length_append, q1.length_eq, l1]
      have : IntKind.wrap .i64 (((P.length + 20 : Nat) : Int) + 20) = ((P.length + 20 + 20 : Nat) : Int) := by rw [wrap64 (by omega) (by omega)]; omega
      exact this
    · refine List.Perm.trans ?_ hperm
      rw [List.append_assoc]
      exact List.Perm.append_left P (List.Perm.append_right T' q1)
  · have ss' : SS n H0 dv E H10 (P ++ (T ++ [])) := ss.cast (by simp)
    refine h2 (P := P) (A := T) (S := []) (key := key) ss' hfl hcmp hT (by simp only [List.length_append, List.length_nil]; omega) rfl (by omega) fun H14 C s14 q1 q2 => ⟨rfl, ?_⟩
    have lC := q1.length_eq
    have hB : Blks key 20 (P ++ C) := hD C q1 (.last (by omega) q2)
    have hP : (P ++ C).Perm l := (List.Perm.append_left P q1).trans hperm
    have s14' : SS n H0 dv E H14 (P ++ C) := s14.cast (by simp)
    generalize P ++ C = L at hB hP s14'
    clear ss ss' hperm hlen s14 q1 q2 lC hD hT hgt
    refine ⟨fun q bs H' => ∃ (b : Nat) (L : List Nat), bs = b ∧ 20 ≤ b ∧ b ≤ 2 ^ 22 ∧ q = l.length - b ∧ Blks key b L ∧ L.Perm l ∧ SS n H0 dv E H' L, l.length - 20, ⟨20, L, rfl, Nat.le_refl _, by decide, rfl, hB, hP, s14'⟩, ?_⟩
    clear hB hP s14'
    rintro q _ H26 ⟨bs, L, rfl, b20, b22, rfl, hB, hP, ss⟩
    have hLl := hP.length_eq
    refine ⟨fun hlt => ?_, fun hge => ⟨rfl, hq H26 L ss hP (blks_small hB (by omega))⟩⟩
    have e2 : IntKind.wrap .i64 (2 * (bs : Int)) = ((2 * bs : Nat) : Int) := by rw [wrap64 (by omega) (by omega)]; omega
    have e3 : IntKind.wrap .i64 ((bs : Int) * 2) = ((2 * bs : Nat) : Int) := by rw [wrap64 (by omega) (by omega)]; omega
    rw [e2, e3]
    refine ⟨fun q b a H' => ∃ P R : List Nat, a = (P.length : Nat) ∧ b = (P.length + 2 * bs : Nat) ∧ q = R.length ∧ SS n H0 dv E H' (P ++ R) ∧ (P ++ R).Perm l ∧ Blks key bs R ∧ Done key (2 * bs) P R, L.length, ⟨[], L, rfl, by congr 1; simp, rfl, ss, hP, hB, fun R _ hB => hB⟩, ?_⟩
    rintro q _ _ H33 ⟨P, R, rfl, rfl, rfl, s33, hperm, hR, hD⟩
    have hlen := hperm.length_eq
    rw [List.length_append] at hlen
    rw [naddI P.length bs (by omega)]
    refine ⟨fun hle => ?_, fun hgt => ⟨fun hmid => ?_, fun hmid => ?_⟩⟩
    · obtain ⟨A, B, R2, rfl, lA, lB, pA, pB, c1, c2, hR2⟩ := blks_two hR (by omega) (by omega)
      simp only [List.length_append] at hlen
      refine h3 (A.length + B.length) (P := P) (A := A) (B := B) (S := R2) (key := key) (Nat.le_refl _) s33 hfl hcmp (by omega) (by omega) pA pB c1 (by simp only [List.length_append]; omega) rfl (by omega) (by omega) fun H34 C s34 q1 q2 => ⟨rfl, R2.length, by simp only [List.length_append]; omega, P ++ C, R2, ?_, ?_, rfl, s34.cast (by simp), ?_, hR2, ?_⟩
      · rw [List.length_append, q1.length_eq, List.length_append]; congr 1; omega
      · rw [List.length_append, q1.length_eq, List.length_append, naddI _ _ (by omega)]; congr 1; omega
      · refine List.Perm.trans ?_ hperm
        rw [List.append_assoc]
        refine List.Perm.append_left P ?_
        rw [← List.append_assoc]
        exact List.Perm.append_right R2 q1
      · refine Done.step (A := A ++ B) ?_ q1 (by rw [q1.length_eq, List.length_append]; omega) q2 c2
        rw [List.append_assoc]; exact hD
    · obtain ⟨A, B, rfl, lA, pA, pB, c1⟩ := blks_one hR (by omega) (by omega)
      simp only [List.length_append] at hlen hgt
      refine h3 (A.length + B.length) (P := P) (A := A) (B := B) (S := []) (key := key) (Nat.le_refl _) (s33.cast (by simp)) hfl hcmp (by omega) (by omega) pA pB c1 (by simp only [List.length_append, List.length_nil]; omega) rfl (by omega) (by omega) fun H37 C s37 q1 q2 => ⟨rfl, l.length - 2 * bs, by omega, 2 * bs, P ++ C, rfl, by omega, by omega, rfl, hD C q1 (.last (by rw [q1.length_eq, List.length_append]; omega) q2), (List.Perm.append_left P q1).trans hperm, s37.cast (by simp)⟩
    · exact ⟨l.length - 2 * bs, by omega, 2 * bs, P ++ R, rfl, by omega, by omega, rfl, hD R (List.Perm.refl _) (.last (by omega) (blks_small hR (by omega))), hperm, s33⟩

end Sp
end Go.RM

