/-
  Numbers of choices, and tails of their sums.
-/
namespace Go.RM

def ch : Nat → Nat → Nat
  | _, 0 => 1
  | 0, _ + 1 => 0
  | n + 1, k + 1 => ch n k + ch n (k + 1)

theorem ch_zero (n : Nat) : ch n 0 = 1 := by cases n <;> rfl

theorem ch_gt : ∀ (n k : Nat), n < k → ch n k = 0
  | 0, 0, h => by omega
  | 0, k + 1, _ => rfl
  | n + 1, 0, h => by omega
  | n + 1, k + 1, h => by rw [ch, ch_gt n k (by omega), ch_gt n (k + 1) (by omega)]

theorem ch_self : ∀ n, ch n n = 1
  | 0 => rfl
  | n + 1 => by rw [ch, ch_self n, ch_gt n (n + 1) (by omega)]

theorem ch_pos : ∀ (n k : Nat), k ≤ n → 0 < ch n k
  | n, 0, _ => by rw [ch_zero]; omega
  | 0, k + 1, h => by omega
  | n + 1, k + 1, h => by rw [ch]; have := ch_pos n k (by omega); omega

theorem ch_step : ∀ (n k : Nat), ch n (k + 1) * (k + 1) = ch n k * (n - k)
  | 0, 0 => rfl
  | 0, k + 1 => by simp [ch]
  | n + 1, 0 => by
    have := ch_step n 0
    show (ch n 0 + ch n 1) * 1 = ch (n + 1) 0 * (n + 1 - 0)
    rw [ch_zero] at this
    rw [ch_zero, ch_zero]
    simp only [Nat.zero_add] at this
    omega
  | n + 1, j + 1 => by
    have h1 := ch_step n j
    have h2 := ch_step n (j + 1)
    rw [ch, ch, Nat.add_mul]
    have h3 : ch n (j + 1) * (j + 1 + 1) = ch n (j + 1) * (j + 1) + ch n (j + 1) := by rw [Nat.mul_succ]
    rw [h3, h1, h2]
    by_cases h : j + 1 ≤ n
    · have e : n + 1 - (j + 1) = n - j := by omega
      have e2 : n - j = (n - (j + 1)) + 1 := by omega
      rw [e, Nat.add_mul]
      have : ch n (j + 1) * (n - j) = ch n (j + 1) * (n - (j + 1)) + ch n (j + 1) := by rw [e2, Nat.mul_succ]
      omega
    · rw [ch_gt n (j + 1) (by omega)]
      by_cases e : j ≤ n
      · have : j = n := by omega
        subst this; simp
      · rw [ch_gt n j (by omega)]; simp

theorem ch_le : ∀ (n k : Nat), ch n k ≤ 2 ^ n
  | n, 0 => by rw [ch_zero]; exact Nat.one_le_two_pow
  | 0, k + 1 => by simp [ch]
  | n + 1, k + 1 => by rw [ch, Nat.pow_succ]; have := ch_le n k; have := ch_le n (k + 1); omega

theorem ch_symm : ∀ (n k : Nat), k ≤ n → ch n (n - k) = ch n k
  | n, 0, _ => by rw [Nat.sub_zero, ch_self, ch_zero]
  | 0, k + 1, h => by omega
  | n + 1, k + 1, h => by
    by_cases e : k = n
    · subst e; rw [Nat.sub_self, ch_zero, ch_self]
    · have e1 : n + 1 - (k + 1) = (n - (k + 1)) + 1 := by omega
      rw [e1, ch, ch, ch_symm n (k + 1) (by omega)]
      have e2 : n - (k + 1) + 1 = n - k := by omega
      rw [e2, ch_symm n k (by omega)]
      omega

/-- The sum of ch B k * ch G (m - k) over the k from m + 1 - d to m. -/
def tl (B G m : Nat) : Nat → Nat
  | 0 => 0
  | d + 1 => ch B (m - d) * ch G d + tl B G m d

theorem tl_shift (B G m : Nat) : ∀ d, d ≤ m → tl (B + 1) G m d + ch B (m - d) * ch G d = tl B (G + 1) m (d + 1)
  | 0, _ => by simp [tl, ch_zero]
  | d + 1, h => by
    have ih := tl_shift B G m d (by omega)
    rw [tl, tl, ← ih]
    have e : m - d = m - (d + 1) + 1 := by omega
    rw [e, ch, ch, Nat.add_mul, Nat.mul_add]
    omega

/-- One bad one more among the sampled, one good one less: the tail is no longer. -/
theorem tl_worse (B G m d : Nat) (h : d ≤ m) : tl (B + 1) G m d ≤ tl B (G + 1) m (d + 1) := by
  have := tl_shift B G m d h; omega

/-- One bad one more among the others: the tail is no shorter. -/
theorem tl_base (B G m d : Nat) (h : d ≤ m) : tl B (G + 1) m (d + 1) ≤ tl (B + 1) G m (d + 1) := by
  have hs := tl_shift B G m d h
  show tl B (G + 1) m (d + 1) ≤ ch (B + 1) (m - d) * ch G d + tl (B + 1) G m d
  rw [← hs]
  have h1 : ch B (m - d) ≤ ch (B + 1) (m - d) := by
    cases m - d with
    | zero => rw [ch_zero, ch_zero]; omega
    | succ k => rw [ch]; omega
  have := Nat.mul_le_mul_right (ch G d) h1
  omega

theorem tl_all_shift (B G m : Nat) : tl B (G + 1) m (m + 1) = tl (B + 1) G m (m + 1) := by
  have := tl_shift B G m m (Nat.le_refl _)
  rw [← this]
  conv => rhs; rw [tl]
  rw [Nat.sub_self, ch_zero, ch_zero]
  omega

theorem tl_zero (N m : Nat) : ∀ d, tl N 0 m (d + 1) = ch N m
  | 0 => by simp [tl, ch_zero]
  | d + 1 => by rw [tl, tl_zero N m d]; simp [ch]

/-- All ways together. -/
theorem tl_all : ∀ (G B m : Nat), tl B G m (m + 1) = ch (B + G) m
  | 0, B, m => tl_zero B m m
  | G + 1, B, m => by rw [tl_all_shift, tl_all G (B + 1) m]; congr 1; omega

theorem tl_mono (B G m : Nat) : ∀ {d e : Nat}, d ≤ e → tl B G m d ≤ tl B G m e := by
  intro d e h
  induction e with
  | zero => have : d = 0 := by omega
            subst this; exact Nat.le_refl _
  | succ e ih =>
    by_cases c : d = e + 1
    · subst c; exact Nat.le_refl _
    · have := ih (by omega); rw [tl]; omega

theorem tl_le_all (B G m d : Nat) (h : d ≤ m + 1) : tl B G m d ≤ ch (B + G) m := by rw [← tl_all]; exact tl_mono B G m h

theorem ch_ge : ∀ (n k : Nat), 0 < k → k < n → n ≤ ch n k
  | 0, _, _, h => by omega
  | n + 1, 0, h, _ => by omega
  | n + 1, k + 1, _, h => by
    rw [ch]
    by_cases h0 : k = 0
    · subst h0
      by_cases h1 : n = 1
      · subst h1; decide
      · have := ch_ge n 1 (by omega) (by omega)
        rw [ch_zero, Nat.zero_add]; omega
    · have := ch_ge n k (by omega) (by omega)
      have := ch_pos n (k + 1) (by omega)
      omega

end Go.RM
