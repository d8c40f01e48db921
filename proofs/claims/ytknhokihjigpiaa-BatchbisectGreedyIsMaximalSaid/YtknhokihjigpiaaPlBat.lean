/-
  Package batchbisect: plain facts about sets of changes and searches.
-/
import Derived.Test.YtknhokihjigpiaaBatC3
namespace Go.RM.Bat
set_option linter.unusedSimpArgs false
set_option linter.unusedVariables false

theorem setCode_ok {n : Int} : ∀ {last : Int} {l : List Int}, setCode n last l = 0 ↔ (∀ x ∈ l, 0 ≤ x ∧ x < n ∧ last < x) ∧ l.Pairwise (· < ·)
  | last, [] => by simp [setCode]
  | last, c :: l => by
    rw [setCode]
    split
    · rename_i h
      constructor
      · intro h'; cases h'
      · rintro ⟨h1, _⟩; have := h1 c (by simp); omega
    · rename_i h
      split
      · rename_i h2
        constructor
        · intro h'; cases h'
        · rintro ⟨h1, _⟩; have := h1 c (by simp); omega
      · rename_i h2
        rw [setCode_ok (n := n) (last := c) (l := l), List.pairwise_cons]
        constructor
        · rintro ⟨h3, h4⟩
          refine ⟨fun x hx => ?_, fun x hx => (h3 x hx).2.2, h4⟩
          rcases List.mem_cons.1 hx with rfl | hx
          · omega
          · have := h3 x hx; omega
        · rintro ⟨h3, h4, h5⟩
          exact ⟨fun x hx => ⟨(h3 x (by simp [hx])).1, (h3 x (by simp [hx])).2.1, h4 x hx⟩, h5⟩

theorem setCode_filter {n : Int} {l : List Int} (p : Int → Bool) (h : setCode n (-1) l = 0) : setCode n (-1) (l.filter p) = 0 := by
  rw [setCode_ok] at h ⊢
  exact ⟨fun x hx => h.1 x (List.mem_filter.1 hx).1, h.2.filter p⟩

theorem upTo_pairwise (k : Nat) : (upTo k).Pairwise (· < ·) := by
  induction k with
  | zero => exact List.Pairwise.nil
  | succ k ih =>
    rw [upTo_succ, List.pairwise_append]
    exact ⟨ih, List.pairwise_singleton _ _, fun a ha b hb => by rw [mem_upTo] at ha; rw [List.mem_singleton] at hb; omega⟩

theorem setCode_upTo {n : Int} {k : Nat} (h : (k : Int) ≤ n) : setCode n (-1) (upTo k) = 0 := by
  rw [setCode_ok]
  exact ⟨fun x hx => by rw [mem_upTo] at hx; omega, upTo_pairwise k⟩

theorem bis_least (p : Int → Bool) : ∀ (f : Nat) (lo hi : Int) (t : List Int), 0 ≤ lo → lo < hi → (hi - lo).toNat ≤ f + 1 → p lo = false → p ((bis p f lo hi t).1 - 1) = false
  | 0, lo, hi, t, h0, h1, hf, hp => by
    have : hi - 1 = lo := by omega
    rw [bis, this]; exact hp
  | f + 1, lo, hi, t, h0, h1, hf, hp => by
    rw [bis]
    split
    · split
      · exact bis_least p f lo _ _ h0 (by omega) (by omega) hp
      · rename_i h2
        exact bis_least p f _ hi _ (by omega) (by omega) (by omega) (by simpa using h2)
    · have : hi - 1 = lo := by omega
      rw [this]; exact hp

theorem bis_log (p : Int → Bool) : ∀ (j f : Nat) (lo hi : Int) (t : List Int), hi - lo ≤ 2 ^ j → (bis p f lo hi t).2.length ≤ t.length + j
  | j, 0, lo, hi, t, _ => by simp [bis]
  | 0, f + 1, lo, hi, t, h => by rw [bis, if_neg (by simp at h; omega)]; simp
  | j + 1, f + 1, lo, hi, t, h => by
    rw [bis]
    have h' : hi - lo ≤ 2 * 2 ^ j := by rw [Int.pow_succ] at h; omega
    split
    · split
      · have := bis_log p j f lo ((lo + hi) / 2) (t ++ [(lo + hi) / 2]) (by omega); simp at this; omega
      · have := bis_log p j f ((lo + hi) / 2) hi (t ++ [(lo + hi) / 2]) (by omega); simp at this; omega
    · simp

/-- What the searches find. -/
theorem sres_spec {p : Int → Bool} {n : Int} (h0 : p 0 = false) (hn : p n = true) (hn0 : 0 ≤ n) : 0 < (sres p n).1 ∧ (sres p n).1 ≤ n ∧ p (sres p n).1 = true ∧ p ((sres p n).1 - 1) = false := by
  have hpos : 0 < n := by
    rcases Int.lt_or_eq_of_le hn0 with h | h
    · exact h
    · subst h; rw [h0] at hn; cases hn
  obtain ⟨h1, h2, h3⟩ := bis_spec p n.toNat 0 n [] (Int.le_refl _) hpos
  exact ⟨h2, h1, h3 hn, bis_least p n.toNat 0 n [] (Int.le_refl _) hpos (by omega) h0⟩

theorem failing_nil {n : Int} : ∀ {cs : List (List Int)} {i : Nat}, (vLoop n i cs).1 = 0 → failing cs [] = false
  | [], i, _ => rfl
  | s :: r, i, h => by
    rw [vLoop] at h
    split at h
    · simp at h
    · rename_i hs
      split at h
      · rename_i h2; exact absurd h h2
      · unfold failing
        rw [List.any_cons]
        have hr := failing_nil (cs := r) (i := i + 1) h
        unfold failing at hr
        rw [hr, Bool.or_false]
        cases s with
        | nil => simp at hs
        | cons a s => simp

theorem vLoop_zero {n : Int} : ∀ {cs : List (List Int)} {i : Nat}, (vLoop n i cs).1 = 0 → (vLoop n i cs).2 = 0
  | [], i, _ => rfl
  | s :: r, i, h => by
    rw [vLoop] at h ⊢
    split
    · rename_i h1; rw [if_pos h1] at h; simp at h
    · rename_i h1
      rw [if_neg h1] at h
      split
      · rename_i h2; rw [if_pos h2] at h; exact absurd h h2
      · rename_i h2; rw [if_neg h2] at h; exact vLoop_zero h

theorem fault_ok {n : Int} {cs : List (List Int)} (h : (fault n cs).1 = 0) : (fault n cs).2 = 0 ∧ 0 ≤ n ∧ n ≤ 16 ∧ failing cs [] = false := by
  obtain ⟨h0, h16, h8⟩ := fault_le h
  have : fault n cs = vLoop n 0 cs := by rw [fault, if_neg (by omega), if_neg (by omega)]
  rw [this] at h ⊢
  exact ⟨vLoop_zero h, h0, h16, failing_nil h⟩

theorem minimalR_ok {n : Int} {cs : List (List Int)} (h : (minimalR n cs).2.1 = 0) : (fault n cs).1 = 0 ∧ failing cs (upTo n.toNat) = true ∧ minimalR n cs = (minLoop cs (n.toNat + 1) n [], (0, 0)) := by
  unfold minimalR at h ⊢
  split at h
  · rename_i h1
    split at h
    · rename_i h2; exact ⟨h1.1, h2, by rw [if_pos h1, if_pos h2]⟩
    · simp at h
  · rename_i h1
    have := fault_ok h
    exact absurd ⟨h, this.1⟩ h1

/-- What the search for a minimal set keeps true. -/
theorem minLoop_inv {cs : List (List Int)} {n0 : Int} : ∀ (f : Nat) (n : Int) (found : List Int), n.toNat + 1 ≤ f → 0 ≤ n → n ≤ n0 → (∀ x ∈ found, n ≤ x ∧ x < n0) → found.Pairwise (· < ·) → failing cs (upTo n.toNat ++ found) = true →
    (∀ x ∈ found, failing cs ((upTo n.toNat ++ found).filter (· != x)) = false) →
    setCode n0 (-1) (minLoop cs f n found) = 0 ∧ failing cs (minLoop cs f n found) = true ∧ ∀ x ∈ minLoop cs f n found, failing cs ((minLoop cs f n found).filter (· != x)) = false
  | 0, n, found, hf, _, _, _, _, _, _ => by omega
  | f + 1, n, found, hf, h0, hn, h1, h2, h3, h4 => by
    by_cases hfail : failing cs found = true
    · rw [minLoop_stop hfail]
      refine ⟨setCode_ok.2 ⟨fun x hx => by have := h1 x hx; omega, h2⟩, hfail, fun x hx => ?_⟩
      rw [Bool.eq_false_iff]
      intro hc
      have := failing_mono (b := (upTo n.toNat ++ found).filter (· != x)) (fun y hy => by
        rw [List.mem_filter] at hy ⊢
        exact ⟨List.mem_append.2 (.inr hy.1), hy.2⟩) hc
      rw [h4 x hx] at this; cases this
    · rw [minLoop, if_neg hfail]
      obtain ⟨s1, s2, s3⟩ := min_step h0 h3 hfail
      obtain ⟨_, _, _, s4⟩ := sres_spec (p := pFirst cs found) (n := n) (by simpa [pFirst, upTo] using hfail) h3 h0
      generalize (sres (pFirst cs found) n).1 = k at *
      refine minLoop_inv f (k - 1) ((k - 1) :: found) (by omega) (by omega) (by omega) (fun x hx => ?_) ?_ s3 fun x hx => ?_
      · rcases List.mem_cons.1 hx with rfl | hx
        · omega
        · have := h1 x hx; omega
      · rw [List.pairwise_cons]
        exact ⟨fun x hx => by have := h1 x hx; omega, h2⟩
      · rw [Bool.eq_false_iff]
        intro hc
        rcases List.mem_cons.1 hx with rfl | hx
        · have := failing_mono (b := upTo (k - 1).toNat ++ found) (fun y hy => by
            rw [List.mem_filter, List.mem_append, List.mem_cons] at hy
            rw [List.mem_append]
            rcases hy.1 with h | h | h
            · exact .inl h
            · have := hy.2; simp [h] at this
            · exact .inr h) hc
          rw [pFirst] at s4
          rw [s4] at this; cases this
        · have := failing_mono (b := (upTo n.toNat ++ found).filter (· != x)) (fun y hy => by
            rw [List.mem_filter, List.mem_append, List.mem_cons, mem_upTo] at hy
            rw [List.mem_filter, List.mem_append, mem_upTo]
            refine ⟨?_, hy.2⟩
            rcases hy.1 with h | h | h
            · left; omega
            · left; omega
            · exact .inr h) hc
          rw [h4 x hx] at this; cases this

theorem minimal_law {n : Int} {cs : List (List Int)} (h : (minimalR n cs).2.1 = 0) :
    setCode n (-1) (minimalR n cs).1 = 0 ∧ failing cs (minimalR n cs).1 = true ∧ (0 < (minimalR n cs).1.length) ∧ ∀ x ∈ (minimalR n cs).1, failing cs ((minimalR n cs).1.filter (· != x)) = false := by
  obtain ⟨h1, h2, h3⟩ := minimalR_ok h
  obtain ⟨g1, g2, g3, g4⟩ := fault_ok h1
  rw [h3]
  obtain ⟨a, b, c⟩ := minLoop_inv (n0 := n) (cs := cs) (n.toNat + 1) n [] (Nat.le_refl _) g2 (Int.le_refl _) (by simp) List.Pairwise.nil (by simpa using h2) (by simp)
  refine ⟨a, b, ?_, c⟩
  rcases Nat.eq_zero_or_pos (minLoop cs (n.toNat + 1) n []).length with h | h
  · have := List.eq_nil_of_length_eq_zero h
    rw [this, g4] at b; cases b
  · exact h

theorem firstR_ok {n : Int} {cs : List (List Int)} (h : (firstR n cs).2.2.1 = 0) : (fault n cs).1 = 0 ∧ failing cs (upTo n.toNat) = true ∧ firstR n cs = ((sres (pFirst cs []) n).1 - 1, n :: (sres (pFirst cs []) n).2, (0, 0)) := by
  unfold firstR at h ⊢
  split at h
  · rename_i h1
    split at h
    · rename_i h2; exact ⟨h1.1, h2, by rw [if_pos h1, if_pos h2]⟩
    · simp at h
  · rename_i h1
    have := fault_ok h
    exact absurd ⟨h, this.1⟩ h1

theorem first_law {n : Int} {cs : List (List Int)} (h : (firstR n cs).2.2.1 = 0) :
    0 ≤ (firstR n cs).1 ∧ (firstR n cs).1 < n ∧ n ≤ 16 ∧ setCode n (-1) (upTo ((firstR n cs).1 + 1).toNat) = 0 ∧ failing cs (upTo ((firstR n cs).1 + 1).toNat) = true ∧
    setCode n (-1) (upTo (firstR n cs).1.toNat) = 0 ∧ failing cs (upTo (firstR n cs).1.toNat) = false ∧ 1 ≤ (firstR n cs).2.1.length ∧ (firstR n cs).2.1.length ≤ 5 ∧ (fault n cs).1 = 0 ∧ (fault n cs).2 = 0 := by
  obtain ⟨h1, h2, h3⟩ := firstR_ok h
  obtain ⟨g1, g2, g3, g4⟩ := fault_ok h1
  obtain ⟨s1, s2, s3, s4⟩ := sres_spec (p := pFirst cs []) (n := n) (by simpa [pFirst, upTo] using g4) (by simpa [pFirst] using h2) g2
  have s5 := bis_log (pFirst cs []) 4 n.toNat 0 n [] (by omega)
  rw [h3]
  rw [pFirst, List.append_nil] at s3 s4
  have e : (sres (pFirst cs []) n).1 - 1 + 1 = (sres (pFirst cs []) n).1 := by omega
  simp only [e]
  refine ⟨by omega, by omega, g3, setCode_upTo (by omega), s3, setCode_upTo (by omega), s4, by simp, ?_, h1, g1⟩
  unfold sres
  simp at s5 ⊢; omega

/-- The changes accepted one after the other. -/
theorem greedy_mem {cs : List (List Int)} {n : Nat} {x : Int} : x ∈ greedy cs n → 0 ≤ x ∧ x < n := by
  unfold greedy
  induction n with
  | zero => intro h; simp [upTo] at h
  | succ n ih =>
    rw [upTo_succ, List.foldl_append, List.foldl_cons, List.foldl_nil]
    unfold gstep at ih ⊢
    split
    · intro h; have := ih h; omega
    · intro h
      rcases List.mem_append.1 h with h | h
      · have := ih h; omega
      · rw [List.mem_singleton] at h; omega

theorem greedy_succ (cs : List (List Int)) (n : Nat) : greedy cs (n + 1) = gstep cs (greedy cs n) n := by rw [greedy, upTo_succ, List.foldl_append]; rfl

theorem greedy_ok {cs : List (List Int)} (h0 : failing cs [] = false) (n : Nat) : (greedy cs n).Pairwise (· < ·) ∧ failing cs (greedy cs n) = false := by
  induction n with
  | zero => exact ⟨List.Pairwise.nil, h0⟩
  | succ n ih =>
    rw [greedy_succ, gstep]
    split
    · exact ih
    · rename_i h
      refine ⟨?_, by simpa using h⟩
      rw [List.pairwise_append]
      exact ⟨ih.1, List.pairwise_singleton _ _, fun a ha b hb => by have := greedy_mem ha; rw [List.mem_singleton] at hb; omega⟩

theorem greedy_prefix (cs : List (List Int)) (n m : Nat) {x : Int} (h : x ∈ greedy cs n) : x ∈ greedy cs (n + m) := by
  induction m with
  | zero => exact h
  | succ m ih =>
    rw [← Nat.add_assoc, greedy_succ, gstep]
    split
    · exact ih
    · exact List.mem_append.2 (.inl ih)

theorem greedy_max {cs : List (List Int)} {n c : Nat} (hc : c < n) (h : ¬ (c : Int) ∈ greedy cs n) : failing cs (greedy cs c ++ [(c : Int)]) = true ∧ ∀ x ∈ greedy cs c, x ∈ greedy cs n := by
  obtain ⟨m, rfl⟩ : ∃ m, n = (c + 1) + m := ⟨n - (c + 1), by omega⟩
  have h1 : ¬ (c : Int) ∈ greedy cs (c + 1) := fun hh => h (greedy_prefix cs (c + 1) m hh)
  rw [greedy_succ, gstep] at h1
  split at h1
  · rename_i h2
    exact ⟨h2, fun x hx => by rw [Nat.add_assoc]; exact greedy_prefix cs c (1 + m) hx⟩
  · exact absurd (List.mem_append.2 (.inr (by simp))) h1

theorem greedyR_ok {n : Int} {cs : List (List Int)} (h : (greedyR n cs).2.1 = 0) : (fault n cs).1 = 0 ∧ (fault n cs).2 = 0 ∧ greedyR n cs = (greedy cs n.toNat, (0, 0)) := by
  unfold greedyR at h ⊢
  split at h
  · rename_i h1; exact ⟨h1.1, h1.2, by rw [if_pos h1]⟩
  · rename_i h1
    have := fault_ok h
    exact absurd ⟨h, this.1⟩ h1

theorem failsR_of {n : Int} {cs : List (List Int)} {set : List Int} (h1 : (fault n cs).1 = 0) (h3 : setCode n (-1) set = 0) : failsR n cs set = (failing cs set, (0, 0)) := by
  rw [failsR, if_pos ⟨h1, (fault_ok h1).1⟩, if_neg (by simp [h3])]

theorem failsR_ok {n : Int} {cs : List (List Int)} {set : List Int} (h : (failsR n cs set).2.1 = 0) : (fault n cs).1 = 0 ∧ setCode n (-1) set = 0 ∧ failsR n cs set = (failing cs set, (0, 0)) := by
  unfold failsR at h ⊢
  split at h
  · rename_i h1
    split at h
    · rename_i h2; exact absurd h h2
    · rename_i h2; exact ⟨h1.1, by simpa using h2, by rw [if_pos h1, if_neg h2]⟩
  · rename_i h1
    have := fault_ok h
    exact absurd ⟨h, this.1⟩ h1

end Go.RM.Bat
