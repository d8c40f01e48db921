import Derived.Test.YtpjbnjgckbhohaaSlcW
/-
  Slices that are built and read from the front: their first element is dropped, one is appended in a block of its own.
-/
namespace Go.RM
set_option linter.unusedVariables false
set_option linter.unusedSimpArgs false

theorem Gr.frame {n e m : Nat} {H H' : Heap} {v : AV} {cs : List AV} (h : Gr n H e v m cs) (hf : ∀ b, At v b → H'[b]? = H[b]?) : Gr n H' e v m cs := by
  rcases h.out with g | ⟨b, off, lim, k, rfl, h2, h3, h4⟩
  · exact ⟨h.small, .inl g⟩
  · exact ⟨h.small, .inr ⟨b, off, lim, k, rfl, h2, by rw [hf b at_slice]; exact h3, h4⟩⟩
theorem Gr.at_lt {n e m : Nat} {H : Heap} {v : AV} {cs : List AV} {b : Nat} (h : Gr n H e v m cs) (ha : At v b) : n ≤ b ∧ b < H.length := by
  rcases h.out with ⟨rfl, _⟩ | ⟨b', off, lim, k, rfl, h2, h3, h4⟩
  · exact absurd ha at_empty
  · have := ha.same at_slice
    subst this
    exact ⟨h2, get_lt h3⟩
theorem Gr.nil {n e : Nat} {H : Heap} : Gr n H e .empty 0 [] := ⟨Nat.zero_le _, .inl ⟨rfl, rfl, rfl⟩⟩

/-- The rest of a slice. -/
theorem Gr.tail {n m e : Nat} {H : Heap} {cs : List AV} {v : AV} (he : 0 < e) (h : Gr n H e v (m + 1) cs) : ∃ w, rslice H e v (some (.int .i64 1)) none none = some w ∧ Gr n H e w m (cs.drop e) ∧ (∀ b, At w b → At v b) := by
  rcases h.out with ⟨_, h0, _⟩ | ⟨b, off, lim, k, rfl, h2, h3, h4, h5, h6, h7, h8⟩
  · omega
  have m1 : (m + 1) * e = m * e + e := Nat.succ_mul _ _
  refine ⟨.slice b (off + 1 * e) (m + 1 - 1) (if lim.isSome then some (lim.getD (m + 1) - 1) else none), ?_, ⟨by have := h.small; omega, .inr ⟨b, off + 1 * e, _, k, rfl, h2, h3, h4, h5, by omega, ?_, ?_⟩⟩, fun b' hb => ?_⟩
  · have hc : 1 ≤ m + 1 ∧ (m + 1 ≤ lim.getD (m + 1) ∨ upB H e b off (m + 1) (some (.int .i64 1)) none none lim = true) ∧ lim.getD (m + 1) ≤ lim.getD (m + 1) ∧ (1 = 0 ∨ (H[b]?).map (·.e) = some e) := by
      refine ⟨by omega, .inl ?_, Nat.le_refl _, .inr (by rw [h3]; simp [h5])⟩
      rcases h8 with ⟨rfl, _⟩ | rfl <;> exact Nat.le_refl _
    show (if 1 ≤ m + 1 ∧ (m + 1 ≤ lim.getD (m + 1) ∨ upB H e b off (m + 1) (some (.int .i64 1)) none none lim = true) ∧ lim.getD (m + 1) ≤ lim.getD (m + 1) ∧ (1 = 0 ∨ (H[b]?).map (·.e) = some e) then some (AV.slice b (off + 1 * e) (m + 1 - 1) (if false || lim.isSome then some (lim.getD (m + 1) - 1) else none)) else none) = _
    rw [if_pos hc]; rfl
  · rw [h7, List.drop_take, List.drop_drop]
    congr 1
    · omega
    · congr 1; omega
  · rcases h8 with ⟨rfl, h8⟩ | rfl
    · exact .inl ⟨rfl, by omega⟩
    · exact .inr rfl
  · obtain ⟨_, _, _, hh⟩ := hb
    cases hh
    exact at_slice

end Go.RM

