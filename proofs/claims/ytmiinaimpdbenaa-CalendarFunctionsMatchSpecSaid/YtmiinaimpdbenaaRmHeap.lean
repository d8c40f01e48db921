/-
  Small facts about numbers and about the last block of a heap.
-/
import Derived.Test.YtmiinaimpdbenaaRmStep
namespace Go.RM
set_option linter.unusedSimpArgs false

theorem wrap64 {n : Int} (h1 : -9223372036854775808 ≤ n) (h2 : n ≤ 9223372036854775807) : IntKind.i64.wrap n = n := by
  have hb : (2 ^ IntKind.i64.bits : Int) = 18446744073709551616 := rfl
  have hb2 : (2 ^ (IntKind.i64.bits - 1) : Int) = 9223372036854775808 := rfl
  have hs : IntKind.i64.signed = true := rfl
  unfold IntKind.wrap
  simp only [hb, hb2, hs, Bool.true_and, decide_eq_true_eq, ge_iff_le]
  split <;> omega

theorem put_last {fl : Nat} {H : Heap} {k : Blk} {off : Nat} {cs : List AV} (hfl : fl ≤ H.length) (hl : k.live = true) (ho : off + cs.length ≤ k.cells.length) (hs : cs.all AV.scalar = true) :
    rput fl (H ++ [k]) H.length off cs = some (H ++ [{ k with cells := splice k.cells off cs, clean := false }]) := by
  unfold rput Heap.blk
  rw [snoc_end]
  simp only [hl, if_true]
  rw [if_pos ⟨hfl, ho, hs⟩]
  congr 1
  rw [List.set_append_right _ _ (Nat.le_refl _)]
  simp

theorem load_last {H : Heap} {k : Blk} {off : Nat} (hl : k.live = true) : rload (H ++ [k]) none H.length off = k.cells[off]? := by
  unfold rload Heap.act
  rw [snoc_end]
  simp [hl]

theorem splice_map {n i : Nat} {f g : Nat → AV} {v : AV} (hi : i < n) (hv : v = g i) (hne : ∀ j, j < n → j ≠ i → f j = g j) : splice ((List.range n).map f) i [v] = (List.range n).map g := by
  apply List.ext_getElem?
  intro j
  rw [splice_get (by simp; omega)]
  simp only [List.length_cons, List.length_nil, Nat.zero_add]
  split
  · rename_i h
    have : j = i := by omega
    subst this
    simp [hv, hi]
  · rename_i h
    by_cases hj : j < n
    · simp [hj, hne j hj (by omega)]
    · simp [hj]

theorem zeros_one {n : Nat} {v : AV} : zeros n [v] = (List.range n).map fun _ => v := by
  unfold zeros
  induction n with
  | zero => rfl
  | succ n ih => rw [List.replicate_succ', List.flatten_append, ih, List.range_succ, List.map_append]; simp

end Go.RM
