/-
  A law's core: from what it returns.
-/
import Derived.Test.YtmiinaimpdbenaaRmIn
namespace Go.RM

abbrev tru : AV → Heap → Prop := fun v _ => v = .bool true

theorem core_of {F : Nat → Option RFunc} {fl f : Nat} {args : List AV} {H : Heap} (h : Ret F fl f args H tru) : ∃ n H', rcall F n fl f args H = some (.bool true, H') := by
  obtain ⟨n, v, H', h1, rfl⟩ := h
  exact ⟨n, H', h1⟩

theorem wfvs_cons {Pn : Nat → Prop} {H : Heap} {tc : TC} {tcs : List TC} {avs : List AV} (h : WFvs Pn H (tc :: tcs) avs) : ∃ v r, avs = v :: r ∧ WFv Pn H tc v ∧ WFvs Pn H tcs r := by
  cases avs with
  | nil => exact h.elim
  | cons v r => exact ⟨v, r, rfl, h.1, h.2⟩
theorem wfvs_nil {Pn : Nat → Prop} {H : Heap} {avs : List AV} (h : WFvs Pn H [] avs) : avs = [] := by
  cases avs with
  | nil => rfl
  | cons v r => exact h.elim

end Go.RM
