/-
  What a call is handed, as lists.
-/
import Derived.Test.YtmiinaimpdbenaaRmRow
import Derived.Test.YtmiinaimpdbenaaRmLib
namespace Go.RM
set_option linter.unusedVariables false

/-- What is handed in the shape tc stands for a value of T, of which I holds. -/
structure In {α : Type} (Pn : Nat → Prop) (tc : TC) (T : Ty α) (I : α → Prop) : Prop where
  go : ∀ {H : Heap} {c : List AV}, WF Pn H tc c → ∃ a, T.rel H c a ∧ I a

def in64 (n : Int) : Prop := -9223372036854775808 ≤ n ∧ n ≤ 9223372036854775807

variable {Pn : Nat → Prop}

theorem wf_in64 {n : Int} (h : (Lit.int .i64 n).wf = true) : in64 n := by
  simp [Lit.wf, IntKind.min, IntKind.max, IntKind.bits, IntKind.signed] at h
  unfold in64
  omega

theorem In.int : In Pn (.int .i64) tInt in64 := ⟨fun {H c} h => by
  simp only [WF] at h
  obtain ⟨n, rfl, hn⟩ := h
  exact ⟨n, rfl, wf_in64 hn⟩⟩

theorem In.bool : In Pn .bool tBool (fun _ => True) := ⟨fun {H c} h => by
  simp only [WF] at h
  obtain ⟨b, rfl⟩ := h
  exact ⟨b, rfl, trivial⟩⟩

theorem In.str : In Pn .str tStr (fun s => s.size ≤ maxLen ∧ Pn s.size) := ⟨fun {H c} h => by
  simp only [WF] at h
  obtain ⟨s, rfl, hs⟩ := h
  exact ⟨s, rfl, hs⟩⟩

theorem In.all2 {α : Type} {tc : TC} {T : Ty α} {I : α → Prop} (h : In Pn tc T I) {H : Heap} : ∀ {css : List (List AV)}, (∀ c ∈ css, WF Pn H tc c) → ∃ l, All2 (T.rel H) css l ∧ ∀ x ∈ l, I x
  | [], _ => ⟨[], trivial, fun x hx => by cases hx⟩
  | c :: css, hc => by
    obtain ⟨a, h1, h2⟩ := h.go (hc c (by simp))
    obtain ⟨l, h3, h4⟩ := In.all2 h (css := css) fun d hd => hc d (by simp [hd])
    refine ⟨a :: l, ⟨h1, h3⟩, fun x hx => ?_⟩
    rcases List.mem_cons.1 hx with rfl | hx
    · exact h2
    · exact h4 x hx

theorem In.arr {α : Type} {tc : TC} {T : Ty α} {I : α → Prop} (h : In Pn tc T I) : In Pn (.slice T.e tc) (tArr T) (fun l => (∀ x ∈ l, I x) ∧ l.length ≤ maxLen ∧ Pn l.length) := ⟨fun {H c} hw => by
  simp only [WF] at hw
  obtain ⟨v, css, rfl, hel, hlen, hP, hall⟩ := hw
  obtain ⟨l, h1, h2⟩ := h.all2 hall
  have hll := h1.len
  refine ⟨l, ⟨v, rfl, ⟨css, h1, ?_⟩⟩, h2, by omega, by rw [← hll]; exact hP⟩
  have hm : maxLen = 9223372036854775807 := rfl
  refine ⟨by omega, ?_⟩
  rcases hel.2 with ⟨rfl, rfl⟩ | ⟨b, off, lim, k, rfl, rfl, hb, he, hfit, hcells⟩
  · exact .inl ⟨rfl, by rw [← hll]; rfl, rfl⟩
  · obtain ⟨g1, g2, g3⟩ := blk_act hb
    rw [hll] at hfit hcells
    exact .inr ⟨b, off, none, k, by rw [hll], g1, he, hfit, by simp, hcells.symm⟩⟩

/-- An argument that is a slice. -/
theorem In.sliceV {α : Type} {tc : TC} {T : Ty α} {I : α → Prop} (h : In Pn tc T I) {H : Heap} {v : AV} (hw : WFv Pn H (.slice T.e tc) v) : ∃ l, Arr T H v l ∧ (∀ x ∈ l, I x) ∧ l.length ≤ maxLen ∧ Pn l.length := by
  obtain ⟨l, ⟨w, hc, h1⟩, h2⟩ := h.arr.go (H := H) (c := [v]) hw
  obtain rfl : v = w := by simpa using hc
  exact ⟨l, h1, h2⟩
theorem in_intV {H : Heap} {v : AV} (hw : WFv Pn H (.int .i64) v) : ∃ n, v = .int .i64 n ∧ in64 n := by
  obtain ⟨n, hn, h⟩ := In.int.go (Pn := Pn) (H := H) (c := [v]) hw
  exact ⟨n, by simpa [tInt] using hn, h⟩
theorem in_boolV {H : Heap} {v : AV} (hw : WFv Pn H .bool v) : ∃ b, v = .bool b := by
  obtain ⟨n, hn, h⟩ := In.bool.go (Pn := Pn) (H := H) (c := [v]) hw
  exact ⟨n, by simpa [tBool] using hn⟩

end Go.RM
