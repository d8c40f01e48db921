/-
  CanaryWorseIsLessProbable returns true for every input, and leaves its arguments as they were.
-/
import Derived.Test.YtebpodfildpgbaaCanL2
import Derived.Test.YtebpodfildpgbaaRmRow
namespace Go.Proofs.Ytebpodfildpgbaa
open Go.RM Go.ChangeShapes Go.WideShapes Go.ChangeAt Go.RowKit

theorem Try.own2 : ownKnob Try.prog.godebug = none := by kernel_rfl
theorem Try.laidOut2 : laidOutB Try.prog = true := by kernel_rfl

theorem wf_cnt {H : Heap} {v : AV} (h : WFv H (.struct [.int .i64, .int .i64]) v) : ∃ g b : Int, v = cnt g b ∧ (Lit.int .i64 g).wf = true ∧ (Lit.int .i64 b).wf = true := by
  obtain ⟨cs, rfl, h⟩ := h
  simp only [WFs, WF] at h
  obtain ⟨a, b, rfl, ⟨n, rfl, hn⟩, c, d, rfl, ⟨m, rfl, hm⟩, rfl⟩ := h
  exact ⟨n, m, rfl, hn, hm⟩

theorem wf64 {n : Int} (h : (Lit.int .i64 n).wf = true) : -9223372036854775808 ≤ n ∧ n ≤ 9223372036854775807 := by
  simp [Lit.wf, IntKind.min, IntKind.max, IntKind.bits, IntKind.signed] at h
  omega

theorem worse_core (H : Heap) (avs : List AV) (h : WFvs H [.struct [.int .i64, .int .i64], .struct [.int .i64, .int .i64]] avs) : ∃ n H', rcall (tableU Try.prog) n H.length 4 avs H = some (.bool true, H') := by
  rcases avs with _ | ⟨v1, _ | ⟨v2, _ | ⟨v3, r⟩⟩⟩
  · exact h.elim
  · exact h.2.elim
  · obtain ⟨g1, b1, rfl, _, _⟩ := wf_cnt h.1
    obtain ⟨g2, b2, rfl, hg, _⟩ := wf_cnt h.2.1
    obtain ⟨n, v, H', h1, rfl⟩ := worse_ret g1 b1 g2 b2 (wf64 hg) H H.length (Nat.le_refl _)
    exact ⟨n, H', h1⟩
  · exact h.2.2.elim

theorem worse_lifted (os : Os) (started : os.Started) (T : Type) (enc : TypeId × Value → T) :
    ReturnsInHanded {} Try.checked os 4 .any (Rows.canaryWorseIsLessProbableSpec.pre6 enc Try.prog Try.f4 Rows.canaryWorseIsLessProbableRow.domain false) (Rows.canaryWorseIsLessProbableSpec.post enc Try.prog Try.f4 false true false false) :=
  lifted (C := Try.checked) (s := Rows.canaryWorseIsLessProbableSpec) (tb := 4) Try.own2 started (by kernel_rfl) Try.func4
    (ChangeSpec.witness6 (enc := enc) (C := Try.checked) false ⟨#[], #[.agg #[.int .i64 0, .int .i64 0], .agg #[.int .i64 0, .int .i64 0]], []⟩ 8 (by kernel_rfl) (by kernel_rfl) (by kernel_rfl) (by kernel_rfl))
    Try.laidOut2 (by kernel_rfl) (by kernel_rfl) (by kernel_rfl) rfl (fun ds h => by
      rcases ds with _ | ⟨d1, _ | ⟨d2, _ | ⟨d3, r⟩⟩⟩ <;> first | exact ⟨rfl, rfl, rfl⟩ | simp at h) (by kernel_rfl) worse_core

theorem worse_holds : Rows.CanaryWorseIsLessProbableSaid :=
  OpenClaim.holds_of_wide 4 Try.f4 rfl rfl rfl rfl rfl rfl rfl ⟨rfl, rfl, rfl, rfl, rfl⟩ rfl rfl rfl rfl rfl (by kernel_rfl) Try.func4 (by kernel_rfl)
    (of_decide_eq_true (by kernel_rfl)) (by unfold Func.isWrapper; first | (rw [if_pos (by decide +kernel)]; kernel_rfl) | (rw [if_neg (by decide +kernel)]; exact ⟨rfl, rfl⟩))
    (fun os started H enc _ => worse_lifted os started H enc)

end Go.Proofs.Ytebpodfildpgbaa
