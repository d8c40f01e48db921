import Derived.Test.YtpjbnjgckbhohaaSSpfC
/-
  The laws of the seat return true for every input, and leave their arguments as they were (the second form where a law builds longer lists than it is handed).
-/
namespace Go.Proofs.Ytpjbnjgckbhohaa
open Go.RM Go.ChangeShapes Go.WideShapes Go.ChangeAt Go.RowKit
set_option linter.unusedVariables false

theorem Try.own2 : ownKnob Try.prog.godebug = none := by kernel_rfl
theorem Try.laidOut2 : laidOutB Try.prog = true := by kernel_rfl

theorem lifted3 (os : Os) (started : os.Started) (T : Type) (enc : TypeId × Value → T) :
    ReturnsInHanded {} Try.checked os 3 .any (Rows.speculatePlanMatchesSpecSpec.pre6 enc Try.prog Try.f3 Rows.speculatePlanMatchesSpecRow.domain false) (Rows.speculatePlanMatchesSpecSpec.post enc Try.prog Try.f3 false true false false) :=
  lifted (C := Try.checked) (s := Rows.speculatePlanMatchesSpecSpec) (tb := 4) prims_ok Try.own2 started (by kernel_rfl) Try.func3
    (ChangeSpec.witness6 (enc := enc) (C := Try.checked) false ⟨#[], #[.slice none 0 0, .agg #[.int .i64 0, .slice none 0 0], .int .i64 0], []⟩ 8 (by kernel_rfl) (by kernel_rfl) (by kernel_rfl) (by kernel_rfl))
    Try.laidOut2 (by kernel_rfl) (by kernel_rfl) (by kernel_rfl) rfl (fun ds h => by rcases ds with _ | ⟨d1, _ | ⟨d2, _ | ⟨d3, _ | ⟨d4, r⟩⟩⟩⟩ <;> first | exact ⟨rfl, rfl, rfl⟩ | simp at h) (by kernel_rfl) core3

theorem holds3 : Rows.SpeculatePlanMatchesSpecSaid :=
  OpenClaim.holds_of_wide 3 Try.f3 rfl rfl rfl rfl rfl rfl rfl ⟨rfl, rfl, rfl, rfl, rfl⟩ rfl rfl rfl rfl rfl (by kernel_rfl) Try.func3 (by kernel_rfl)
    (of_decide_eq_true (by kernel_rfl)) (by unfold Func.isWrapper; first | (rw [if_pos (by decide +kernel)]; kernel_rfl) | (rw [if_neg (by decide +kernel)]; exact ⟨rfl, rfl⟩))
    (fun os started H enc _ => lifted3 os started H enc)

end Go.Proofs.Ytpjbnjgckbhohaa

