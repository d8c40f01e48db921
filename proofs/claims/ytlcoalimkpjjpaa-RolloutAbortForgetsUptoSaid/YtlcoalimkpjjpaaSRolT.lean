import Derived.Test.YtlcoalimkpjjpaaRmEntry
import Derived.Test.YtlcoalimkpjjpaaRows
import Derived.KernelRfl
/-
  The functions of the seat: which number of the program is which text.
-/
namespace Go.Proofs.Ytlcoalimkpjjpaa
open Go.RM

noncomputable abbrev FT : Nat → Option RFunc := tableU Try.prog
theorem t3 : FT 3 = some (rf_LRolloutFunctionsMatchSpec 8 9 10 11 12 13 14 15 16) := by kernel_rfl
theorem t6 : FT 6 = some (rf_LRolloutAbortForgets 8 10 11 18 15) := by kernel_rfl
theorem t8 : FT 8 = some (rf_rollout_Run 20 21) := by kernel_rfl
theorem t9 : FT 9 = some (rf_rollout_Versions 8 22) := by kernel_rfl
theorem t10 : FT 10 = some (rf_LrolloutExample 8 9 15 16) := by kernel_rfl
theorem t11 : FT 11 = some (rf_FFault) := by kernel_rfl
theorem t15 : FT 15 = some (rf_FEqualRings 16) := by kernel_rfl
theorem t16 : FT 16 = some (rf_FEqualInts) := by kernel_rfl
theorem t18 : FT 18 = some (rf_FWithout) := by kernel_rfl
theorem t20 : FT 20 = some (rf_canary_Decide 26 27) := by kernel_rfl
theorem t21 : FT 21 = some (rf_rollout_plan_step 28 29 30 31 32) := by kernel_rfl
theorem t22 : FT 22 = some (rf_rollout_last) := by kernel_rfl
theorem t26 : FT 26 = some (rf_canary_two 34) := by kernel_rfl
theorem t27 : FT 27 = some (rf_canary_tail 35) := by kernel_rfl
theorem t28 : FT 28 = some (rf_rollout_unused) := by kernel_rfl
theorem t29 : FT 29 = some (rf_rollout_plan_start 22) := by kernel_rfl
theorem t30 : FT 30 = some (rf_rollout_plan_report 34 20 32) := by kernel_rfl
theorem t31 : FT 31 = some (rf_rollout_plan_advance 20) := by kernel_rfl
theorem t32 : FT 32 = some (rf_rollout_plan_abort 36 37) := by kernel_rfl
theorem t34 : FT 34 = some (rf_canary_Validate) := by kernel_rfl
theorem t35 : FT 35 = some (rf_canary_row) := by kernel_rfl
theorem t36 : FT 36 = some (rf_slices_Index__int_int) := by kernel_rfl
theorem t37 : FT 37 = some (rf_slices_Delete__int_int) := by kernel_rfl

end Go.Proofs.Ytlcoalimkpjjpaa

