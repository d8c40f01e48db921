/-
  The functions of the seat: which number of the program is which text.
-/
import Derived.Test.YtebpodfildpgbaaCanE2
import Derived.Test.YtebpodfildpgbaaRows
import Derived.KernelRfl
namespace Go.Proofs.Ytebpodfildpgbaa
open Go.RM

noncomputable abbrev FT : Nat → Option RFunc := tableU Try.prog
theorem t3 : FT 3 = some (rf_LCanaryFunctionsMatchSpec 8 9 10 11 12 13 14 15 16 17) := by kernel_rfl
theorem t5 : FT 5 = some (rf_LCanarySidesAreSymmetric 8 11) := by kernel_rfl
theorem t6 : FT 6 = some (rf_LCanaryToleranceIsExact 10 9 11) := by kernel_rfl
theorem t7 : FT 7 = some (rf_LCanaryStricterToleratesLess 10 11) := by kernel_rfl
theorem t8 : FT 8 = some (rf_canary_Tail 18 19) := by kernel_rfl
theorem t9 : FT 9 = some (rf_canary_Decide 18 19) := by kernel_rfl
theorem t10 : FT 10 = some (rf_canary_Tolerated 12 9) := by kernel_rfl
theorem t11 : FT 11 = some (rf_LcanaryExample 8 9 10) := by kernel_rfl
theorem t12 : FT 12 = some (rf_canary_Validate) := by kernel_rfl
theorem t13 : FT 13 = some (rf_FCountsValid) := by kernel_rfl
theorem t14 : FT 14 = some (rf_FFault) := by kernel_rfl
theorem t15 : FT 15 = some (rf_LsidesFault 13 14) := by kernel_rfl
theorem t16 : FT 16 = some (rf_FWays 20) := by kernel_rfl
theorem t17 : FT 17 = some (rf_FVerdict 16) := by kernel_rfl
theorem t18 : FT 18 = some (rf_canary_two 12) := by kernel_rfl
theorem t19 : FT 19 = some (rf_canary_tail 21) := by kernel_rfl
theorem t20 : FT 20 = some (rf_FChoose) := by kernel_rfl
theorem t21 : FT 21 = some (rf_canary_row) := by kernel_rfl

end Go.Proofs.Ytebpodfildpgbaa
