import Derived.Test.YtpjbnjgckbhohaaSpE6
import Derived.Test.YtpjbnjgckbhohaaRmEntry
import Derived.Test.YtpjbnjgckbhohaaRows
import Derived.KernelRfl
/-
  The functions of the seat: which number of the program is which text.
-/
namespace Go.Proofs.Ytpjbnjgckbhohaa
open Go.RM

def prims : Nat → Option Prim := noPrims
theorem prims_ok : PrimsOk Try.prog prims := noPrims_ok _
noncomputable abbrev FT : Nat → Option RFunc := tableU Try.prog prims
theorem t3 : FT 3 = some (rf_LSpeculatePlanMatchesSpec 8 9 10 11 12 13 14 15 16) := by kernel_rfl
theorem t8 : FT 8 = some (rf_speculate_Chance 27 28 29) := by kernel_rfl
theorem t9 : FT 9 = some (rf_speculate_Plan 27 29 30 31) := by kernel_rfl
theorem t10 : FT 10 = some (rf_LspeculateExample 8 9 17 18 19 21 23) := by kernel_rfl
theorem t11 : FT 11 = some (rf_FPercentsFault 13) := by kernel_rfl
theorem t12 : FT 12 = some (rf_FRunCode) := by kernel_rfl
theorem t13 : FT 13 = some (rf_FFault) := by kernel_rfl
theorem t14 : FT 14 = some (rf_FChance 14 33) := by kernel_rfl
theorem t15 : FT 15 = some (rf_FRunOf) := by kernel_rfl
theorem t16 : FT 16 = some (rf_FBefore 14 34) := by kernel_rfl
theorem t17 : FT 17 = some (rf_speculate_Decide 35 37 36) := by kernel_rfl
theorem t18 : FT 18 = some (rf_speculate_Next 17) := by kernel_rfl
theorem t19 : FT 19 = some (rf_speculate_Useful 17 28 39 40) := by kernel_rfl
theorem t21 : FT 21 = some (rf_FEqualRuns 23) := by kernel_rfl
theorem t23 : FT 23 = some (rf_FEqualInts) := by kernel_rfl
theorem t27 : FT 27 = some (rf_speculate_percents) := by kernel_rfl
theorem t28 : FT 28 = some (rf_speculate_runCode) := by kernel_rfl
theorem t29 : FT 29 = some (rf_speculate_chance) := by kernel_rfl
theorem t30 : FT 30 = some (rf_slices_SortStableFunc__speculate_planned_speculate_planned 44) := by kernel_rfl
theorem t31 : FT 31 = some (rf_speculate_Planx1 32) := by kernel_rfl
theorem t32 : FT 32 = some (rf_cmp_Compare_int 45) := by kernel_rfl
theorem t33 : FT 33 = some (rf_FHas) := by kernel_rfl
theorem t34 : FT 34 = some (rf_FWeight) := by kernel_rfl
theorem t35 : FT 35 = some (rf_speculate_results 28 47 46) := by kernel_rfl
theorem t36 : FT 36 = some (rf_slices_IndexFunc__api_TestResult_api_TestResult) := by kernel_rfl
theorem t37 : FT 37 = some (rf_speculate_Decidex1 38) := by kernel_rfl
theorem t38 : FT 38 = some (rf_speculate_same 40) := by kernel_rfl
theorem t39 : FT 39 = some (rf_slices_BinarySearch__int_int 48 49) := by kernel_rfl
theorem t40 : FT 40 = some (rf_slices_Equal__int_int) := by kernel_rfl
theorem t44 : FT 44 = some (rf_slices_stableCmpFunc_speculate_planned 55 56) := by kernel_rfl
theorem t45 : FT 45 = some (rf_cmp_isNaN_int) := by kernel_rfl
theorem t46 : FT 46 = some (rf_slices_ContainsFunc__api_TestResult_api_TestResult 36) := by kernel_rfl
theorem t47 : FT 47 = some (rf_speculate_resultsx1 38) := by kernel_rfl
theorem t48 : FT 48 = some (rf_cmp_Less_int 45) := by kernel_rfl
theorem t49 : FT 49 = some (rf_slices_isNaN_int) := by kernel_rfl
theorem t55 : FT 55 = some (rf_slices_insertionSortCmpFunc_speculate_planned) := by kernel_rfl
theorem t56 : FT 56 = some (rf_slices_symMergeCmpFunc_speculate_planned 60 56) := by kernel_rfl
theorem t60 : FT 60 = some (rf_slices_rotateCmpFunc_speculate_planned 61) := by kernel_rfl
theorem t61 : FT 61 = some (rf_slices_swapRangeCmpFunc_speculate_planned) := by kernel_rfl

end Go.Proofs.Ytpjbnjgckbhohaa

