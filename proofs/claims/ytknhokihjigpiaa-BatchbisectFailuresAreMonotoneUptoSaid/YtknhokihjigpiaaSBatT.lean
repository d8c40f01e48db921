/-
  The functions of the seat: which number of the program is which text.
-/
import Derived.Test.YtknhokihjigpiaaRmIn
import Derived.Test.YtknhokihjigpiaaBatE3
import Derived.Test.YtknhokihjigpiaaRows
import Derived.KernelRfl
namespace Go.Proofs.Ytknhokihjigpiaa
open Go.RM

noncomputable abbrev FT : Nat → Option RFunc := tableU Try.prog
theorem t3 : FT 3 = some (rf_LBatchbisectFunctionsMatchSpec 8 9 10 11 12 13 14 15 16 17 18 19 20) := by kernel_rfl
theorem t4 : FT 4 = some (rf_LBatchbisectMinimalIsMinimal 11 13 9 21) := by kernel_rfl
theorem t5 : FT 5 = some (rf_LBatchbisectFirstIsFast 10 13 22 9) := by kernel_rfl
theorem t6 : FT 6 = some (rf_LBatchbisectGreedyIsMaximal 12 13 9 23) := by kernel_rfl
theorem t7 : FT 7 = some (rf_LBatchbisectFailuresAreMonotone 23 9 13) := by kernel_rfl
theorem t8 : FT 8 = some (rf_FCulpritsFault 16 15) := by kernel_rfl
theorem t9 : FT 9 = some (rf_batchbisect_Fails 14 24 25) := by kernel_rfl
theorem t10 : FT 10 = some (rf_batchbisect_First 14 26 25 28 27) := by kernel_rfl
theorem t11 : FT 11 = some (rf_batchbisect_Minimal 14 26 25 29 27) := by kernel_rfl
theorem t12 : FT 12 = some (rf_batchbisect_Greedy 14 25) := by kernel_rfl
theorem t13 : FT 13 = some (rf_LbisectExample 10 11 12 9 19) := by kernel_rfl
theorem t14 : FT 14 = some (rf_batchbisect_Validate 24) := by kernel_rfl
theorem t15 : FT 15 = some (rf_FSetCode) := by kernel_rfl
theorem t16 : FT 16 = some (rf_FFault) := by kernel_rfl
theorem t17 : FT 17 = some (rf_FFailing 23) := by kernel_rfl
theorem t18 : FT 18 = some (rf_FLanded 17) := by kernel_rfl
theorem t19 : FT 19 = some (rf_FEqualInts) := by kernel_rfl
theorem t20 : FT 20 = some (rf_FFirstFailing 22 17) := by kernel_rfl
theorem t21 : FT 21 = some (rf_FWithout) := by kernel_rfl
theorem t22 : FT 22 = some (rf_FFirst) := by kernel_rfl
theorem t23 : FT 23 = some (rf_FHas) := by kernel_rfl
theorem t24 : FT 24 = some (rf_batchbisect_setCode) := by kernel_rfl
theorem t25 : FT 25 = some (rf_batchbisect_Failing 31 30) := by kernel_rfl
theorem t26 : FT 26 = some (rf_batchbisect_prefix) := by kernel_rfl
theorem t27 : FT 27 = some (rf_batchbisect_search) := by kernel_rfl
theorem t28 : FT 28 = some (rf_batchbisect_Firstx1 26 25) := by kernel_rfl
theorem t29 : FT 29 = some (rf_batchbisect_Minimalx1 26 25) := by kernel_rfl
theorem t30 : FT 30 = some (rf_slices_ContainsFunc___int__int 35) := by kernel_rfl
theorem t31 : FT 31 = some (rf_batchbisect_Failingx1 33 32) := by kernel_rfl
theorem t32 : FT 32 = some (rf_slices_ContainsFunc__int_int 36) := by kernel_rfl
theorem t33 : FT 33 = some (rf_batchbisect_Failingx1x1 34) := by kernel_rfl
theorem t34 : FT 34 = some (rf_slices_Contains__int_int 37) := by kernel_rfl
theorem t35 : FT 35 = some (rf_slices_IndexFunc___int__int) := by kernel_rfl
theorem t36 : FT 36 = some (rf_slices_IndexFunc__int_int) := by kernel_rfl
theorem t37 : FT 37 = some (rf_slices_Index__int_int) := by kernel_rfl

end Go.Proofs.Ytknhokihjigpiaa
