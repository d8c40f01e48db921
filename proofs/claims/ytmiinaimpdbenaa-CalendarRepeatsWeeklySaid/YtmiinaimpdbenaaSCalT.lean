/-
  The functions of the seat: which number of the program is which text.
-/
import Derived.Test.YtmiinaimpdbenaaCalE
import Derived.Test.YtmiinaimpdbenaaRows
import Derived.KernelRfl
namespace Go.Proofs.Ytmiinaimpdbenaa
open Go.RM

noncomputable abbrev FT : Nat → Option RFunc := tableU Try.prog
theorem t3 : FT 3 = some (rf_LCalendarFunctionsMatchSpec 8 9 10 11 12 13 14 15 16 18 17 19) := by kernel_rfl
theorem t4 : FT 4 = some (rf_LCalendarWorkedIsAdditive 11 13) := by kernel_rfl
theorem t5 : FT 5 = some (rf_LCalendarAddTakesMinutes 12 11 9 13) := by kernel_rfl
theorem t6 : FT 6 = some (rf_LCalendarNextIsFirst 10 9 11 13) := by kernel_rfl
theorem t7 : FT 7 = some (rf_LCalendarRepeatsWeekly 9 11 13) := by kernel_rfl
theorem t8 : FT 8 = some (rf_FCalendarFault 19) := by kernel_rfl
theorem t9 : FT 9 = some (rf_calendar_Open 20 22 23 21) := by kernel_rfl
theorem t10 : FT 10 = some (rf_calendar_Next 20 22) := by kernel_rfl
theorem t11 : FT 11 = some (rf_calendar_Worked 20 22) := by kernel_rfl
theorem t12 : FT 12 = some (rf_calendar_Add 20 22) := by kernel_rfl
theorem t13 : FT 13 = some (rf_LcalendarExample 9 10 11 12) := by kernel_rfl
theorem t14 : FT 14 = some (rf_calendar_Validate 24 25) := by kernel_rfl
theorem t15 : FT 15 = some (rf_LtimeFault 19) := by kernel_rfl
theorem t16 : FT 16 = some (rf_FIsOpen 26) := by kernel_rfl
theorem t17 : FT 17 = some (rf_FReach 18) := by kernel_rfl
theorem t18 : FT 18 = some (rf_FMinutes 27) := by kernel_rfl
theorem t19 : FT 19 = some (rf_FFault) := by kernel_rfl
theorem t20 : FT 20 = some (rf_calendar_check 14) := by kernel_rfl
theorem t21 : FT 21 = some (rf_slices_ContainsFunc__calendar_span_calendar_span 28) := by kernel_rfl
theorem t22 : FT 22 = some (rf_calendar_day 29) := by kernel_rfl
theorem t23 : FT 23 = some (rf_calendar_Openx1) := by kernel_rfl
theorem t24 : FT 24 = some (rf_calendar_begin) := by kernel_rfl
theorem t25 : FT 25 = some (rf_calendar_end) := by kernel_rfl
theorem t26 : FT 26 = some (rf_FHas) := by kernel_rfl
theorem t27 : FT 27 = some (rf_FupTo) := by kernel_rfl
theorem t28 : FT 28 = some (rf_slices_IndexFunc__calendar_span_calendar_span) := by kernel_rfl
theorem t29 : FT 29 = some (rf_slices_BinarySearch__int_int 30 31) := by kernel_rfl
theorem t30 : FT 30 = some (rf_cmp_Less_int 32) := by kernel_rfl
theorem t31 : FT 31 = some (rf_slices_isNaN_int) := by kernel_rfl
theorem t32 : FT 32 = some (rf_cmp_isNaN_int) := by kernel_rfl

end Go.Proofs.Ytmiinaimpdbenaa
