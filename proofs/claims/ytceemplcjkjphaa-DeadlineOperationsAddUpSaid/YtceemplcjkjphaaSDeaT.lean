import Derived.Test.YtceemplcjkjphaaRmCln
import Derived.Test.YtceemplcjkjphaaRmEntry
import Derived.Test.YtceemplcjkjphaaRows
import Derived.KernelRfl
/-
  The functions of the seat: which number of the program is which text.
-/
namespace Go.Proofs.Ytceemplcjkjphaa
open Go.RM

open Go.Shelf Go.Proofs
/-- Functions that are known as a whole. -/
def prims : Nat → Option Prim := fun f => match f with | 25 => some (.clone 1 8) | _ => none
def rn25 : Ren := { t := fun n => match n with | 9 => 61 | 24 => 58 | n => n, f := fun n => n, g := fun n => n }
theorem laid25 : ClnLaid Try.prog 25 rn25 "slices.Clone[[]*changeforge/deadline.process,*changeforge/deadline.process]" 1 8 :=
  ClnLaid.of Try.checked.mixed (by kernel_rfl) (by decide) (by kernel_rfl) (by kernel_rfl) (by kernel_rfl) (by kernel_rfl) (by kernel_rfl) (by decide) (by decide)
theorem prims_ok : PrimsOk Try.prog prims := fun g p h => by
  unfold prims at h
  split at h <;> first | (cases h; done) | (cases h; exact prim_clone (by first | exact laid25))
noncomputable abbrev FT : Nat → Option RFunc := tableU Try.prog prims
theorem t3 : FT 3 = some (rf_LDeadlineFunctionsMatchSpec 8 9 10 11 12 13 14 15 16 17) := by kernel_rfl
theorem t4 : FT 4 = some (rf_LDeadlineChannelsAreQueues 9 11 18) := by kernel_rfl
theorem t6 : FT 6 = some (rf_LDeadlineOperationsAddUp 9 10 11 19) := by kernel_rfl
theorem t8 : FT 8 = some (rf_FProcessesFault 16 20) := by kernel_rfl
theorem t9 : FT 9 = some (rf_deadline_Run 12 21 22) := by kernel_rfl
theorem t10 : FT 10 = some (rf_deadline_Stuck 12 21 22) := by kernel_rfl
theorem t11 : FT 11 = some (rf_LdeadlineExample 9 10 17 15) := by kernel_rfl
theorem t12 : FT 12 = some (rf_deadline_Validate 23) := by kernel_rfl
theorem t15 : FT 15 = some (rf_FEqualInts) := by kernel_rfl
theorem t16 : FT 16 = some (rf_FFault) := by kernel_rfl
theorem t17 : FT 17 = some (rf_FEqualResults) := by kernel_rfl
theorem t19 : FT 19 = some (rf_FHas) := by kernel_rfl
theorem t20 : FT 20 = some (rf_FOpCode) := by kernel_rfl
theorem t21 : FT 21 = some (rf_deadline_newSystem) := by kernel_rfl
theorem t22 : FT 22 = some (rf_deadline_system_step 25 26 27 29) := by kernel_rfl
theorem t23 : FT 23 = some (rf_deadline_opCode 30 32 31) := by kernel_rfl
theorem t24 : FT 24 = some (rf_FWorld_Pass 33 34) := by kernel_rfl
theorem t25 : FT 25 = some (rf_slices_Clone__deadline_process_deadline_process) := by kernel_rfl
theorem t26 : FT 26 = some (rf_slices_SortStableFunc__deadline_process_deadline_process 35) := by kernel_rfl
theorem t27 : FT 27 = some (rf_deadline_system_stepx1 28) := by kernel_rfl
theorem t28 : FT 28 = some (rf_cmp_Compare_int 36) := by kernel_rfl
theorem t29 : FT 29 = some (rf_deadline_system_try 37) := by kernel_rfl
theorem t30 : FT 30 = some (rf_deadline_opCodex1) := by kernel_rfl
theorem t31 : FT 31 = some (rf_slices_ContainsFunc__int_int 38) := by kernel_rfl
theorem t32 : FT 32 = some (rf_deadline_opCodex2) := by kernel_rfl
theorem t33 : FT 33 = some (rf_FWorld_pick) := by kernel_rfl
theorem t34 : FT 34 = some (rf_FWorld_Choice) := by kernel_rfl
theorem t35 : FT 35 = some (rf_slices_stableCmpFunc_deadline_process 39 40) := by kernel_rfl
theorem t36 : FT 36 = some (rf_cmp_isNaN_int) := by kernel_rfl
theorem t37 : FT 37 = some (rf_deadline_system_receive) := by kernel_rfl
theorem t38 : FT 38 = some (rf_slices_IndexFunc__int_int) := by kernel_rfl
theorem t39 : FT 39 = some (rf_slices_insertionSortCmpFunc_deadline_process) := by kernel_rfl
end Go.Proofs.Ytceemplcjkjphaa

