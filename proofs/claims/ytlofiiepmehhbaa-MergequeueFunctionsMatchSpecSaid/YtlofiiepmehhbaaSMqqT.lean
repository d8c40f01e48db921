import Derived.Test.YtlofiiepmehhbaaRmIns
import Derived.Test.YtlofiiepmehhbaaRmEntry
import Derived.Test.YtlofiiepmehhbaaRows
import Derived.KernelRfl
/-
  The functions of the seat: which number of the program is which text.
-/
namespace Go.Proofs.Ytlofiiepmehhbaa
open Go.RM

open Go.Shelf Go.Proofs
def prims : Nat → Option Prim := fun f => match f with | 27 => some (.clone 1 8) | 34 => some (.insert 6 48) | _ => none
def rn27 : Ren := { t := fun n => match n with | 9 => 3 | 24 => 24 | n => n, f := fun n => n, g := fun n => n }
theorem laid27 : ClnLaid Try.prog 27 rn27 "slices.Clone[[]int,int]" 1 8 :=
  ClnLaid.of Try.checked.mixed (by kernel_rfl) (by decide) (by kernel_rfl) (by kernel_rfl) (by kernel_rfl) (by kernel_rfl) (by kernel_rfl) (by decide) (by decide)
def rn34 : Ren := { t := fun n => match n with | 9 => 44 | 24 => 23 | n => n, f := fun n => match n with | 29 => 39 | 30 => 40 | n => n, g := fun n => n }
theorem laid34 : InsLaid Try.prog 34 rn34 "slices.Insert[[]changeforge/api.QueueEntry,changeforge/api.QueueEntry]" 6 48 :=
  InsLaid.of (fo := { Body2.n29 rn34 with name := "slices.overlaps[changeforge/api.QueueEntry]" }) Try.checked.mixed (by kernel_rfl) (by decide) (by kernel_rfl) (by decide) (by rfl) (by kernel_rfl) (by kernel_rfl) (by kernel_rfl) (by kernel_rfl) (by kernel_rfl) (by kernel_rfl) (by kernel_rfl) (by kernel_rfl) (by kernel_rfl) (by decide) (by decide)
theorem prims_ok : PrimsOk Try.prog prims := fun g p h => by
  unfold prims at h
  split at h <;> first | (cases h; done) | (cases h; exact prim_insert (by first | exact laid34)) | (cases h; exact prim_clone (by first | exact laid27))
noncomputable abbrev FT : Nat → Option RFunc := tableU Try.prog prims
theorem t3 : FT 3 = some (rf_LMergequeueFunctionsMatchSpec 8 9 10 11 13 12 14) := by kernel_rfl
theorem t4 : FT 4 = some (rf_LMergequeueNothingIsLost 8 10 15) := by kernel_rfl
theorem t8 : FT 8 = some (rf_mergequeue_Run 17 18) := by kernel_rfl
theorem t9 : FT 9 = some (rf_mergequeue_Outcome 8 19 21 20) := by kernel_rfl
theorem t10 : FT 10 = some (rf_LqueueExample 8 9 16) := by kernel_rfl
theorem t11 : FT 11 = some (rf_FRunQueue 14 22) := by kernel_rfl
theorem t12 : FT 12 = some (rf_FEqualQueues 16) := by kernel_rfl
theorem t13 : FT 13 = some (rf_FQueue_State) := by kernel_rfl
theorem t14 : FT 14 = some (rf_FFault) := by kernel_rfl
theorem t15 : FT 15 = some (rf_FHas) := by kernel_rfl
theorem t16 : FT 16 = some (rf_FEqualInts) := by kernel_rfl
theorem t17 : FT 17 = some (rf_mergequeue_queue_step 23 24 25) := by kernel_rfl
theorem t18 : FT 18 = some (rf_mergequeue_queue_settle 25 27 28 26) := by kernel_rfl
theorem t19 : FT 19 = some (rf_slices_Index__int_int) := by kernel_rfl
theorem t20 : FT 20 = some (rf_slices_IndexFunc__api_QueueEntry_api_QueueEntry) := by kernel_rfl
theorem t21 : FT 21 = some (rf_mergequeue_Outcomex1) := by kernel_rfl
theorem t22 : FT 22 = some (rf_FQueue_Step 29 15 30 31 32) := by kernel_rfl
theorem t23 : FT 23 = some (rf_mergequeue_queue_add 24 33 34 35) := by kernel_rfl
theorem t24 : FT 24 = some (rf_mergequeue_queue_find 36 20) := by kernel_rfl
theorem t25 : FT 25 = some (rf_mergequeue_queue_remove 37 35) := by kernel_rfl
theorem t26 : FT 26 = some (rf_slices_DeleteFunc__int_int 38) := by kernel_rfl
theorem t27 : FT 27 = some (rf_slices_Clone__int_int) := by kernel_rfl
theorem t28 : FT 28 = some (rf_mergequeue_queue_settlex1) := by kernel_rfl
theorem t29 : FT 29 = some (rf_FQueue_Index) := by kernel_rfl
theorem t30 : FT 30 = some (rf_FQueue_insert) := by kernel_rfl
theorem t31 : FT 31 = some (rf_FQueue_settled 32) := by kernel_rfl
theorem t32 : FT 32 = some (rf_FQueue_cut) := by kernel_rfl
theorem t33 : FT 33 = some (rf_slices_Contains__int_int 19) := by kernel_rfl
theorem t34 : FT 34 = some (rf_slices_Insert__api_QueueEntry_api_QueueEntry) := by kernel_rfl
theorem t35 : FT 35 = some (rf_mergequeue_queue_reset) := by kernel_rfl
theorem t36 : FT 36 = some (rf_mergequeue_queue_findx1) := by kernel_rfl
theorem t37 : FT 37 = some (rf_slices_Delete__api_QueueEntry_api_QueueEntry) := by kernel_rfl
theorem t38 : FT 38 = some (rf_slices_IndexFunc__int_int) := by kernel_rfl

end Go.Proofs.Ytlofiiepmehhbaa

