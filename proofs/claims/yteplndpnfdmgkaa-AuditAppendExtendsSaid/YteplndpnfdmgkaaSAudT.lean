import Derived.Test.YteplndpnfdmgkaaRmCln
import Derived.Test.YteplndpnfdmgkaaAuP3
import Derived.Test.YteplndpnfdmgkaaRows
import Derived.KernelRfl
/-
  The functions of the seat: which number of the program is which text.
-/
namespace Go.Proofs.Yteplndpnfdmgkaa
open Go.RM

open Go.Shelf Go.Proofs
/-- Functions that are known as a whole. -/
def prims : Nat → Option Prim := fun f => match f with | 30 => some (.clone 4 32) | _ => none
def rn30 : Ren := { t := fun n => match n with | 9 => 24 | 24 => 22 | n => n, f := fun n => n, g := fun n => n }
theorem laid30 : ClnLaid Try.prog 30 rn30 "slices.Clone[[]changeforge/api.Record,changeforge/api.Record]" 4 32 :=
  ClnLaid.of Try.checked.mixed (by kernel_rfl) (by decide) (by kernel_rfl) (by kernel_rfl) (by kernel_rfl) (by kernel_rfl) (by kernel_rfl) (by decide) (by decide)
theorem prims_ok : PrimsOk Try.prog prims := fun g p h => by
  unfold prims at h
  split at h <;> first | (cases h; done) | (cases h; exact prim_clone (by first | exact laid30))
noncomputable abbrev FT : Nat → Option RFunc := tableU Try.prog prims
theorem t3 : FT 3 = some (rf_LAuditFunctionsMatchSpec 9 10 11 12 13 14 15 16 17 18 19) := by kernel_rfl
theorem t4 : FT 4 = some (rf_LAuditAppendExtends 10 12 11 13 14 20) := by kernel_rfl
theorem t10 : FT 10 = some (rf_audit_Append 14 28 29 30) := by kernel_rfl
theorem t11 : FT 11 = some (rf_audit_Query 14) := by kernel_rfl
theorem t12 : FT 12 = some (rf_audit_Fork 14) := by kernel_rfl
theorem t13 : FT 13 = some (rf_LauditExample 10 11 21 12 19 23 14) := by kernel_rfl
theorem t14 : FT 14 = some (rf_audit_Validate 28 29) := by kernel_rfl
theorem t15 : FT 15 = some (rf_FRecordValid) := by kernel_rfl
theorem t19 : FT 19 = some (rf_FEqualInts) := by kernel_rfl
theorem t20 : FT 20 = some (rf_FHas) := by kernel_rfl
theorem t21 : FT 21 = some (rf_audit_Checkpoint 14 32 24) := by kernel_rfl
theorem t23 : FT 23 = some (rf_audit_Includes 28 33 27 29) := by kernel_rfl
theorem t24 : FT 24 = some (rf_translog_Root 34 35) := by kernel_rfl
theorem t27 : FT 27 = some (rf_translog_Verify 33 37 38 39 40) := by kernel_rfl
theorem t28 : FT 28 = some (rf_audit_inRange 33) := by kernel_rfl
theorem t29 : FT 29 = some (rf_audit_chain 41) := by kernel_rfl
theorem t30 : FT 30 = some (rf_slices_Clone__api_Record_api_Record) := by kernel_rfl
theorem t32 : FT 32 = some (rf_audit_chains) := by kernel_rfl
theorem t33 : FT 33 = some (rf_signing_IsDigest) := by kernel_rfl
theorem t34 : FT 34 = some (rf_translog_fault 33) := by kernel_rfl
theorem t35 : FT 35 = some (rf_translog_root 44 35 43) := by kernel_rfl
theorem t37 : FT 37 = some (rf_translog_ranges) := by kernel_rfl
theorem t38 : FT 38 = some (rf_translog_proofFault 33) := by kernel_rfl
theorem t39 : FT 39 = some (rf_translog_reader_include 44 39 45 43) := by kernel_rfl
theorem t40 : FT 40 = some (rf_translog_reader_done) := by kernel_rfl
theorem t41 : FT 41 = some (rf_digest_Pair 46) := by kernel_rfl
theorem t43 : FT 43 = some (rf_translog_pair 41) := by kernel_rfl
theorem t44 : FT 44 = some (rf_translog_split 47) := by kernel_rfl
theorem t45 : FT 45 = some (rf_translog_reader_next) := by kernel_rfl
theorem t46 : FT 46 = some (rf_digest_mul 48 49) := by kernel_rfl
theorem t47 : FT 47 = some (rf_mathbits_Len 50 51) := by kernel_rfl
theorem t48 : FT 48 = some (rf_mathbits_Mul64) := by kernel_rfl
theorem t49 : FT 49 = some (rf_mathbits_Div64 52) := by kernel_rfl
theorem t51 : FT 51 = some (rf_mathbits_Len64) := by kernel_rfl
theorem t52 : FT 52 = some (rf_mathbits_LeadingZeros64 51) := by kernel_rfl

end Go.Proofs.Yteplndpnfdmgkaa

