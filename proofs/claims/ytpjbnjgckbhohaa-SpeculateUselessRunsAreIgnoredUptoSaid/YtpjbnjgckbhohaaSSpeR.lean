import Derived.Test.YtpjbnjgckbhohaaSSpeC
/-
  The laws of the seat return true for every input, and leave their arguments as they were (the second form where a law builds longer lists than it is handed).
-/
namespace Go.Proofs.Ytpjbnjgckbhohaa
open Go.RM Go.ChangeShapes Go.WideShapes Go.ChangeAt Go.RowKit
set_option linter.unusedVariables false

theorem Try.own2 : ownKnob Try.prog.godebug = none := by kernel_rfl
theorem Try.laidOut2 : laidOutB Try.prog = true := by kernel_rfl

section
variable {T : Type}
theorem bulk_part {d : DataW T} {l : List (DataW T)} (h : d ∈ l) : Rows.uptoBulk d ≤ Rows.uptoBulkAll l := by
  induction l with
  | nil => cases h
  | cons x r ih =>
    simp only [Rows.uptoBulkAll]
    rcases List.mem_cons.1 h with e | e
    · subst e; omega
    · have := ih e; omega
theorem bulk_one (d : DataW T) : 1 ≤ Rows.uptoBulk d := by
  cases d with
  | lit l => cases l <;> simp [Rows.uptoBulk]
  | _ => simp [Rows.uptoBulk]
theorem bulk_len (l : List (DataW T)) : l.length ≤ Rows.uptoBulkAll l := by
  induction l with
  | nil => simp [Rows.uptoBulkAll]
  | cons x r ih => have := bulk_one x; simp only [Rows.uptoBulkAll, List.length_cons]; omega
theorem bulk_slice (e s : List (DataW T)) : Rows.uptoBulk (.slice e s) = Rows.uptoBulkAll e + Rows.uptoBulkAll s + 1 := by simp only [Rows.uptoBulk]
theorem bulk_agg (l : List (DataW T)) : Rows.uptoBulk (.agg l) = Rows.uptoBulkAll l + 1 := by simp only [Rows.uptoBulk]
theorem bulk_str (l : List UInt8) : Rows.uptoBulk (DataW.lit (H := T) (.string l)) = l.length + 1 := by simp only [Rows.uptoBulk]
theorem bulkBd : Bd (T := T) (fun n => n ≤ 1048576) (fun d => Rows.uptoBulk d ≤ 1048576) where
  zero := Nat.zero_le _
  len {e s} h := by have := bulk_len e; rw [bulk_slice] at h; omega
  elem {e s x} h hx := by
    rw [bulk_slice] at h
    rcases List.mem_append.1 hx with hx | hx
    · have := bulk_part hx; omega
    · have := bulk_part hx; omega
  part {l x} h hx := by
    rw [bulk_agg] at h
    have := bulk_part hx; omega
  str {s} h := by
    rw [bulk_str] at h
    have : s.size = s.data.toList.length := rfl
    omega
theorem bulk_all {ds : List (DataW T)} (h : Rows.uptoSmall T ds = true) : ∀ d ∈ ds, Rows.uptoBulk d ≤ 1048576 := fun d hd => by
  have h1 := bulk_part hd
  have h2 : Rows.uptoBulkAll ds ≤ 1048576 := of_decide_eq_true h
  omega
end

theorem lifted6 (os : Os) (started : os.Started) (T : Type) (enc : TypeId × Value → T) (F : Stop.Interp) :
    ReturnsInHanded {} Try.checked os 6 .any ((Rows.OpenSpec.upto Rows.speculateUselessRunsAreIgnoredSpec).pre6 enc Try.prog Try.f6 Rows.speculateUselessRunsAreIgnoredUptoRow.domain false) (((Rows.OpenSpec.upto Rows.speculateUselessRunsAreIgnoredSpec).at F).post enc Try.prog Try.f6 false true false false) :=
  liftedU (C := Try.checked) (s := Rows.speculateUselessRunsAreIgnoredSpec) (k := Rows.uptoSmall) (tb := 4) prims_ok Try.own2 started (by kernel_rfl) Try.func6
    (OpenSpec.witness (enc := enc) (C := Try.checked) (s := Rows.OpenSpec.upto Rows.speculateUselessRunsAreIgnoredSpec) (k := Rows.uptoSmall) rfl false ⟨#[], #[.int .i64 0, .slice none 0 0, .agg #[.int .i64 0, .slice none 0 0], .bool false], []⟩ 8 (by kernel_rfl) (by kernel_rfl) (by kernel_rfl)
      (x := ([(.lit (.int .i64 0)), .nil, (.agg [(.lit (.int .i64 0)), .nil]), (.lit (.bool false))], [], [])) (by kernel_rfl) rfl (by kernel_rfl))
    Try.laidOut2 (by kernel_rfl) (by kernel_rfl) (by kernel_rfl) rfl (fun ds h => by rcases ds with _ | ⟨d1, _ | ⟨d2, _ | ⟨d3, _ | ⟨d4, _ | ⟨d5, r⟩⟩⟩⟩⟩ <;> first | exact ⟨rfl, rfl, rfl⟩ | simp at h) bulkBd (fun _ h => bulk_all h) (by kernel_rfl) core6

theorem holds6 : Rows.SpeculateUselessRunsAreIgnoredUptoSaid :=
  OpenClaim.holds_of_cond 6 Try.f6 rfl rfl rfl rfl rfl rfl rfl ⟨rfl, rfl, rfl, rfl, rfl⟩ rfl rfl rfl rfl rfl (by kernel_rfl) Try.func6 (by kernel_rfl)
    (of_decide_eq_true (by kernel_rfl)) (by unfold Func.isWrapper; first | (rw [if_pos (by decide +kernel)]; kernel_rfl) | (rw [if_neg (by decide +kernel)]; exact ⟨rfl, rfl⟩))
    (fun os started H enc _ F => lifted6 os started H enc F)

end Go.Proofs.Ytpjbnjgckbhohaa

