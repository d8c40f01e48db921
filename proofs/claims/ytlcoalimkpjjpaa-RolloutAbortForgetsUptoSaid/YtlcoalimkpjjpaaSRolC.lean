import Derived.Test.YtlcoalimkpjjpaaSRolT
/-
  The laws of rollout, in the seat's program: what each call of a law returns.
-/
namespace Go.Proofs.Ytlcoalimkpjjpaa
open Go.RM Go.RM.Rol

theorem c35 : RowC FT 35 := row_c t35
theorem c27 : TailIC FT 27 := tailI_c (tailN_c t27 c35)
theorem c34 : ValidC FT 34 := valid_c t34
theorem c26 : TwoC FT 26 := two_c t26 c34
theorem c20 : DecideC FT 20 := decide_c t20 c26 c27
theorem c36 : IndexIC FT 36 := indexI_c t36
theorem c37 : DeleteC FT 37 := delete_c t37
theorem c32 : AbortC FT 32 := abort_c t32 c36 c37
theorem c22 : LastC FT 22 := last_c t22
theorem c29 : StartC FT 29 := start_c t29 c22
theorem c30 : ReportC FT 30 := report_c t30 c34 c20 c32
theorem c31 : AdvanceC FT 31 := advance_c t31 c20
theorem c28 : UnusedC FT 28 := unused_c t28
theorem c21 : StepC FT 21 := step_c t21 c28 c29 c30 c31 c32
theorem c8 : RunC FT 8 := run_c t8 c20 c21
theorem c9 : VersC FT 9 := vers_c t9 c8 c22
theorem c16 : FEqualIntsC FT 16 := fEqualInts_c t16
theorem c15 : EqRingsC FT 15 := eqRings_c t15 c16
theorem c10 : RExC FT 10 := rolExample_c t10 c8 c9 c15 c16
theorem c8f : RunFC FT 8 := runF_c t8 c20 c21
theorem c11 : FFaultC FT 11 := fFault_c t11
theorem c18 : FWithoutC FT 18 := fWithout_c t18

theorem In.ev {Pn : Nat → Prop} : In Pn (.struct [.int .i64, .int .i64, .int .i64, .struct [.int .i64, .int .i64]]) tEv (fun _ => True) := ⟨fun {H c} h => by
  simp only [WF, WFs] at h
  obtain ⟨_, _, rfl, ⟨x, rfl, _⟩, _, _, rfl, ⟨y, rfl, _⟩, _, _, rfl, ⟨z, rfl, _⟩, _, _, rfl, ⟨_, _, rfl, ⟨u, rfl, _⟩, _, _, rfl, ⟨w, rfl, _⟩, rfl⟩, rfl⟩ := h
  exact ⟨⟨x, y, z, u, w⟩, rfl, trivial⟩⟩

abbrev tcE : TC := .slice 5 (.struct [.int .i64, .int .i64, .int .i64, .struct [.int .i64, .int .i64]])
abbrev tcN : TC := .struct [.int .i64, .int .i64]

theorem cntV {Pn : Nat → Prop} {H : Heap} {v : AV} (h : WFv Pn H (.struct [.int .i64, .int .i64]) v) : ∃ g b, v = cnt g b := by
  obtain ⟨cs, rfl, h⟩ := h
  simp only [WFs, WF] at h
  obtain ⟨a, b, rfl, ⟨n, rfl, hn⟩, c, d, rfl, ⟨m, rfl, hm⟩, rfl⟩ := h
  exact ⟨n, m, rfl⟩

/-- The arguments of a law. -/
theorem args {Pn : Nat → Prop} {H : Heap} {avs : List AV} {tl : List TC} (h : WFvs Pn H (.int .i64 :: tcN :: .int .i64 :: .int .i64 :: tcE :: tl) avs) : ∃ rings p v evs r, avs = i64 rings :: cnt (PP.b1 p) p.b2 :: i64 p.need :: i64 p.pm :: v :: r ∧ Arr tEv H v evs ∧ Pn evs.length ∧ WFvs Pn H tl r := by
  obtain ⟨v1, r1, e1, h1, g1⟩ := wfvs_cons h
  obtain ⟨v2, r2, e2, h2, g2⟩ := wfvs_cons g1
  obtain ⟨v3, r3, e3, h3, g3⟩ := wfvs_cons g2
  obtain ⟨v4, r4, e4, h4, g4⟩ := wfvs_cons g3
  obtain ⟨v5, r5, e5, h5, g5⟩ := wfvs_cons g4
  obtain ⟨rings, f1, _⟩ := in_intV h1
  obtain ⟨g, b, f2⟩ := cntV h2
  obtain ⟨need, f3, _⟩ := in_intV h3
  obtain ⟨pm, f4, _⟩ := in_intV h4
  obtain ⟨evs, he, _, _, hp⟩ := In.ev.sliceV h5
  exact ⟨rings, ⟨g, b, need, pm⟩, v5, evs, r5, by rw [e1, e2, e3, e4, e5, f1, f2, f3, f4], he, hp, g5⟩

theorem core6 (H : Heap) (avs : List AV) (h : WFvs (fun n => n ≤ 1048576) H [.int .i64, tcN, .int .i64, .int .i64, tcE, .int .i64] avs) : ∃ n H', rcall (tableU Try.prog) n H.length 6 avs H = some (.bool true, H') := by
  obtain ⟨rings, p, v, evs, r, rfl, he, hl, h⟩ := args h
  obtain ⟨v6, r6, rfl, h6, h⟩ := wfvs_cons h
  obtain rfl := wfvs_nil h
  obtain ⟨ver, rfl, _⟩ := in_intV h6
  exact core_of (forgets_run t6 c8f c10 c11 c18 c15 he hl (Nat.le_refl _))

end Go.Proofs.Ytlcoalimkpjjpaa

