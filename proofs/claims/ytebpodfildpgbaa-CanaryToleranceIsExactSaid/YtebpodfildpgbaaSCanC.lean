/-
  The laws of canary, in the seat's program: what each call of a law returns.
-/
import Derived.Test.YtebpodfildpgbaaSCanT
namespace Go.Proofs.Ytebpodfildpgbaa
open Go.RM

theorem c21 : RowC FT 21 := row_c t21
theorem c19 : TailIC FT 19 := tailI_c (tailN_c t19 c21)
theorem c12 : ValidC FT 12 := valid_c t12
theorem c18 : TwoC FT 18 := two_c t18 c12
theorem c8 : TailC FT 8 := tail_c t8 c18 c19
theorem c9 : DecideC FT 9 := decide_c t9 c18 c19
theorem c10 : TolC FT 10 := tol_c t10 c12 c9
theorem c11 : CExampleC FT 11 := canExample_c t11 c8 c9 c10
theorem c13 : CountsValidC FT 13 := countsValid_c t13
theorem c14 : FFaultC FT 14 := fFault_c t14
theorem c15 : TwoC FT 15 := sides_c t15 c13 c14
theorem c20 : ChooseC FT 20 := choose_c t20
theorem c16 : WaysC FT 16 := ways_c t16 c20
theorem c17 : VerdictC FT 17 := verdict_c t17 c16

theorem cntV {Pn : Nat → Prop} {H : Heap} {v : AV} (h : WFv Pn H (.struct [.int .i64, .int .i64]) v) : ∃ g b, v = cnt g b ∧ in64 g ∧ in64 b := by
  obtain ⟨cs, rfl, h⟩ := h
  simp only [WFs, WF] at h
  obtain ⟨a, b, rfl, ⟨n, rfl, hn⟩, c, d, rfl, ⟨m, rfl, hm⟩, rfl⟩ := h
  exact ⟨n, m, rfl, wf_in64 hn, wf_in64 hm⟩

abbrev tcC : TC := .struct [.int .i64, .int .i64]

theorem core3 (H : Heap) (avs : List AV) (h : WFvs (fun _ => True) H [tcC, tcC, .int .i64, .int .i64] avs) : ∃ n H', rcall (tableU Try.prog) n H.length 3 avs H = some (.bool true, H') := by
  obtain ⟨v1, r, rfl, h1, h⟩ := wfvs_cons h
  obtain ⟨v2, r, rfl, h2, h⟩ := wfvs_cons h
  obtain ⟨v3, r, rfl, h3, h⟩ := wfvs_cons h
  obtain ⟨v4, r, rfl, h4, h⟩ := wfvs_cons h
  obtain rfl := wfvs_nil h
  obtain ⟨g1, b1, rfl, _⟩ := cntV h1
  obtain ⟨g2, b2, rfl, _⟩ := cntV h2
  obtain ⟨need, rfl, _⟩ := in_intV h3
  obtain ⟨pm, rfl, _⟩ := in_intV h4
  exact core_of (cspec_run t3 c8 c9 c10 c11 c12 c13 c14 c15 c16 c17 (Nat.le_refl _))

theorem core5 (H : Heap) (avs : List AV) (h : WFvs (fun _ => True) H [tcC, tcC] avs) : ∃ n H', rcall (tableU Try.prog) n H.length 5 avs H = some (.bool true, H') := by
  obtain ⟨v1, r, rfl, h1, h⟩ := wfvs_cons h
  obtain ⟨v2, r, rfl, h2, h⟩ := wfvs_cons h
  obtain rfl := wfvs_nil h
  obtain ⟨g1, b1, rfl, _⟩ := cntV h1
  obtain ⟨g2, b2, rfl, _⟩ := cntV h2
  exact core_of (sym_run t5 c8 c11 (Nat.le_refl _))

theorem core6 (H : Heap) (avs : List AV) (h : WFvs (fun _ => True) H [tcC, .int .i64, .int .i64, .int .i64] avs) : ∃ n H', rcall (tableU Try.prog) n H.length 6 avs H = some (.bool true, H') := by
  obtain ⟨v1, r, rfl, h1, h⟩ := wfvs_cons h
  obtain ⟨v2, r, rfl, h2, h⟩ := wfvs_cons h
  obtain ⟨v3, r, rfl, h3, h⟩ := wfvs_cons h
  obtain ⟨v4, r, rfl, h4, h⟩ := wfvs_cons h
  obtain rfl := wfvs_nil h
  obtain ⟨g1, b1, rfl, _⟩ := cntV h1
  obtain ⟨s, rfl, _⟩ := in_intV h2
  obtain ⟨bad, rfl, hb⟩ := in_intV h3
  obtain ⟨pm, rfl, _⟩ := in_intV h4
  exact core_of (exact_run t6 c10 c9 c11 hb (Nat.le_refl _))

theorem core7 (H : Heap) (avs : List AV) (h : WFvs (fun _ => True) H [tcC, .int .i64, .int .i64, .int .i64] avs) : ∃ n H', rcall (tableU Try.prog) n H.length 7 avs H = some (.bool true, H') := by
  obtain ⟨v1, r, rfl, h1, h⟩ := wfvs_cons h
  obtain ⟨v2, r, rfl, h2, h⟩ := wfvs_cons h
  obtain ⟨v3, r, rfl, h3, h⟩ := wfvs_cons h
  obtain ⟨v4, r, rfl, h4, h⟩ := wfvs_cons h
  obtain rfl := wfvs_nil h
  obtain ⟨g1, b1, rfl, _⟩ := cntV h1
  obtain ⟨s, rfl, _⟩ := in_intV h2
  obtain ⟨pm, rfl, _⟩ := in_intV h3
  obtain ⟨more, rfl, _⟩ := in_intV h4
  exact core_of (strict_run t7 c10 c11 (Nat.le_refl _))

end Go.Proofs.Ytebpodfildpgbaa
