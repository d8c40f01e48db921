/-
  The laws of calendar, in the seat's program: what each call of a law returns.
-/
import Derived.Test.YtmiinaimpdbenaaSCalT
namespace Go.Proofs.Ytmiinaimpdbenaa
open Go.RM Go.RM.Cal

theorem c32 : NaNC FT 32 := cmpNaN_c t32
theorem c30 : LessC FT 30 := less_c t30 c32
theorem c31 : NaNC FT 31 := slcNaN_c t31
theorem c29 : BinSearchC FT 29 := binSearch_c t29 c30 c31
theorem c22 : DayC FT 22 := day_c t22 c29
theorem c24 : BeginC FT 24 false := begin_c t24
theorem c25 : BeginC FT 25 true := end_c t25
theorem c14 : CalFaultC FT 14 := calValidate_c t14 c24 c25
theorem c19 : FFaultC FT 19 := fFault_c t19
theorem c8 : CalFaultC FT 8 := fCalFault_c t8 c19
theorem c20 : CheckC FT 20 := check_c t20 c14
theorem c21 : ContainsSC FT 21 := containsS_c t21 t28
theorem c9 : OpenC FT 9 := open_c t9 c20 c22 t23 c21
theorem c10 : TimeC FT 10 nextR := next_c t10 c20 c22
theorem c11 : Time2C FT 11 workedR := worked_c t11 c20 c22
theorem c12 : Time2C FT 12 addR := add_c t12 c20 c22
theorem c13 : CalExC FT 13 := calExample_c t13 c9 c10 c11 c12
theorem c15 : TimeFC FT 15 := timeFault_c t15 c19
theorem c26 : FHasC FT 26 := fHas_c t26
theorem c27 : UptoC FT 27 := upto_c t27
theorem c18 : MinutesC FT 18 := minutes_c t18 c27
theorem c17 : ReachC FT 17 := reach_c t17 c18
theorem c16 : IsOpenC FT 16 := isOpen_c t16 c26

theorem In.win {Pn : Nat → Prop} : In Pn (.struct [.int .i64, .int .i64, .int .i64]) tWin (fun _ => True) := ⟨fun {H c} h => by
  simp only [WF, WFs] at h
  obtain ⟨_, _, rfl, ⟨x, rfl, _⟩, _, _, rfl, ⟨y, rfl, _⟩, _, _, rfl, ⟨z, rfl, _⟩, rfl⟩ := h
  exact ⟨(x, y, z), rfl, trivial⟩⟩

abbrev tcK : TC := .struct [.slice 3 (.struct [.int .i64, .int .i64, .int .i64]), .slice 1 (.int .i64)]

theorem calVal {Pn : Nat → Prop} {H : Heap} {v : AV} (h : WFv Pn H tcK v) : ∃ w h c, v = calV w h ∧ CalA H w h c := by
  obtain ⟨cs, rfl, h⟩ := h
  unfold WFs at h
  obtain ⟨a, b, rfl, ha, h⟩ := h
  unfold WFs at h
  obtain ⟨a2, b2, rfl, ha2, h⟩ := h
  unfold WFs at h
  subst h
  obtain ⟨ws, ⟨w, rfl, h1⟩, _⟩ := (In.arr In.win).go ha
  obtain ⟨hs, ⟨u, rfl, h2⟩, _⟩ := (In.arr In.int).go ha2
  exact ⟨w, u, ⟨ws, hs⟩, rfl, h1, h2⟩

theorem core3 (H : Heap) (avs : List AV) (h : WFvs (fun _ => True) H [tcK, .int .i64, .int .i64, .int .i64] avs) : ∃ n H', rcall (tableU Try.prog) n H.length 3 avs H = some (.bool true, H') := by
  obtain ⟨v1, r, rfl, h1, h⟩ := wfvs_cons h
  obtain ⟨v2, r, rfl, h2, h⟩ := wfvs_cons h
  obtain ⟨v3, r, rfl, h3, h⟩ := wfvs_cons h
  obtain ⟨v4, r, rfl, h4, h⟩ := wfvs_cons h
  obtain rfl := wfvs_nil h
  obtain ⟨w, u, c, rfl, hc⟩ := calVal h1
  obtain ⟨a, rfl, _⟩ := in_intV h2
  obtain ⟨b, rfl, _⟩ := in_intV h3
  obtain ⟨d, rfl, _⟩ := in_intV h4
  exact core_of (spec_run t3 c8 c9 c10 c11 c12 c13 c14 c15 c16 c18 c17 c19 hc (Nat.le_refl _))

theorem core4 (H : Heap) (avs : List AV) (h : WFvs (fun _ => True) H [tcK, .int .i64, .int .i64, .int .i64] avs) : ∃ n H', rcall (tableU Try.prog) n H.length 4 avs H = some (.bool true, H') := by
  obtain ⟨v1, r, rfl, h1, h⟩ := wfvs_cons h
  obtain ⟨v2, r, rfl, h2, h⟩ := wfvs_cons h
  obtain ⟨v3, r, rfl, h3, h⟩ := wfvs_cons h
  obtain ⟨v4, r, rfl, h4, h⟩ := wfvs_cons h
  obtain rfl := wfvs_nil h
  obtain ⟨w, u, c, rfl, hc⟩ := calVal h1
  obtain ⟨a, rfl, _⟩ := in_intV h2
  obtain ⟨b, rfl, _⟩ := in_intV h3
  obtain ⟨d, rfl, _⟩ := in_intV h4
  exact core_of (additive_run t4 c11 c13 hc (Nat.le_refl _))

theorem core5 (H : Heap) (avs : List AV) (h : WFvs (fun _ => True) H [tcK, .int .i64, .int .i64] avs) : ∃ n H', rcall (tableU Try.prog) n H.length 5 avs H = some (.bool true, H') := by
  obtain ⟨v1, r, rfl, h1, h⟩ := wfvs_cons h
  obtain ⟨v2, r, rfl, h2, h⟩ := wfvs_cons h
  obtain ⟨v3, r, rfl, h3, h⟩ := wfvs_cons h
  obtain rfl := wfvs_nil h
  obtain ⟨w, u, c, rfl, hc⟩ := calVal h1
  obtain ⟨a, rfl, _⟩ := in_intV h2
  obtain ⟨b, rfl, _⟩ := in_intV h3
  exact core_of (addTakes_run t5 c12 c11 c9 c13 hc (Nat.le_refl _))

theorem core6 (H : Heap) (avs : List AV) (h : WFvs (fun _ => True) H [tcK, .int .i64] avs) : ∃ n H', rcall (tableU Try.prog) n H.length 6 avs H = some (.bool true, H') := by
  obtain ⟨v1, r, rfl, h1, h⟩ := wfvs_cons h
  obtain ⟨v2, r, rfl, h2, h⟩ := wfvs_cons h
  obtain rfl := wfvs_nil h
  obtain ⟨w, u, c, rfl, hc⟩ := calVal h1
  obtain ⟨a, rfl, _⟩ := in_intV h2
  exact core_of (nextFirst_run t6 c10 c9 c11 c13 hc (Nat.le_refl _))

theorem core7 (H : Heap) (avs : List AV) (h : WFvs (fun _ => True) H [tcK, .int .i64, .int .i64] avs) : ∃ n H', rcall (tableU Try.prog) n H.length 7 avs H = some (.bool true, H') := by
  obtain ⟨v1, r, rfl, h1, h⟩ := wfvs_cons h
  obtain ⟨v2, r, rfl, h2, h⟩ := wfvs_cons h
  obtain ⟨v3, r, rfl, h3, h⟩ := wfvs_cons h
  obtain rfl := wfvs_nil h
  obtain ⟨w, u, c, rfl, hc⟩ := calVal h1
  obtain ⟨a, rfl, ha⟩ := in_intV h2
  obtain ⟨b, rfl, hb⟩ := in_intV h3
  exact core_of (repeats_run t7 c9 c11 c13 ha hb hc (Nat.le_refl _))

end Go.Proofs.Ytmiinaimpdbenaa
