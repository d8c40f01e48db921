import Derived.Test.YteplndpnfdmgkaaSAudT
/-
  The laws of audit, in the seat's program: what each call of a law returns.
-/
namespace Go.Proofs.Yteplndpnfdmgkaa
open Go.RM Go.RM.Au

theorem c48 : MulC FT 48 := mul64_c t48
theorem c51 : LenC FT 51 := len64_c t51
theorem c51M : LenMC FT 51 := len64M_c t51
theorem c52 : LzMC FT 52 := lzM_c t52 c51M
theorem c49 : DivMC FT 49 := divM_c t49 c52
theorem c46 : DMulC FT 46 := mul_c t46 c48 c49
theorem c41 : PairC FT 41 := pair_c t41 c46
theorem c47 : LenC FT 47 := len_c t47 c51
theorem c33 : DigC FT 33 := isDigest_c t33
theorem c28 : InRC FT 28 := inRange_c t28 c33
theorem c15 : InRC FT 15 := recordValid_c t15
theorem c29 : ChainC FT 29 := chain_c t29 c41
theorem c14 : LogC FT 14 := validate_c t14 c28 c29
theorem c30 : CloneRC FT 30 := cloneR_c t30
theorem c10 : AppendC FT 10 := append_c t10 c14 c28 c29 c30
theorem c11 : QueryC FT 11 := query_c t11 c14
theorem c12 : ForkC FT 12 := fork_c t12 c14
theorem c19 : FEqualIntsC FT 19 := fEqualInts_c t19
theorem c20 : FHasC FT 20 := fHas_c t20
theorem c32 : ChainsC FT 32 := chains_c t32
theorem c44 : SplitC FT 44 := split_c t44 c47
theorem c43 : TPairC FT 43 := tpair_c t43 c41
theorem c34 : LeafC FT 34 := leafFault_c t34 c33
theorem c38 : PrfC FT 38 := proofFault_c t38 c33
theorem c37 : RangC FT 37 := ranges_c t37
theorem c35 : RootC FT 35 := root_c t35 c44 c43
theorem c24 : RootTC FT 24 := rootT_c t24 c34 c35
theorem c45 : NextC FT 45 := next_c t45
theorem c40 : DoneC FT 40 := done_c t40
theorem c39 : IncC FT 39 := include_c t39 c44 c45 c43
theorem c27 : VerC FT 27 := verify_c t27 c33 c37 c38 c39 c40
theorem c21 : CheckC FT 21 := checkpoint_c t21 c14 c32 c24
theorem c23 : InclC FT 23 := includes_c t23 c28 c33 c27 c29
theorem c13 : AExC FT 13 := aex_c t13 c10 c11 c21 c12 c19 c23 c14

theorem In.rec {Pn : Nat → Prop} : In Pn (.struct [.int .i64, .int .i64, .int .i64, .int .i64]) tRec (fun _ => True) := ⟨fun {H c} h => by
  simp only [WF, WFs] at h
  obtain ⟨_, _, rfl, ⟨x, rfl, _⟩, _, _, rfl, ⟨y, rfl, _⟩, _, _, rfl, ⟨z, rfl, _⟩, _, _, rfl, ⟨u, rfl, _⟩, rfl⟩ := h
  exact ⟨⟨x, y, z, u⟩, rfl, trivial⟩⟩

abbrev tcR : TC := .struct [.int .i64, .int .i64, .int .i64, .int .i64]
abbrev tcL : TC := .slice 4 tcR

theorem argL {Pn : Nat → Prop} {H : Heap} {avs : List AV} {tl : List TC} (h : WFvs Pn H (tcL :: tl) avs) : ∃ v l r, avs = v :: r ∧ Arr tRec H v l ∧ WFvs Pn H tl r := by
  obtain ⟨v1, r1, e1, h1, g1⟩ := wfvs_cons h
  obtain ⟨l, he, _⟩ := In.rec.sliceV h1
  exact ⟨v1, l, r1, e1, he, g1⟩
theorem argI {Pn : Nat → Prop} {H : Heap} {avs : List AV} {tl : List TC} (h : WFvs Pn H (.int .i64 :: tl) avs) : ∃ n r, avs = i64 n :: r ∧ in64 n ∧ WFvs Pn H tl r := by
  obtain ⟨v1, r1, e1, h1, g1⟩ := wfvs_cons h
  obtain ⟨n, rfl, hn⟩ := in_intV h1
  exact ⟨n, r1, e1, hn, g1⟩
theorem core4 (H : Heap) (avs : List AV) (h : WFvs (fun _ => True) H [tcL, .int .i64, .int .i64, .int .i64] avs) : ∃ n H', rcall (tableU Try.prog prims) n H.length 4 avs H = some (.bool true, H') := by
  obtain ⟨v, l, _, rfl, hl, h1⟩ := argL h
  obtain ⟨t, _, rfl, _, h2⟩ := argI h1
  obtain ⟨u, _, rfl, _, h3⟩ := argI h2
  obtain ⟨a, _, rfl, _, h4⟩ := argI h3
  obtain rfl := wfvs_nil h4
  exact core_of (lExtends_c t4 c10 c12 c11 c13 c14 c20 hl (Nat.le_refl _))
end Go.Proofs.Yteplndpnfdmgkaa

