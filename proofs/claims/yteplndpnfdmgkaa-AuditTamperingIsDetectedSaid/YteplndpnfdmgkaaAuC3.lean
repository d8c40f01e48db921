import Derived.Test.YteplndpnfdmgkaaRmOwn
import Derived.Test.YteplndpnfdmgkaaRmRegion7
import Derived.ProofKit
/-
  Append, Query, Fork and their like, as contracts.
-/
namespace Go.RM
set_option linter.unusedSimpArgs false
set_option linter.unusedVariables false
namespace Au
variable {F : Nat → Option RFunc}

abbrev CloneRC (F : Nat → Option RFunc) (f : Nat) : Prop := ∀ {fl H Q v} {l : List Rec}, Arr tRec H v l → l.length ≤ 2 ^ 20 → (∀ w H', Keep H.length H H' → Acc H tRec H' w l → Q w H') → Ret F fl f [v] H Q
theorem cloneR_c {f : Nat} (hF : F f = some rf_slices_Clone__api_Record_api_Record) : CloneRC F f := fun {fl H Q v l} hv hl hq => by
  obtain ⟨css, h1, h2⟩ := hv
  obtain ⟨c1, c2⟩ := sl_cells h2
  by_cases h0 : l.length = 0
  · obtain rfl := List.eq_nil_of_length_eq_zero h0
    refine ret_prim (v := .empty) (H' := H) hF rfl ?_ (hq .empty H (Keep.refl H) Acc.nil)
    show rclone 4 32 H v = _
    unfold rclone; rw [c1]; rfl
  · have hlen : css.flatten.length = l.length * tRec.e := by rw [flat_len h1.lens, h1.len]
    refine ret_prim (v := .slice H.length 0 l.length none) (H' := H ++ [{ cells := css.flatten, e := 4 }]) hF rfl ?_ (hq _ _ (Keep.app _ _) ⟨css, h1, ⟨by omega, .inr ⟨H.length, 0, none, { cells := css.flatten, e := 4 }, rfl, Nat.le_refl _, snoc_end _ _, rfl, rfl, by simp [hlen], by rw [List.drop_zero, ← hlen, List.take_length], .inl ⟨rfl, by simp [hlen]⟩⟩⟩⟩)
    show rclone 4 32 H v = _
    unfold rclone; rw [c1]
    simp only
    rw [if_neg h0, if_pos ⟨by decide, by omega, by omega⟩]
    have c2' : sliceCells H 4 l.length v = some css.flatten := c2
    rw [c2']
    rfl

abbrev AppendC (F : Nat → Option RFunc) (f : Nat) : Prop := ∀ {fl H Q v t u a} {l : List Rec}, Arr tRec H v l → fl ≤ H.length →
  (∀ w H', Keep H.length H H' → Acc H tRec H' w (appR l t u a) → Q (.tuple [w, flt (appF l t u a).1 (appF l t u a).2]) H') → Ret F fl f [v, i64 t, i64 u, i64 a] H Q
theorem append_c {f n1 n2 n3 n4 : Nat} (hF : F f = some (rf_audit_Append n1 n2 n3 n4)) (h1 : LogC F n1) (h2 : InRC F n2) (h3 : ChainC F n3) (h4 : CloneRC F n4) : AppendC F f := fun {fl H Q v t u a l} hv hfl hq => by
  refine v_audit_Append hF _ _ _ _ ?_
  intro H4 d4
  refine h1 (hv.keep d4.keep) (Nat.le_trans hfl d4.keep.len) fun H7 k7 => ⟨_, _, rfl, ?_⟩
  intro H9 d9
  have k9 := (d4.keep.call k7).call d9.keep
  have bad : ∀ p, appF l t u a = p → p ≠ (0, 0) → ∀ H', Keep H.length H H' → Q (.tuple [.empty, flt p.1 p.2]) H' := fun p e hp H' k => by
    have := hq .empty H' k
    unfold appR at this
    rw [e, if_neg hp] at this
    exact this Acc.nil
  refine ⟨fun hne => ?_, fun heq => ?_⟩
  · refine bad _ ?_ (pair_ne hne) H9 k9
    unfold appF; rw [if_neg (pair_ne hne)]
  · have hlog := pair_eq heq
    have hin := logF_in hlog
    have hlen := (logF_ok hlog).1
    intro H10 d10 H11 d11
    have k11 := (k9.call d10.keep).call d11.keep
    refine ⟨fun x1 x2 x3 x4 => x1 = (lastR l).t ∧ x4 = (lastR l).c, ⟨_, hv.len, fun hpos => ?_, fun hnp => ?_⟩, ?_⟩
    · have hl1 : l.length - 1 < l.length := by omega
      have e : IntKind.wrap .i64 ((l.length : Int) - 1) = ((l.length - 1 : Nat) : Int) := wpred (by omega) hv.small
      refine ⟨_, hv.len, ?_⟩
      rw [e]
      refine ⟨_, _, _, _, (hv.keep k11).enc hl1, ?_⟩
      unfold lastR
      rw [List.getLast?_eq_getElem?, List.getElem?_eq_getElem hl1]
      exact ⟨rfl, rfl⟩
    · obtain rfl := List.eq_nil_of_length_eq_zero (show l.length = 0 by omega)
      exact ⟨rfl, rfl⟩
    · rintro _ _ _ _ ⟨rfl, rfl⟩
      refine h2 fun H26 k26 => ⟨_, rfl, fun hno => ?_, fun hyes => ?_⟩
      · refine bad (3, -2) ?_ (by decide) H26 (k11.call k26)
        unfold appF; rw [if_pos hlog, if_neg hno]
      · have hyes : inR ⟨t, u, a, 0⟩ = true := by simpa using hyes
        refine ⟨fun hlt => ?_, fun hge => ?_⟩
        · refine bad (16, -2) ?_ (by decide) H26 (k11.call k26)
          unfold appF; rw [if_pos hlog, if_pos hyes, if_pos hlt]
        · refine ⟨_, hv.len, fun h40 => ?_, fun hn40 => ?_⟩
          · refine bad (14, -2) ?_ (by decide) H26 (k11.call k26)
            unfold appF; rw [if_pos hlog, if_pos hyes, if_neg hge, if_pos (by omega)]
          · have k26' := k11.call k26
            obtain ⟨g1, g2, g3, g4, g5, g6, g7⟩ := inR_iff.1 hyes
            have hF0 : appF l t u a = (0, 0) := by unfold appF; rw [if_pos hlog, if_pos hyes, if_neg hge, if_neg (by omega)]
            refine h3 (r := ⟨t, u, a, 0⟩) (Nat.le_trans hfl k26'.len) (lastR_dig hin) ⟨g1, g2, g3, g4, g5, g6⟩ fun H30 k30 => ⟨_, rfl, ?_⟩
            have k30' := k26'.call k30
            refine h4 (hv.keep k30') (by omega) fun w H33 k33 hw => ?_
            intro b35 H36 n36
            have k33' := k30'.call k33
            obtain ⟨v37, H38, p1, p2, p3, _⟩ := (Acc.of tRec_plain k30'.len hw).push (a := newR l t u a) (fl := fl) (free := true) (bytes := 32) rfl n36 k33' hfl (by omega) (by decide)
            refine ⟨v37, H38, p1, ?_⟩
            have := hq v37 H38 p3
            unfold appR at this
            rw [hF0, if_pos rfl] at this
            exact this p2

abbrev QueryC (F : Nat → Option RFunc) (f : Nat) : Prop := ∀ {fl H Q v u a b} {l : List Rec}, Arr tRec H v l → fl ≤ H.length →
  (∀ w H', Keep H.length H H' → Acc H tInt H' w (qR l u a b) → Q (.tuple [w, flt (qF l u).1 (qF l u).2]) H') → Ret F fl f [v, i64 u, i64 a, i64 b] H Q
theorem query_c {f n1 : Nat} (hF : F f = some (rf_audit_Query n1)) (h1 : LogC F n1) : QueryC F f := fun {fl H Q v u a b l} hv hfl hq => by
  refine v_audit_Query hF _ _ _ _ ?_
  intro H4 d4
  refine h1 (hv.keep d4.keep) (Nat.le_trans hfl d4.keep.len) fun H7 k7 => ⟨_, _, rfl, ?_⟩
  intro H9 d9
  have k9 := (d4.keep.call k7).call d9.keep
  refine ⟨fun x y => x = (qF l u).1 ∧ y = (qF l u).2, ⟨fun hc => ?_, fun hc => ?_⟩, ?_⟩
  · have hlog : logF l = (0, 0) := pair_eq (fun h => h hc.1)
    unfold qF
    rw [if_pos hlog, if_pos hc.2]
    exact ⟨rfl, rfl⟩
  · unfold qF
    split
    · rename_i hlog
      rw [if_neg (fun h => hc ⟨by rw [hlog]; exact ⟨rfl, rfl, trivial⟩, h⟩), hlog]
      exact ⟨rfl, rfl⟩
    · exact ⟨rfl, rfl⟩
  · rintro _ _ ⟨rfl, rfl⟩
    refine ⟨fun hne => ?_, fun heq => ?_⟩
    · have := hq .empty H9 k9
      unfold qR at this
      rw [if_neg (pair_ne hne)] at this
      exact this Acc.nil
    · have h0 := pair_eq heq
      unfold qR at hq
      rw [if_pos h0] at hq
      have hlog : logF l = (0, 0) := by
        unfold qF at h0
        split at h0
        · assumption
        · exact h0
      have hlen := (logF_ok hlog).1
      refine ⟨_, hv.len, fun m out v19 H' => ∃ (j : Nat) (acc : List Int), v19 = j ∧ j + m = l.length ∧ Keep H.length H H' ∧ Acc H tInt H' out acc ∧ acc.length ≤ j ∧ acc ++ qIdx u a b (l.drop j) j = qIdx u a b l 0, l.length, ⟨0, [], rfl, by omega, k9, Acc.nil, by simp, by rw [List.drop_zero]; rfl⟩, ?_⟩
      rintro m out _ H' ⟨j, acc, rfl, hm, hk, ho, hle, he⟩
      refine ⟨fun hlt => ?_, fun hge => ?_⟩
      · have hj : j < l.length := by omega
        rw [List.drop_eq_getElem_cons hj, qIdx] at he
        refine ⟨_, _, _, _, (hv.keep hk).enc hj, ?_⟩
        intro H30 d30
        have k30 := hk.call d30.keep
        refine ⟨fun hc => ?_, fun hc => ?_⟩
        · intro b31 H32 n32
          obtain ⟨v33, H34, p1, p2, p3, _⟩ := (ho.keep d30.keep).push (a := (j : Int)) (fl := fl) (free := true) (bytes := 8) rfl n32 k30 hfl (by omega) (by decide)
          refine ⟨v33, H34, p1, m - 1, by omega, j + 1, acc ++ [(j : Int)], wsucc hj hv.small, by omega, p3, p2, by simp; omega, ?_⟩
          rw [if_pos (by simp only [ask, Bool.and_eq_true, Bool.or_eq_true, decide_eq_true_eq]; omega)] at he
          rw [← he]; simp
        · refine ⟨m - 1, by omega, j + 1, acc, wsucc hj hv.small, by omega, k30, ho.keep d30.keep, by omega, ?_⟩
          rw [if_neg (by simp only [ask, Bool.and_eq_true, Bool.or_eq_true, decide_eq_true_eq]; omega)] at he
          exact he
      · rw [List.drop_eq_nil_of_le (by omega), qIdx, List.append_nil] at he
        rw [he] at ho
        exact hq out H' hk ho

abbrev ForkC (F : Nat → Option RFunc) (f : Nat) : Prop := ∀ {fl H Q v w} {a b : List Rec}, Arr tRec H v a → Arr tRec H w b → fl ≤ H.length →
  (∀ H', Keep H.length H H' → Q (.tuple [i64 (forkR a b), flt (forkF a b).1 (forkF a b).2]) H') → Ret F fl f [v, w] H Q
theorem fork_c {f n1 : Nat} (hF : F f = some (rf_audit_Fork n1)) (h1 : LogC F n1) : ForkC F f := fun {fl H Q v w a b} hv hw hfl hq => by
  refine v_audit_Fork hF _ _ ?_
  intro H2 d2
  refine h1 (hv.keep d2.keep) (Nat.le_trans hfl d2.keep.len) fun H5 k5 => ⟨_, _, rfl, ?_⟩
  intro H7 d7
  have k7 := (d2.keep.call k5).call d7.keep
  have hF0 : ∀ p, forkF a b = p → p ≠ (0, 0) → ∀ H', Keep H.length H H' → Q (.tuple [i64 0, flt p.1 p.2]) H' := fun p e hp H' k => by
    have := hq H' k
    unfold forkR at this
    rw [e, if_neg hp] at this
    exact this
  refine ⟨fun hne => hF0 _ (by unfold forkF; rw [if_neg (pair_ne hne)]) (pair_ne hne) H7 k7, fun heq => ?_⟩
  have ha := pair_eq heq
  refine h1 (hw.keep k7) (Nat.le_trans hfl k7.len) fun H10 k10 => ⟨_, _, rfl, ?_⟩
  intro H12 d12
  have k12 := (k7.call k10).call d12.keep
  refine ⟨fun hne => hF0 ((logF b).1, -2) (by unfold forkF; rw [if_pos ha, if_neg (pair_ne hne)]) (by simp) H12 k12, fun heq2 => ?_⟩
  have hb := pair_eq heq2
  have hf : forkF a b = (0, 0) := by unfold forkF; rw [if_pos ha, if_pos hb]
  unfold forkR at hq
  rw [hf, if_pos rfl] at hq
  have la := (logF_ok ha).1
  refine ⟨fun m n => ∃ j : Nat, n = j ∧ j + m = a.length ∧ pre a b = j + pre (a.drop j) (b.drop j), a.length, ⟨0, rfl, by omega, by simp⟩, ?_⟩
  rintro m _ ⟨j, rfl, hm, he⟩
  refine ⟨_, hv.len, _, hw.len, fun hlt => ?_, fun hge => ?_⟩
  · have hlt2 : (j : Int) < a.length ∧ (j : Int) < b.length := by
      unfold imin at hlt; split at hlt <;> omega
    have h1j : j < a.length := by omega
    have h2j : j < b.length := by omega
    rw [List.drop_eq_getElem_cons h1j, List.drop_eq_getElem_cons h2j, pre] at he
    refine ⟨_, _, _, _, (hv.keep k12).enc h1j, _, _, _, _, (hw.keep k12).enc h2j, fun hc => ?_, fun hc => ?_⟩
    · refine ⟨m - 1, by omega, j + 1, wsucc h1j hv.small, by omega, ?_⟩
      have : a[j] = b[j] := by
        have e1 := hc.1; have e2 := hc.2.1; have e3 := hc.2.2.1; have e4 := hc.2.2.2.1
        cases ha : a[j]; cases hb : b[j]
        rw [ha, hb] at e1 e2 e3 e4
        simp only at e1 e2 e3 e4
        rw [e1, e2, e3, e4]
      rw [if_pos this] at he
      omega
    · rw [if_neg (fun e => hc (by rw [e]; exact ⟨rfl, rfl, rfl, rfl, trivial⟩))] at he
      have := hq H12 k12
      rw [he] at this; exact this
  · have hend : a.drop j = [] ∨ b.drop j = [] := by
      by_cases h : j < a.length
      · right; exact List.drop_eq_nil_of_le (by unfold imin at hge; split at hge <;> omega)
      · left; exact List.drop_eq_nil_of_le (by omega)
    have h0 : pre (a.drop j) (b.drop j) = 0 := by
      rcases hend with e | e
      · rw [e]; simp [pre]
      · rw [e]; cases a.drop j <;> simp [pre]
    have := hq H12 k12
    rw [he, h0] at this; exact this

/-- Both: the digests of a log. -/
abbrev ChainsC (F : Nat → Option RFunc) (f : Nat) : Prop := ∀ {fl H Q v} {l : List Rec}, Arr tRec H v l → fl ≤ H.length → l.length ≤ 2 ^ 20 → (∀ w H', Keep H.length H H' → Acc H tInt H' w (l.map (·.c)) → Q w H') → Ret F fl f [v] H Q
theorem chains_c {f : Nat} (hF : F f = some rf_audit_chains) : ChainsC F f := fun {fl H Q v l} hv hfl hl hq => by
  refine v_audit_chains hF _ ?_
  refine ⟨_, hv.len, fun m i out H' => ∃ j : Nat, i = j ∧ j + m = l.length ∧ Keep H.length H H' ∧ Acc H tInt H' out ((l.take j).map (·.c)), l.length, ⟨0, rfl, by omega, Keep.refl H, Acc.nil⟩, ?_⟩
  rintro m _ out H' ⟨j, rfl, hm, hk, ho⟩
  refine ⟨fun hlt => ?_, fun hge => ?_⟩
  · have hj : j < l.length := by omega
    refine ⟨_, _, _, _, (hv.keep hk).enc hj, ?_⟩
    intro H15 d15 b16 H17 n17
    obtain ⟨v18, H19, p1, p2, p3, _⟩ := (ho.keep d15.keep).push (a := l[j].c) (fl := fl) (free := true) (bytes := 8) rfl n17 (hk.call d15.keep) hfl (by simp; omega) (by decide)
    refine ⟨v18, H19, p1, m - 1, by omega, j + 1, wsucc hj hv.small, by omega, p3, ?_⟩
    rw [List.take_succ_eq_append_getElem hj, List.map_append]; exact p2
  · rw [List.take_of_length_le (by omega)] at ho
    exact hq out H' hk ho

end Au
end Go.RM

/-
  The tree over a list of digests: its root, a leaf's proof, and what a proof implies.
-/
namespace Go.RM
set_option linter.unusedSimpArgs false
set_option linter.unusedVariables false
namespace Au

/-- The largest power of two below a number. -/
def splitP (n : Nat) : Nat := 2 ^ (blen (n - 1) - 1)

theorem split_all : (List.range 65).all (fun n => decide (n < 2) || (decide (1 ≤ splitP n) && decide (splitP n < n) && decide (1 ≤ blen (n - 1)) && decide (blen (n - 1) ≤ 7))) = true := by decide +kernel
theorem split_in {n : Nat} (h1 : 2 ≤ n) (h2 : n ≤ 64) : (1 ≤ splitP n ∧ splitP n < n) ∧ 1 ≤ blen (n - 1) ∧ blen (n - 1) ≤ 7 := by
  have := List.all_eq_true.1 split_all n (List.mem_range.2 (by omega))
  simp only [Bool.or_eq_true, Bool.and_eq_true, decide_eq_true_eq] at this
  omega

/-- The root of a list; the number bounds its length. -/
def rootN : Nat → List Int → Int
  | 0, _ => 0
  | m + 1, l =>
    if l.length = 0 then 0
    else if l.length = 1 then l.headD 0
    else pairD (rootN m (l.take (splitP l.length))) (rootN m (l.drop (splitP l.length)))
def rootP (l : List Int) : Int := rootN 64 l

def nextP : List Int × Bool → Int × (List Int × Bool)
  | ([], _) => (0, ([], false))
  | (d :: p, ok) => (d, (p, ok))

def incN : Nat → Nat → Nat → Int → List Int × Bool → Int × (List Int × Bool)
  | 0, _, _, leaf, s => (leaf, s)
  | m + 1, n, i, leaf, s =>
    if n ≤ 1 then (leaf, s)
    else if i < splitP n then
      (pairD (incN m (splitP n) i leaf s).1 (nextP (incN m (splitP n) i leaf s).2).1, (nextP (incN m (splitP n) i leaf s).2).2)
    else
      (pairD (nextP (incN m (n - splitP n) (i - splitP n) leaf s).2).1 (incN m (n - splitP n) (i - splitP n) leaf s).1, (nextP (incN m (n - splitP n) (i - splitP n) leaf s).2).2)
def incP (n i : Nat) (leaf : Int) (s : List Int × Bool) : Int × (List Int × Bool) := incN 64 n i leaf s

theorem rootN_eq : ∀ {m k : Nat} {l : List Int}, l.length ≤ m → l.length ≤ k → l.length ≤ 64 → rootN m l = rootN k l := by
  intro m
  induction m with
  | zero => intro k l h1 h2 _
            have : l.length = 0 := by omega
            cases k with
            | zero => rfl
            | succ k => rw [rootN, rootN, if_pos this]
  | succ m ih =>
    intro k l h1 h2 h3
    cases k with
    | zero => rw [rootN, rootN, if_pos (by omega)]
    | succ k =>
      rw [rootN, rootN]
      split
      · rfl
      · split
        · rfl
        · obtain ⟨⟨s1, s2⟩, _⟩ := split_in (n := l.length) (by omega) h3
          rw [ih (k := k) (l := l.take (splitP l.length)) (by simp; omega) (by simp; omega) (by simp; omega), ih (k := k) (l := l.drop (splitP l.length)) (by simp; omega) (by simp; omega) (by simp; omega)]

theorem rootP_one {l : List Int} (h : l.length = 1) : rootP l = l.headD 0 := by
  unfold rootP
  rw [rootN, if_neg (by omega), if_pos h]
theorem rootP_two {l : List Int} (h1 : 2 ≤ l.length) (h2 : l.length ≤ 64) : rootP l = pairD (rootP (l.take (splitP l.length))) (rootP (l.drop (splitP l.length))) := by
  obtain ⟨⟨s1, s2⟩, _⟩ := split_in (n := l.length) h1 h2
  unfold rootP
  rw [rootN, if_neg (by omega), if_neg (by omega), rootN_eq (k := 64) (m := 63) (l := l.take (splitP l.length)) (by simp; omega) (by simp; omega) (by simp; omega), rootN_eq (k := 64) (m := 63) (l := l.drop (splitP l.length)) (by simp; omega) (by simp; omega) (by simp; omega)]

theorem incN_eq : ∀ {m k n i : Nat} {leaf : Int} {s : List Int × Bool}, n ≤ m → n ≤ k → n ≤ 64 → incN m n i leaf s = incN k n i leaf s := by
  intro m
  induction m with
  | zero => intro k n i leaf s h1 h2 _
            cases k with
            | zero => rfl
            | succ k => rw [incN, incN, if_pos (by omega)]
  | succ m ih =>
    intro k n i leaf s h1 h2 h3
    cases k with
    | zero => rw [incN, incN, if_pos (by omega)]
    | succ k =>
      rw [incN, incN]
      split
      · rfl
      · obtain ⟨⟨s1, s2⟩, _⟩ := split_in (n := n) (by omega) h3
        rw [ih (k := k) (n := splitP n) (by omega) (by omega) (by omega), ih (k := k) (n := n - splitP n) (by omega) (by omega) (by omega)]

theorem incP_one {n i : Nat} {leaf : Int} {s : List Int × Bool} (h : n ≤ 1) : incP n i leaf s = (leaf, s) := by
  unfold incP; rw [incN, if_pos h]
theorem incP_left {n i : Nat} {leaf : Int} {s : List Int × Bool} (h1 : 2 ≤ n) (h2 : n ≤ 64) (hi : i < splitP n) : incP n i leaf s = (pairD (incP (splitP n) i leaf s).1 (nextP (incP (splitP n) i leaf s).2).1, (nextP (incP (splitP n) i leaf s).2).2) := by
  obtain ⟨⟨s1, s2⟩, _⟩ := split_in (n := n) h1 h2
  unfold incP
  rw [incN, if_neg (by omega), if_pos hi, incN_eq (m := 63) (k := 64) (by omega) (by omega) (by omega)]
theorem incP_right {n i : Nat} {leaf : Int} {s : List Int × Bool} (h1 : 2 ≤ n) (h2 : n ≤ 64) (hi : ¬ i < splitP n) : incP n i leaf s = (pairD (nextP (incP (n - splitP n) (i - splitP n) leaf s).2).1 (incP (n - splitP n) (i - splitP n) leaf s).1, (nextP (incP (n - splitP n) (i - splitP n) leaf s).2).2) := by
  obtain ⟨⟨s1, s2⟩, _⟩ := split_in (n := n) h1 h2
  unfold incP
  rw [incN, if_neg (by omega), if_neg hi, incN_eq (m := 63) (k := 64) (by omega) (by omega) (by omega)]

theorem rootN_dig : ∀ {m : Nat} {l : List Int}, (∀ x ∈ l, dig x = true) → dig (rootN m l) = true := by
  intro m
  induction m with
  | zero => intro l _; rfl
  | succ m ih =>
    intro l h
    rw [rootN]
    split
    · rfl
    · split
      · cases l with
        | nil => rfl
        | cons x l => exact h x (by simp)
      · exact pairD_dig _ _
theorem rootP_dig {l : List Int} (h : ∀ x ∈ l, dig x = true) : dig (rootP l) = true := rootN_dig h

def digs (s : List Int × Bool) : Prop := ∀ x ∈ s.1, dig x = true
theorem nextP_dig {s : List Int × Bool} (h : digs s) : dig (nextP s).1 = true ∧ digs (nextP s).2 := by
  obtain ⟨p, ok⟩ := s
  cases p with
  | nil => exact ⟨rfl, fun x hx => by cases hx⟩
  | cons d p => exact ⟨h d (by simp), fun x hx => h x (List.mem_cons_of_mem _ hx)⟩
theorem incN_dig : ∀ {m n i : Nat} {leaf : Int} {s : List Int × Bool}, dig leaf = true → digs s → dig (incN m n i leaf s).1 = true ∧ digs (incN m n i leaf s).2 := by
  intro m
  induction m with
  | zero => intro n i leaf s h1 h2; exact ⟨h1, h2⟩
  | succ m ih =>
    intro n i leaf s h1 h2
    rw [incN]
    split
    · exact ⟨h1, h2⟩
    · split
      · exact ⟨pairD_dig _ _, (nextP_dig (ih h1 h2).2).2⟩
      · exact ⟨pairD_dig _ _, (nextP_dig (ih h1 h2).2).2⟩
theorem incP_dig {n i : Nat} {leaf : Int} {s : List Int × Bool} (h1 : dig leaf = true) (h2 : digs s) : dig (incP n i leaf s).1 = true ∧ digs (incP n i leaf s).2 := incN_dig h1 h2

/-! ### Faults -/

def df : Int → List Int → Int × Int
  | _, [] => (0, 0)
  | i, d :: l => if dig d = true then df (i + 1) l else (3, i)
def leafF (l : List Int) : Int × Int := if l.length > 64 then (2, -1) else df 0 l
def proofF (l : List Int) : Int × Int := if l.length > 64 then (2, -1) else df 4 l

theorem df_ok {l : List Int} : ∀ {i}, df i l = (0, 0) → ∀ x ∈ l, dig x = true := by
  induction l with
  | nil => intro i _ x h; cases h
  | cons d l ih =>
    intro i h x hx
    rw [df] at h
    split at h
    · rcases List.mem_cons.1 hx with rfl | hx
      · assumption
      · exact ih h x hx
    · simp at h
theorem df_of {l : List Int} : ∀ {i}, (∀ x ∈ l, dig x = true) → df i l = (0, 0) := by
  induction l with
  | nil => intro i _; rfl
  | cons d l ih => intro i h; rw [df, if_pos (h d (by simp))]; exact ih fun x hx => h x (List.mem_cons_of_mem _ hx)
theorem leafF_of {l : List Int} (h1 : l.length ≤ 64) (h2 : ∀ x ∈ l, dig x = true) : leafF l = (0, 0) := by
  unfold leafF; rw [if_neg (by omega)]; exact df_of h2
theorem leafF_ok {l : List Int} (h : leafF l = (0, 0)) : l.length ≤ 64 ∧ ∀ x ∈ l, dig x = true := by
  unfold leafF at h
  split at h
  · simp at h
  · exact ⟨by omega, df_ok h⟩
theorem proofF_ok {l : List Int} (h : proofF l = (0, 0)) : l.length ≤ 64 ∧ ∀ x ∈ l, dig x = true := by
  unfold proofF at h
  split at h
  · simp at h
  · exact ⟨by omega, df_ok h⟩

/-- The ranges of Verify's arguments. -/
def rangF : Int → List Bool → Int × Int
  | _, [] => (0, 0)
  | i, b :: l => if b = true then rangF (i + 1) l else (3, i)

def verF (root n i leaf : Int) (p : List Int) : Int × Int :=
  if rangF 0 [dig root, decide (n ≥ 1) && decide (n ≤ 64), decide (i ≥ 0) && decide (i < n), dig leaf] = (0, 0) then proofF p
  else rangF 0 [dig root, decide (n ≥ 1) && decide (n ≤ 64), decide (i ≥ 0) && decide (i < n), dig leaf]
def verR (root n i leaf : Int) (p : List Int) : Bool :=
  if verF root n i leaf p = (0, 0) then
    ((incP n.toNat i.toNat leaf (p, true)).2.2 && (incP n.toNat i.toNat leaf (p, true)).2.1.isEmpty) && (incP n.toNat i.toNat leaf (p, true)).1 == root
  else false

end Au
end Go.RM

/-
  The tree over a list of digests, as contracts.
-/
namespace Go.RM
set_option linter.unusedSimpArgs false
set_option linter.unusedVariables false
namespace Au
variable {F : Nat → Option RFunc}

theorem split_val : (List.range 65).all (fun n => decide (n < 2) || (decide (0 ≤ IntKind.wrap .i64 ((blen (n - 1) : Int) - 1)) && decide (IntKind.wrap .i64 (1 * 2 ^ (Min.min (Int.toNat (IntKind.wrap .i64 ((blen (n - 1) : Int) - 1))) (IntKind.bits .i64))) = (splitP n : Int)))) = true := by decide +kernel

abbrev SplitC (F : Nat → Option RFunc) (f : Nat) : Prop := ∀ {fl H Q} {n : Nat}, 2 ≤ n → n ≤ 64 → Q (i64 (splitP n)) H → Ret F fl f [i64 n] H Q
theorem split_c {f n1 : Nat} (hF : F f = some (rf_translog_split n1)) (h1 : LenC F n1) : SplitC F f := fun {fl H Q n} a b hq => by
  refine v_translog_split hF _ ?_
  have e1 : IntKind.wrap .i64 ((n : Int) - 1) = ((n - 1 : Nat) : Int) := by rw [wrap64 (by omega) (by omega)]; omega
  have e2 : IntKind.wrap .u64 ((n - 1 : Nat) : Int) = ((n - 1 : Nat) : Int) := u64_in (by omega) (by omega)
  rw [e1, e2]
  have := List.all_eq_true.1 split_val n (List.mem_range.2 (by omega))
  simp only [Bool.or_eq_true, Bool.and_eq_true, decide_eq_true_eq] at this
  have this := this.resolve_left (by omega)
  refine h1 (by omega) ⟨_, rfl, this.1, ?_⟩
  rw [this.2]; exact hq

abbrev TPairC (F : Nat → Option RFunc) (f : Nat) : Prop := ∀ {fl H Q a b}, fl ≤ H.length → dig a = true → dig b = true → (∀ H', Keep H.length H H' → Q (i64 (pairD a b)) H') → Ret F fl f [i64 a, i64 b] H Q
theorem tpair_c {f n1 : Nat} (hF : F f = some (rf_translog_pair n1)) (h1 : PairC F n1) : TPairC F f := fun {fl H Q a b} hfl ha hb hq => by
  refine v_translog_pair hF _ _ ?_
  refine h1 ha hb fun H5 k5 => ⟨_, _, _, rfl, ?_⟩
  intro b7 H8 n8
  obtain ⟨H9, p1, p2, p3⟩ := Box.put (fl := fl) (v := .agg [i64 0, i64 0]) (n := 2) (o := 0) n8.box rfl (by decide) rfl (by rw [n8.b_eq]; exact Nat.le_trans hfl k5.len)
  refine ⟨H9, p1, hq H9 ((k5.call n8.keep).tr (p3.keep (by rw [n8.b_eq]; exact k5.len) (Nat.le_trans k5.len n8.keep.len)))⟩

abbrev LeafC (F : Nat → Option RFunc) (f : Nat) : Prop := ∀ {fl H Q v} {l : List Int}, Ints H v l → (∀ H', Keep H.length H H' → Q (flt (leafF l).1 (leafF l).2) H') → Ret F fl f [v] H Q
theorem leafFault_c {f n1 : Nat} (hF : F f = some (rf_translog_fault n1)) (h1 : DigC F n1) : LeafC F f := fun {fl H Q v l} hv hq => by
  refine v_translog_fault hF _ ?_
  intro H1 d1
  refine ⟨_, hv.len, fun hgt => ?_, fun hle => ⟨_, hv.len, ?_⟩⟩
  · have := hq H1 d1.keep
    unfold leafF at this
    rw [if_pos (by omega)] at this; exact this
  unfold leafF at hq
  rw [if_neg (by omega)] at hq
  refine ⟨fun m _ _ i H' => ∃ j : Nat, i = j ∧ j + m = l.length ∧ Keep H.length H H' ∧ df j (l.drop j) = df 0 l, l.length, ⟨0, rfl, by omega, d1.keep, by rw [List.drop_zero]; rfl⟩, ?_⟩
  rintro m _ _ _ H' ⟨j, rfl, hm, hk, he⟩
  refine ⟨fun hlt => ?_, fun hge => ?_⟩
  · have hj : j < l.length := by omega
    rw [List.drop_eq_getElem_cons hj, df] at he
    refine ⟨_, (hv.keep hk).int hj, h1 ⟨_, rfl, fun hno => ?_, fun hyes => ⟨m - 1, by omega, j + 1, wsucc hj hv.small, by omega, hk, ?_⟩⟩⟩
    · have := hq H' hk
      rw [← he, if_neg hno] at this; exact this
    · rw [if_pos (by simpa using hyes)] at he; exact he
  · rw [List.drop_eq_nil_of_le (by omega), df] at he
    have := hq H' hk
    rw [← he] at this; exact this

abbrev PrfC (F : Nat → Option RFunc) (f : Nat) : Prop := ∀ {fl H Q v} {l : List Int}, Ints H v l → (∀ H', Keep H.length H H' → Q (flt (proofF l).1 (proofF l).2) H') → Ret F fl f [v, i64 4] H Q
theorem proofFault_c {f n1 : Nat} (hF : F f = some (rf_translog_proofFault n1)) (h1 : DigC F n1) : PrfC F f := fun {fl H Q v l} hv hq => by
  refine v_translog_proofFault hF _ _ ?_
  intro H1 d1
  refine ⟨_, hv.len, fun hgt => ?_, fun hle => ⟨_, hv.len, ?_⟩⟩
  · have := hq H1 d1.keep
    unfold proofF at this
    rw [if_pos (by omega)] at this; exact this
  unfold proofF at hq
  rw [if_neg (by omega)] at hq
  refine ⟨fun m _ _ i H' => ∃ j : Nat, i = j ∧ j + m = l.length ∧ Keep H.length H H' ∧ df (4 + j) (l.drop j) = df 4 l, l.length, ⟨0, rfl, by omega, d1.keep, by rw [List.drop_zero]; rfl⟩, ?_⟩
  rintro m _ _ _ H' ⟨j, rfl, hm, hk, he⟩
  refine ⟨fun hlt => ?_, fun hge => ?_⟩
  · have hj : j < l.length := by omega
    rw [List.drop_eq_getElem_cons hj, df] at he
    refine ⟨_, (hv.keep hk).int hj, h1 ⟨_, rfl, fun hno => ?_, fun hyes => ⟨m - 1, by omega, j + 1, wsucc hj hv.small, by omega, hk, ?_⟩⟩⟩
    · have := hq H' hk
      rw [wrap64 (by omega) (by omega)]
      rw [← he, if_neg hno] at this; exact this
    · rw [if_pos (by simpa using hyes)] at he
      rw [← he]; congr 1
  · rw [List.drop_eq_nil_of_le (by omega), df] at he
    have := hq H' hk
    rw [← he] at this; exact this

abbrev RangC (F : Nat → Option RFunc) (f : Nat) : Prop := ∀ {fl H Q v} {l : List Bool}, Arr tBool H v l → (∀ H', Keep H.length H H' → Q (flt (rangF 0 l).1 (rangF 0 l).2) H') → Ret F fl f [v] H Q
theorem ranges_c {f : Nat} (hF : F f = some rf_translog_ranges) : RangC F f := fun {fl H Q v l} hv hq => by
  refine v_translog_ranges hF _ ?_
  intro H1 d1
  refine ⟨_, hv.len, fun m _ _ i => ∃ j : Nat, i = j ∧ j + m = l.length ∧ rangF j (l.drop j) = rangF 0 l, l.length, ⟨0, rfl, by omega, by rw [List.drop_zero]; rfl⟩, ?_⟩
  rintro m _ _ _ ⟨j, rfl, hm, he⟩
  refine ⟨fun hlt => ?_, fun hge => ?_⟩
  · have hj : j < l.length := by omega
    rw [List.drop_eq_getElem_cons hj, rangF] at he
    refine ⟨_, (hv.keep d1.keep).bool hj, fun hno => ?_, fun hyes => ⟨m - 1, by omega, j + 1, wsucc hj hv.small, by omega, ?_⟩⟩
    · have := hq H1 d1.keep
      rw [← he, if_neg hno] at this; exact this
    · rw [if_pos (by simpa using hyes)] at he; exact he
  · rw [List.drop_eq_nil_of_le (by omega), rangF] at he
    have := hq H1 d1.keep
    rw [← he] at this; exact this

/-! ### Root and Prove -/

abbrev RootC (F : Nat → Option RFunc) (f : Nat) : Prop := ∀ {fl H Q v} {l : List Int}, Ints H v l → fl ≤ H.length → l.length ≤ 64 → (∀ x ∈ l, dig x = true) → (∀ H', Keep H.length H H' → Q (i64 (rootP l)) H') → Ret F fl f [v] H Q
theorem root_c {f n1 n2 : Nat} (hF : F f = some (rf_translog_root n1 f n2)) (h1 : SplitC F n1) (h2 : TPairC F n2) : RootC F f := by
  have key : ∀ (n : Nat) {fl : Nat} {H : Heap} {Q : AV → Heap → Prop} {v : AV} {l : List Int}, l.length = n → Ints H v l → fl ≤ H.length → l.length ≤ 64 → (∀ x ∈ l, dig x = true) → (∀ H', Keep H.length H H' → Q (i64 (rootP l)) H') → Ret F fl f [v] H Q := by
    intro n
    induction n using Nat.strongRecOn with
    | _ n ih =>
      intro fl H Q v l hn hv hfl h64 hd hq
      refine v_translog_root hF _ ?_
      refine ⟨_, hv.len, fun h0 => ?_, fun hne0 => ⟨fun h1 => ?_, fun hne1 => ?_⟩⟩
      · have : l = [] := List.eq_nil_of_length_eq_zero (by omega)
        subst this
        exact hq H (Keep.refl H)
      · have hl : l.length = 1 := by omega
        have := hq H (Keep.refl H)
        rw [rootP_one hl] at this
        refine ⟨_, hv.int (i := 0) (by omega), ?_⟩
        obtain ⟨x, rfl⟩ := List.length_eq_one_iff.1 hl
        exact this
      · obtain ⟨⟨s1, s2⟩, _⟩ := split_in (n := l.length) (by omega) h64
        refine h1 (by omega) h64 ⟨_, rfl, ?_⟩
        obtain ⟨w, w1, w2⟩ := hv.upto (n := splitP l.length) (by omega)
        refine ⟨w, w1, ih _ (by simp; omega) (l := l.take (splitP l.length)) rfl w2 hfl (by simp; omega) (fun x hx => hd x (List.mem_of_mem_take hx)) fun H9 k9 => ⟨_, rfl, ?_⟩⟩
        refine h1 (by omega) h64 ⟨_, rfl, ?_⟩
        obtain ⟨w', w1', w2'⟩ := (hv.keep k9).from (n := splitP l.length) (by omega)
        refine ⟨w', w1', ih _ (by simp; omega) (l := l.drop (splitP l.length)) rfl w2' (Nat.le_trans hfl k9.len) (by simp; omega) (fun x hx => hd x (List.mem_of_mem_drop hx)) fun H16 k16 => ⟨_, rfl, ?_⟩⟩
        refine h2 (Nat.le_trans hfl (k9.call k16).len) (rootP_dig fun x hx => hd x (List.mem_of_mem_take hx)) (rootP_dig fun x hx => hd x (List.mem_of_mem_drop hx)) fun H19 k19 => ⟨_, rfl, ?_⟩
        have := hq H19 ((k9.call k16).call k19)
        rw [rootP_two (by omega) h64] at this; exact this
  exact fun {fl H Q v l} hv hfl h64 hd hq => key _ rfl hv hfl h64 hd hq

theorem tInt_plain : tInt.Plain := fun h => h

end Au
end Go.RM

/-
  Proofs of the tree: how they are read and checked, as contracts; checkpoints of a log.
-/
namespace Go.RM
set_option linter.unusedSimpArgs false
set_option linter.unusedVariables false
namespace Au
variable {F : Nat → Option RFunc}

abbrev RootTC (F : Nat → Option RFunc) (f : Nat) : Prop := ∀ {fl H Q v} {l : List Int}, Ints H v l → fl ≤ H.length → (∀ H', Keep H.length H H' → Q (.tuple [i64 (if leafF l = (0, 0) then rootP l else 0), flt (leafF l).1 (leafF l).2]) H') → Ret F fl f [v] H Q
theorem rootT_c {f n1 n2 : Nat} (hF : F f = some (rf_translog_Root n1 n2)) (h1 : LeafC F n1) (h2 : RootC F n2) : RootTC F f := fun {fl H Q v l} hv hfl hq => by
  refine v_translog_Root hF _ ?_
  intro H1 d1
  refine h1 (hv.keep d1.keep) fun H4 k4 => ⟨_, _, rfl, ?_⟩
  intro H6 d6
  have k6 := (d1.keep.call k4).call d6.keep
  refine ⟨fun hne => ?_, fun heq => ?_⟩
  · have := hq H6 k6
    rw [if_neg (pair_ne hne)] at this; exact this
  · have h0 := pair_eq heq
    obtain ⟨a, b⟩ := leafF_ok h0
    refine h2 (hv.keep k6) (Nat.le_trans hfl k6.len) a b fun H8 k8 => ⟨_, rfl, ?_⟩
    have := hq H8 (k6.call k8)
    rw [if_pos h0, h0] at this; exact this

/-! ### The reader -/

structure RdSt (H0 H : Heap) (rb : Nat) (s : List Int × Bool) : Prop where
  out : ∃ pv, Box H rb [pv, .bool s.2] ∧ Arr tInt H0 pv s.1
  k : Keep H0.length H0 H
  low : H0.length ≤ rb

theorem RdSt.keep {H0 H H' : Heap} {rb : Nat} {s : List Int × Bool} (h : RdSt H0 H rb s) (k : Keep H.length H H') : RdSt H0 H' rb s := by
  obtain ⟨pv, h1, h2⟩ := h.out
  exact ⟨⟨pv, h1.frame (k.get rb h1.lt), h2⟩, h.k.call k, h.low⟩

theorem from_keep {H0 H : Heap} {v : AV} {l : List Int} (h : Arr tInt H0 v l) (k : Keep H0.length H0 H) {n : Nat} (hn : n ≤ l.length) : ∃ w, rslice H 1 v (some (.int .i64 (n : Int))) none none = some w ∧ Arr tInt H0 w (l.drop n) := by
  obtain ⟨w, h1, h2⟩ := h.from hn
  obtain ⟨w', h1', _⟩ := (h.keep k).from hn
  have e : w' = w := by
    have h1 : rslice H0 1 v (some (.int .i64 (n : Int))) none none = some w := h1
    have h1' : rslice H 1 v (some (.int .i64 (n : Int))) none none = some w' := h1'
    unfold rslice at h1 h1'
    split at h1
    · split at h1
      · rename_i e1 e2 e3; simp only [e1, e2, e3, Option.some.injEq] at h1 h1'; rw [← h1, ← h1']
      · simp at h1
    · split at h1
      · rename_i l1 l2 l3 e1 e2 e3
        simp only [e1, e2, e3] at h1'
        split at h1
        · split at h1'
          · simp only [Option.some.injEq] at h1 h1'; rw [← h1, ← h1']
          · simp at h1'
        · simp at h1
      · simp at h1
    · simp at h1
  subst e
  exact ⟨w', h1', h2⟩

abbrev NextC (F : Nat → Option RFunc) (f : Nat) : Prop := ∀ {fl H0 H Q rb} {s : List Int × Bool}, RdSt H0 H rb s → fl ≤ H0.length → (∀ H', RdSt H0 H' rb (nextP s).2 → Q (i64 (nextP s).1) H') → Ret F fl f [.ptr rb 0] H Q
theorem next_c {f : Nat} (hF : F f = some rf_translog_reader_next) : NextC F f := fun {fl H0 H Q rb s} hs hfl hq => by
  refine v_translog_reader_next hF _ _ ?_
  obtain ⟨pv, hb, hp⟩ := hs.out
  obtain ⟨p, ok⟩ := s
  refine ⟨pv, hb.load (o := 0) rfl, _, hp.len, fun h0 => ?_, fun hne => ⟨pv, hb.load (o := 0) rfl, ?_⟩⟩
  · have : p = [] := List.eq_nil_of_length_eq_zero (by simpa using h0)
    subst this
    obtain ⟨H4, p1, p2, p3⟩ := hb.put (fl := fl) (v := .bool false) (n := 1) (o := 1) rfl (by simp) rfl (Nat.le_trans hfl hs.low)
    exact ⟨H4, p1, hq H4 ⟨⟨pv, p2, hp⟩, hs.k.tr (p3.keep hs.low (Nat.le_trans hs.k.low hs.k.len)), hs.low⟩⟩
  · cases p with
    | nil => exact absurd rfl hne
    | cons d p =>
      have hp' : Arr tInt H pv (d :: p) := hp.keep hs.k
      refine ⟨d, hp'.int (i := 0) (by simp), pv, hb.load (o := 0) rfl, ?_⟩
      obtain ⟨w, w1, w2⟩ := from_keep hp hs.k (n := 1) (by simp)
      obtain ⟨H4, p1, p2, p3⟩ := hb.put (fl := fl) (v := w) (n := 1) (o := 0) (by rw [w2.scal.1]; rfl) (by simp) (by rw [w2.scal.1, List.all_cons, w2.scal.2]; rfl) (Nat.le_trans hfl hs.low)
      refine ⟨w, w1, H4, p1, hq H4 ⟨⟨w, ?_, w2⟩, hs.k.tr (p3.keep hs.low (Nat.le_trans hs.k.low hs.k.len)), hs.low⟩⟩
      rw [w2.scal.1] at p2
      exact p2

abbrev DoneC (F : Nat → Option RFunc) (f : Nat) : Prop := ∀ {fl H0 H Q rb} {s : List Int × Bool}, RdSt H0 H rb s → Q (.bool (s.2 && s.1.isEmpty)) H → Ret F fl f [.ptr rb 0] H Q
theorem done_c {f : Nat} (hF : F f = some rf_translog_reader_done) : DoneC F f := fun {fl H0 H Q rb s} hs hq => by
  refine v_translog_reader_done hF _ _ ?_
  obtain ⟨pv, hb, hp⟩ := hs.out
  obtain ⟨p, ok⟩ := s
  refine ⟨ok, hb.load (o := 1) rfl, fun h => ⟨pv, hb.load (o := 0) rfl, _, hp.len, ?_⟩, fun h => ?_⟩
  · subst h
    have : (((p.length : Int)) == 0) = p.isEmpty := by
      cases p with
      | nil => rfl
      | cons _ _ => simp; omega
    rw [this]; simpa using hq
  · have : ok = false := by simpa using h
    subst this; exact hq

abbrev IncC (F : Nat → Option RFunc) (f : Nat) : Prop := ∀ {fl H0 H Q rb n i leaf} {s : List Int × Bool}, RdSt H0 H rb s → fl ≤ H0.length → 1 ≤ n → n ≤ 64 → i < n → dig leaf = true → digs s → (∀ H', RdSt H0 H' rb (incP n i leaf s).2 → Q (i64 (incP n i leaf s).1) H') → Ret F fl f [.ptr rb 0, i64 (n : Nat), i64 (i : Nat), i64 leaf] H Q
theorem include_c {f n1 n2 n3 : Nat} (hF : F f = some (rf_translog_reader_include n1 f n2 n3)) (h1 : SplitC F n1) (h2 : NextC F n2) (h3 : TPairC F n3) : IncC F f := by
  have key : ∀ (n : Nat) {fl : Nat} {H0 H : Heap} {Q : AV → Heap → Prop} {rb i : Nat} {leaf : Int} {s : List Int × Bool}, RdSt H0 H rb s → fl ≤ H0.length → 1 ≤ n → n ≤ 64 → i < n → dig leaf = true → digs s → (∀ H', RdSt H0 H' rb (incP n i leaf s).2 → Q (i64 (incP n i leaf s).1) H') → Ret F fl f [.ptr rb 0, i64 (n : Nat), i64 (i : Nat), i64 leaf] H Q := by
    intro n
    induction n using Nat.strongRecOn with
    | _ n ih =>
      intro fl H0 H Q rb i leaf s hs hfl hn1 h64 hi hd hds hq
      refine v_translog_reader_include hF _ _ _ _ _ ?_
      refine ⟨fun h => ?_, fun hne => ?_⟩
      · have := hq H
        rw [incP_one (by omega)] at this
        exact this hs
      · obtain ⟨⟨s1, s2⟩, _⟩ := split_in (n := n) (by omega) h64
        refine h1 (by omega) h64 ⟨_, rfl, fun hlt => ?_, fun hge => ?_⟩
        · obtain ⟨g1, g2⟩ := incP_dig (n := splitP n) (i := i) hd hds
          refine ih _ s2 hs hfl s1 (by omega) (by omega) hd hds fun H9 s9 => ⟨_, rfl, ?_⟩
          refine h2 s9 hfl fun H12 s12 => ⟨_, rfl, ?_⟩
          refine h3 (Nat.le_trans hfl (Nat.le_trans s12.k.low s12.k.len)) g1 (nextP_dig g2).1 fun H15 k15 => ⟨_, rfl, ?_⟩
          have := hq H15
          rw [incP_left (by omega) h64 (by omega)] at this
          exact this (s12.keep k15)
        · have e1 : IntKind.wrap .i64 ((n : Int) - (splitP n : Int)) = ((n - splitP n : Nat) : Int) := by rw [wrap64 (by omega) (by omega)]; omega
          have e2 : IntKind.wrap .i64 ((i : Int) - (splitP n : Int)) = ((i - splitP n : Nat) : Int) := by rw [wrap64 (by omega) (by omega)]; omega
          rw [e1, e2]
          obtain ⟨g1, g2⟩ := incP_dig (n := n - splitP n) (i := i - splitP n) hd hds
          refine ih _ (by omega) hs hfl (by omega) (by omega) (by omega) hd hds fun H9 s9 => ⟨_, rfl, ?_⟩
          refine h2 s9 hfl fun H12 s12 => ⟨_, rfl, ?_⟩
          refine h3 (Nat.le_trans hfl (Nat.le_trans s12.k.low s12.k.len)) (nextP_dig g2).1 g1 fun H15 k15 => ⟨_, rfl, ?_⟩
          have := hq H15
          rw [incP_right (by omega) h64 (by omega)] at this
          exact this (s12.keep k15)
  exact fun {fl H0 H Q rb n i leaf s} => key n

theorem rang4 {a b c d : Bool} (h : rangF 0 [a, b, c, d] = (0, 0)) : a = true ∧ b = true ∧ c = true ∧ d = true := by
  revert h; cases a <;> cases b <;> cases c <;> cases d <;> decide

abbrev VerC (F : Nat → Option RFunc) (f : Nat) : Prop := ∀ {fl H Q root n i leaf v} {p : List Int}, Ints H v p → fl ≤ H.length → (∀ H', Keep H.length H H' → Q (.tuple [.bool (verR root n i leaf p), flt (verF root n i leaf p).1 (verF root n i leaf p).2]) H') → Ret F fl f [i64 root, i64 n, i64 i, i64 leaf, v] H Q
theorem verify_c {f n1 n2 n3 n4 n5 : Nat} (hF : F f = some (rf_translog_Verify n1 n2 n3 n4 n5)) (h1 : DigC F n1) (h2 : RangC F n2) (h3 : PrfC F n3) (h4 : IncC F n4) (h5 : DoneC F n5) : VerC F f := fun {fl H Q root n i leaf v p} hv hfl hq => by
  refine v_translog_Verify hF _ _ _ _ _ ?_
  intro H5 d5
  refine h1 ⟨_, rfl, ?_⟩
  refine h1 ⟨_, rfl, ?_⟩
  intro b12 H13 n12
  have k13 := d5.keep.call n12.keep
  have har : Arr tBool H13 (.slice b12 0 4 (some 4)) [dig root, decide (n ≥ 1) && decide (n ≤ 64), decide (i ≥ 0) && decide (i < n), dig leaf] :=
    n12.arr (T := tBool) [[.bool (dig root)], [.bool (decide (n ≥ 1) && decide (n ≤ 64))], [.bool (decide (i ≥ 0) && decide (i < n))], [.bool (dig leaf)]] rfl ⟨rfl, rfl, rfl, rfl, trivial⟩ rfl
  refine h2 har fun H16 k16 => ⟨_, _, rfl, ?_⟩
  intro H18 d18
  have k18 := (k13.call k16).call d18.keep
  unfold verR verF at hq
  refine ⟨fun hne => ?_, fun heq => ?_⟩
  · have := hq H18 k18
    rw [if_neg (pair_ne hne), if_neg (pair_ne hne)] at this; exact this
  · have h0 := pair_eq heq
    rw [if_pos h0] at hq
    obtain ⟨r1, r2, r3, r4⟩ := rang4 h0
    simp only [Bool.and_eq_true, decide_eq_true_eq] at r2 r3
    refine h3 (hv.keep k18) fun H21 k21 => ⟨_, _, rfl, ?_⟩
    intro H23 d23
    have k23 := (k18.call k21).call d23.keep
    refine ⟨fun hne2 => ?_, fun heq2 => ?_⟩
    · have := hq H23 k23
      rw [if_neg (pair_ne hne2)] at this; exact this
    · have hp0 := pair_eq heq2
      obtain ⟨p1, p2⟩ := proofF_ok hp0
      refine ⟨hv.scal, ?_⟩
      intro b25 H26 n26
      obtain ⟨nn, rfl⟩ := Int.eq_ofNat_of_zero_le (show 0 ≤ n by omega)
      obtain ⟨ii, rfl⟩ := Int.eq_ofNat_of_zero_le (show 0 ≤ i by omega)
      have st : RdSt H23 H26 b25 (p, true) := ⟨⟨v, n26.box, hv.keep k23⟩, n26.keep, by rw [n26.b_eq]; exact Nat.le_refl _⟩
      refine h4 st (Nat.le_trans hfl k23.len) (by omega) (by omega) (by omega) r4 p2 fun H28 s28 => ⟨_, rfl, ?_⟩
      refine h5 s28 ⟨_, rfl, ?_⟩
      have := hq H28 (k23.call s28.k)
      rw [if_pos hp0, hp0] at this
      simp only [Int.toNat_natCast] at this
      exact this

/-! ### Checkpoints of a log -/

abbrev CheckC (F : Nat → Option RFunc) (f : Nat) : Prop := ∀ {fl H Q v} {l : List Rec}, Arr tRec H v l → fl ≤ H.length → (∀ H', Keep H.length H H' → Q (.tuple [i64 (if logF l = (0, 0) then rootP (l.map (·.c)) else 0), flt (logF l).1 (logF l).2]) H') → Ret F fl f [v] H Q

theorem log_leaf {l : List Rec} (h : logF l = (0, 0)) : leafF (l.map (·.c)) = (0, 0) := by
  refine leafF_of (by simp; have := (logF_ok h).1; omega) fun x hx => ?_
  obtain ⟨r, hr, rfl⟩ := List.mem_map.1 hx
  exact (inR_iff.1 (logF_in h r hr)).2.2.2.2.2.2

theorem checkpoint_c {f n1 n2 n3 : Nat} (hF : F f = some (rf_audit_Checkpoint n1 n2 n3)) (h1 : LogC F n1) (h2 : ChainsC F n2) (h3 : RootTC F n3) : CheckC F f := fun {fl H Q v l} hv hfl hq => by
  refine v_audit_Checkpoint hF _ ?_
  intro H1 d1
  refine h1 (hv.keep d1.keep) (Nat.le_trans hfl d1.keep.len) fun H4 k4 => ⟨_, _, rfl, ?_⟩
  intro H6 d6
  have k6 := (d1.keep.call k4).call d6.keep
  refine ⟨fun hne => ?_, fun heq => ?_⟩
  · have := hq H6 k6
    rw [if_neg (pair_ne hne)] at this; exact this
  · have h0 := pair_eq heq
    refine h2 (hv.keep k6) (Nat.le_trans hfl k6.len) (by have := (logF_ok h0).1; omega) fun w H8 k8 hw => ?_
    refine h3 (hw.arr k8) (Nat.le_trans hfl (k6.call k8).len) fun H13 k13 => ⟨_, _, _, rfl, ?_⟩
    have := hq H13 ((k6.call k8).call k13)
    rw [log_leaf h0, if_pos rfl]
    rw [h0, if_pos rfl] at this; exact this

def incF (c n i b : Int) (r : Rec) (p : List Int) : Int × Int := if inR r = true ∧ dig b = true then verF c n i r.c p else (3, -2)
def incR (c n i b : Int) (r : Rec) (p : List Int) : Bool := if inR r = true ∧ dig b = true then verR c n i r.c p && r.c == chainD b r else false
abbrev InclC (F : Nat → Option RFunc) (f : Nat) : Prop := ∀ {fl H Q c n i b v} {r : Rec} {p : List Int}, Ints H v p → fl ≤ H.length → (∀ H', Keep H.length H H' → Q (.tuple [.bool (incR c n i b r p), flt (incF c n i b r p).1 (incF c n i b r p).2]) H') → Ret F fl f [i64 c, i64 n, i64 i, i64 b, recV r, v] H Q
theorem includes_c {f n1 n2 n3 n4 : Nat} (hF : F f = some (rf_audit_Includes n1 n2 n3 n4)) (h1 : InRC F n1) (h2 : DigC F n2) (h3 : VerC F n3) (h4 : ChainC F n4) : InclC F f := fun {fl H Q c n i b v r p} hv hfl hq => by
  refine v_audit_Includes hF _ _ _ _ _ _ _ _ _ ?_
  intro H9 d9 H10 d10
  have k10 := d9.keep.call d10.keep
  unfold incR incF at hq
  have bad : ¬(inR r = true ∧ dig b = true) → ∀ H', Keep H.length H H' → Q (.tuple [.bool false, flt 3 (-2)]) H' := fun h H' k => by
    have := hq H' k
    rw [if_neg h, if_neg h] at this; exact this
  refine h1 fun H12 k12 => ⟨_, rfl, fun hno => bad (fun h => hno h.1) H12 (k10.call k12), fun hyes => ?_⟩
  have hin : inR r = true := by simpa using hyes
  refine h2 ⟨_, rfl, fun hno => bad (fun h => hno h.2) H12 (k10.call k12), fun hyes2 => ?_⟩
  have hdb : dig b = true := by simpa using hyes2
  rw [if_pos ⟨hin, hdb⟩, if_pos ⟨hin, hdb⟩] at hq
  have k12' := k10.call k12
  refine h3 (hv.keep k12') (Nat.le_trans hfl k12'.len) fun H20 k20 => ⟨_, _, _, rfl, ?_⟩
  intro H22 d22
  have k22 := (k12'.call k20).call d22.keep
  obtain ⟨g1, g2, g3, g4, g5, g6, g7⟩ := inR_iff.1 hin
  refine ⟨fun ht => h4 (r := r) (Nat.le_refl _) hdb ⟨g1, g2, g3, g4, g5, g6⟩ fun H24 k24 => ⟨_, rfl, ?_⟩, fun hf => ?_⟩
  · have := hq H24 (k22.call k24)
    rw [ht, Bool.true_and] at this; exact this
  · have := hq H22 k22
    rw [show verR c n i r.c p = false by simpa using hf, Bool.false_and] at this; exact this

end Au
end Go.RM

/-
  Laws of logs, with no program in sight.
-/
namespace Go.RM
set_option linter.unusedSimpArgs false
set_option linter.unusedVariables false
namespace Au

abbrev r0 : Rec := ⟨0, 0, 0, 0⟩
def lst (d : Rec) (l : List Rec) : Rec := l.getLast?.getD d
theorem lst_cons {d x : Rec} {l : List Rec} : lst d (x :: l) = lst x l := by
  unfold lst
  cases l with
  | nil => rfl
  | cons y l => simp [List.getLast?_cons]
theorem vf_app : ∀ {l m : List Rec} {i : Nat} {d : Rec}, vf i d.c d.t l = (0, 0) → vf i d.c d.t (l ++ m) = vf (i + l.length) (lst d l).c (lst d l).t m
  | [], m, i, d, _ => rfl
  | x :: l, m, i, d, h => by
    rw [vf] at h
    rw [List.cons_append, vf, lst_cons]
    split at h
    · rename_i h1
      rw [if_pos h1]
      split at h
      · simp at h
      · rename_i h2
        rw [if_neg h2]
        split at h
        · rename_i h3
          rw [if_pos h3, vf_app h, List.length_cons]
          congr 1; omega
        · simp at h
    · simp at h

/-- A fault is found where it is, whatever follows. -/
theorem vf_bad : ∀ {l m : List Rec} {i : Nat} {d : Rec}, vf i d.c d.t l ≠ (0, 0) → vf i d.c d.t (l ++ m) = vf i d.c d.t l
  | [], m, i, d, h => absurd rfl h
  | x :: l, m, i, d, h => by
    rw [vf] at h ⊢
    rw [List.cons_append, vf]
    split
    · rename_i h1
      rw [if_pos h1] at h
      split
      · rfl
      · rename_i h2
        rw [if_neg h2] at h
        split
        · rename_i h3; rw [if_pos h3] at h; exact vf_bad h
        · rfl
    · rfl

theorem vf_take {l : List Rec} (h : vf 0 0 0 l = (0, 0)) (n : Nat) : vf 0 0 0 (l.take n) = (0, 0) := by
  apply Classical.byContradiction
  intro hne
  have := vf_bad (d := r0) (m := l.drop n) hne
  rw [List.take_append_drop] at this
  exact hne (this ▸ h)

/-- The digest before record i. -/
def befR (l : List Rec) (i : Nat) : Rec := lastR (l.take i)
theorem befR_succ {l : List Rec} {i : Nat} (h : i < l.length) : befR l (i + 1) = l[i] := by
  unfold befR lastR
  rw [List.take_succ_eq_append_getElem h, List.getLast?_concat]; rfl

theorem befR_dig {l : List Rec} (h : ∀ r ∈ l, inR r = true) (i : Nat) : dig (befR l i).c = true := lastR_dig fun r hr => h r (List.mem_of_mem_take hr)

/-! ### Proofs -/

/-- Tampering is found where it was. -/
theorem tamper {l : List Rec} (h : logF l = (0, 0)) {i : Nat} (hi : i < l.length) {t u a : Int} (hno : ¬(inR ⟨t, u, a, l[i].c⟩ = true ∧ chainD (befR l i).c ⟨t, u, a, l[i].c⟩ = l[i].c)) :
    (logF (l.set i ⟨t, u, a, l[i].c⟩)).1 ≠ 0 ∧ (logF (l.set i ⟨t, u, a, l[i].c⟩)).2 = i := by
  obtain ⟨g1, g2⟩ := logF_ok h
  unfold logF
  rw [List.length_set, if_neg (by omega)]
  have e : l.set i ⟨t, u, a, l[i].c⟩ = l.take i ++ ⟨t, u, a, l[i].c⟩ :: l.drop (i + 1) := by
    rw [List.set_eq_take_append_cons_drop, if_pos hi]
  rw [e]
  have h1 := vf_app (d := r0) (m := ⟨t, u, a, l[i].c⟩ :: l.drop (i + 1)) (vf_take g2 i)
  rw [List.length_take, Nat.zero_add, Nat.min_eq_left (by omega)] at h1
  have h2 : vf 0 0 0 (l.take i ++ ⟨t, u, a, l[i].c⟩ :: l.drop (i + 1)) = vf i (befR l i).c (befR l i).t (⟨t, u, a, l[i].c⟩ :: l.drop (i + 1)) := h1
  rw [h2, vf]
  split
  · rename_i a1
    split
    · exact ⟨by simp, rfl⟩
    · split
      · rename_i a3; exact absurd ⟨a1, a3.symm⟩ hno
      · exact ⟨by simp, rfl⟩
  · exact ⟨by simp, rfl⟩

/-! ### A closed example -/

abbrev exL : List Rec := appR [] 3 1 9
abbrev exM : List Rec := appR exL 4 2 9
theorem ex_len : exL.length = 1 ∧ exM.length = 2 := by decide +kernel
theorem ex_F : appF [] 3 1 9 = (0, 0) ∧ appF exL 4 2 9 = (0, 0) ∧ qF exM 2 = (0, 0) ∧ logF exL = (0, 0) ∧ forkF exL exM = (0, 0) ∧ logF exM = (0, 0) := by decide +kernel
theorem ex_R : qR exM 2 0 5 = [1] ∧ forkR exL exM = 1 := by decide +kernel

end Au
end Go.RM

/-
  append([]T(nil), l...) gives a list of one's own.
-/
namespace Go.RM
set_option linter.unusedVariables false
set_option linter.unusedSimpArgs false

theorem own_copyS {H : Heap} {v : AV} {e m bytes fl : Nat} {cs : List AV} {free : Bool} (h : Sl H e v m cs) (hs : cs.all AV.scalar = true) (hm : m ≤ 2 ^ 20) (hb : bytes ≤ 4096) :
    ∃ a H', appA fl free e bytes H .empty v = some (a, H') ∧ Own H.length H' e a m cs ∧ Keep H.length H H' ∧ (∀ b, At a b → H.length ≤ b) := by
  obtain ⟨c1, c2⟩ := sl_cells h
  have hcl : cs.length = m * e := by
    rcases h.out with ⟨rfl, rfl, rfl⟩ | ⟨b, off, lim, k, rfl, h2, h3, h4, h5, h6⟩
    · simp
    · rw [h6, List.length_take, List.length_drop]; omega
  have hstart : appA fl free e bytes H .empty v = rappend fl free e bytes H .empty m cs := by
    show (match sliceLen v with | some k => (sliceCells H e k v).bind fun xs => rappend fl free e bytes H .empty k xs | none => none) = _
    rw [c1]; simp only [c2, Option.bind_some]
  rw [hstart]
  unfold rappend
  by_cases h0 : m = 0
  · subst h0
    have : cs = [] := List.eq_nil_of_length_eq_zero (by rw [hcl, Nat.zero_mul])
    subst this
    exact ⟨.empty, H, rfl, Own.nil, Keep.refl H, fun b hb => absurd hb at_empty⟩
  · rw [if_neg h0]
    simp only
    have : m * bytes ≤ 2 ^ 48 := by
      calc m * bytes ≤ 2 ^ 20 * 4096 := Nat.mul_le_mul hm hb
        _ ≤ 2 ^ 48 := by decide
    rw [if_pos ⟨this, by omega⟩]
    refine ⟨.slice H.length 0 m none, H ++ [{ cells := cs, e := e }], rfl, ⟨by omega, .inr ⟨H.length, 0, none, { cells := cs, e := e }, rfl, Nat.le_refl _, snoc_end _ _, rfl, rfl, by simp [hcl], by
      show cs = (cs.drop 0).take (m * e)
      rw [List.drop_zero, List.take_of_length_le (by omega)], ⟨m, by simp [hcl]⟩, fun c hc => by cases hc⟩⟩, Keep.app H _, fun b hb => Nat.le_of_eq (at_slice.same hb)⟩

end Go.RM

/-
  How a call's arguments stand in the abstract machine: each slice has a read-only block of its own.
-/
namespace Go.RM
open Go.WideShapes Go.RowKit
set_option linter.unusedSimpArgs false
set_option linter.unusedVariables false
set_option linter.unusedSectionVars false

/-- Shapes of what a call is handed. 'slice n e': each element takes n cells. -/
inductive TC where
  | int (k : IntKind)
  | bool
  | str
  | slice (n : Nat) (e : TC)
  | struct (fs : List TC)

mutual
def TC.size : TC → Nat
  | .struct fs => TC.sizes fs
  | _ => 1
def TC.sizes : List TC → Nat
  | [] => 0
  | f :: fs => f.size + TC.sizes fs
end

mutual
def tcOk (P : Program) : TypeId → TC → Bool
  | t, .int k => (match P.underlying t with | some (.int k') => decide (k' = k) | _ => false)
  | t, .bool => (match P.underlying t with | some .bool => true | _ => false)
  | t, .str => (match P.underlying t with | some .string => true | _ => false)
  | t, .slice n e => (match P.underlying t with | some (.slice et) => decide (P.cellsOf et = n) && decide (0 < n) && decide (e.size = n) && tcOk P et e | _ => false)
  | t, .struct l => (match P.underlying t with | some (.struct fs) => decide (P.cellsOf t = TC.sizes l) && fsOk P fs.toList l 0 | _ => false)
def fsOk (P : Program) : List Field → List TC → Nat → Bool
  | [], [], _ => true
  | f :: fs, c :: l, off => decide (f.offset = off) && decide (P.cellsOf f.type = c.size) && tcOk P f.type c && fsOk P fs l (off + c.size)
  | _, _, _ => false
end

/-- A slice's elements, each a list of n cells. -/
def Elems (H : Heap) (n : Nat) (v : AV) (css : List (List AV)) : Prop :=
  (∀ c ∈ css, c.length = n) ∧ ((v = .empty ∧ css = []) ∨ ∃ b off lim k, v = .slice b off css.length lim ∧ lim = none ∧ H.blk b = some k ∧ k.e = n ∧ off + css.length * n ≤ k.cells.length ∧ (k.cells.drop off).take (css.length * n) = css.flatten)

mutual
def WF (Pn : Nat → Prop) (H : Heap) : TC → List AV → Prop
  | .int k, cs => ∃ n, cs = [.int k n] ∧ (Lit.int k n).wf = true
  | .bool, cs => ∃ b, cs = [.bool b]
  | .str, cs => ∃ s, cs = [.str s] ∧ s.size ≤ maxLen ∧ Pn s.size
  | .slice n e, cs => ∃ v css, cs = [v] ∧ Elems H n v css ∧ css.length ≤ maxLen ∧ Pn css.length ∧ ∀ c ∈ css, WF Pn H e c
  | .struct fs, cs => WFs Pn H fs cs
def WFs (Pn : Nat → Prop) (H : Heap) : List TC → List AV → Prop
  | [], cs => cs = []
  | f :: fs, cs => ∃ a b, cs = a ++ b ∧ WF Pn H f a ∧ WFs Pn H fs b
end

variable {Pn : Nat → Prop}

theorem blk_append {H : Heap} {b : Nat} {k : Blk} (h : H.blk b = some k) (news : Heap) : Heap.blk (H ++ news) b = some k := by
  have hg := (blk_act h).2.2
  unfold Heap.blk at h ⊢
  rw [List.getElem?_append_left (get_lt hg)]
  exact h

theorem Elems.append {H : Heap} {n : Nat} {v : AV} {css : List (List AV)} (h : Elems H n v css) (news : Heap) : Elems (H ++ news) n v css := by
  refine ⟨h.1, h.2.imp id ?_⟩
  rintro ⟨b, off, lim, k, h1, h0, h2, h3⟩
  exact ⟨b, off, lim, k, h1, h0, blk_append h2 news, h3⟩

mutual
theorem WF.append {H : Heap} : ∀ {tc : TC} {cs : List AV}, WF Pn H tc cs → ∀ news, WF Pn (H ++ news) tc cs
  | .int k, cs, h, news => by simpa only [WF] using h
  | .bool, cs, h, news => by simpa only [WF] using h
  | .str, cs, h, news => by simpa only [WF] using h
  | .slice n e, cs, h, news => by
    simp only [WF] at h ⊢
    obtain ⟨v, css, h1, h2, h3, h5, h4⟩ := h
    exact ⟨v, css, h1, h2.append news, h3, h5, fun c hc => WF.append (h4 c hc) news⟩
  | .struct fs, cs, h, news => by
    simp only [WF] at h ⊢
    exact WFs.append h news
theorem WFs.append {H : Heap} : ∀ {fs : List TC} {cs : List AV}, WFs Pn H fs cs → ∀ news, WFs Pn (H ++ news) fs cs
  | [], cs, h, news => by simpa only [WFs] using h
  | f :: fs, cs, h, news => by
    simp only [WFs] at h ⊢
    obtain ⟨a, b, h1, h2, h3⟩ := h
    exact ⟨a, b, h1, WF.append h2 news, WFs.append h3 news⟩
end

/-- A heap all of whose blocks are the caller's. -/
structure RO (m : BMap) (H : Heap) (w : World) : Prop where
  kid : ∀ (b : Nat) (k : Blk), H[b]? = some k → k.kid = none
  dom : ∀ b l, m b = some l → b < H.length
  es : ∀ (b : Nat) (k : Blk) (l : Loc), H[b]? = some k → m b = some l → l.e = k.e
  cells : ∀ (b : Nat) (k : Blk) (l : Loc), H[b]? = some k → m b = some l → k.cells.length ≤ l.room ∧ CellsAt m w l k.cells
  ro : ∀ b l, m b = some l → l.cb < w.heap.size

theorem RO.sim {m : BMap} {H : Heap} {w : World} (h : RO m H w) : Sim H.length w.heap.size m H w := by
  refine ⟨Nat.le_refl _, Nat.le_refl _, fun b c k hb hk => by rw [h.kid b k hb] at hk; simp at hk, h.es, fun b k l ha hm => ⟨h.es b k l (act_get ha) hm, h.cells b k l (act_get ha) hm⟩, fun b l _ hm => h.ro b l hm, fun b k l hb ha _ => ?_, fun b b' k k' l l' hb _ ha => ?_⟩
  · have := act_lt ha; omega
  · have := act_lt ha; omega

theorem RO.nil (w : World) : RO (fun _ => none) [] w := ⟨fun b k h => by simp at h, fun b l h => by simp at h, fun b k l h => by simp at h, fun b k l h => by simp at h, fun b l h => by simp at h⟩

theorem RO.push {m : BMap} {H : Heap} {w : World} (h : RO m H w) {k : Blk} {l : Loc} (hk : k.kid = none) (he : l.e = k.e) (hr : k.cells.length ≤ l.room) (hc : CellsAt m w l k.cells) (hl : l.cb < w.heap.size) :
    Ext m (upd m H.length l) ∧ RO (upd m H.length l) (H ++ [k]) w := by
  have hn : m H.length = none := by
    cases hm : m H.length with
    | none => rfl
    | some l' => have := h.dom _ _ hm; omega
  have hext := upd_ext l hn
  have hget : ∀ (b : Nat) (k' : Blk), (H ++ [k])[b]? = some k' → (b < H.length ∧ H[b]? = some k') ∨ (b = H.length ∧ k' = k) := fun b k' hb => by
    by_cases e : b < H.length
    · rw [List.getElem?_append_left e] at hb; exact .inl ⟨e, hb⟩
    · rw [List.getElem?_append_right (by omega)] at hb
      cases hq : b - H.length with
      | zero => rw [hq] at hb; simp at hb; exact .inr ⟨by omega, hb.symm⟩
      | succ q => rw [hq] at hb; simp at hb
  refine ⟨hext, fun b k' hb => ?_, fun b l' hm => ?_, fun b k' l' hb hm => ?_, fun b k' l' hb hm => ?_, fun b l' hm => ?_⟩
  · rcases hget b k' hb with ⟨_, h1⟩ | ⟨_, rfl⟩
    · exact h.kid b k' h1
    · exact hk
  · by_cases e : b = H.length
    · subst e; simp
    · rw [upd_ne _ e] at hm; have := h.dom b l' hm; simp; omega
  · rcases hget b k' hb with ⟨h0, h1⟩ | ⟨rfl, rfl⟩
    · rw [upd_ne _ (by omega)] at hm; exact h.es b k' l' h1 hm
    · rw [upd_same] at hm; cases hm; exact he
  · rcases hget b k' hb with ⟨h0, h1⟩ | ⟨rfl, rfl⟩
    · rw [upd_ne _ (by omega)] at hm
      obtain ⟨e1, e2⟩ := h.cells b k' l' h1 hm
      exact ⟨e1, cellsAt_mono e2 hext fun _ _ => rfl⟩
    · rw [upd_same] at hm; cases hm; exact ⟨hr, cellsAt_mono hc hext fun _ _ => rfl⟩
  · by_cases e : b = H.length
    · subst e; rw [upd_same] at hm; cases hm; exact hl
    · rw [upd_ne _ e] at hm; exact h.ro b l' hm

theorem flatten_len {n : Nat} : ∀ {css : List (List AV)}, (∀ c ∈ css, c.length = n) → css.flatten.length = css.length * n
  | [], _ => by simp
  | c :: css, h => by
    rw [List.flatten_cons, List.length_append, flatten_len (fun c hc => h c (by simp [hc])), h c (by simp), List.length_cons, Nat.succ_mul]; omega

theorem flatten_get {n : Nat} (hn : 0 < n) : ∀ {css : List (List AV)}, (∀ c ∈ css, c.length = n) → ∀ (j : Nat) (v : AV), css.flatten[j]? = some v → ∃ c, css[j / n]? = some c ∧ c[j % n]? = some v
  | [], _, j, v, h => by simp at h
  | c :: css, hc, j, v, h => by
    have hcl := hc c (by simp)
    rw [List.flatten_cons] at h
    by_cases hj : j < n
    · rw [List.getElem?_append_left (by omega)] at h
      exact ⟨c, by rw [Nat.div_eq_of_lt hj]; rfl, by rw [Nat.mod_eq_of_lt hj]; exact h⟩
    · rw [List.getElem?_append_right (by omega), hcl] at h
      obtain ⟨c', h1, h2⟩ := flatten_get hn (fun c hc' => hc c (by simp [hc'])) (j - n) v h
      have e1 : j / n = (j - n) / n + 1 := by rw [Nat.div_eq_sub_div hn (by omega)]
      have e2 : j % n = (j - n) % n := Nat.mod_eq_sub_mod (by omega)
      exact ⟨c', by rw [e1]; simpa using h1, by rw [e2]; exact h2⟩

section
variable {P : Program} {W : World} {T : Type} {enc : TypeId × Value → T}

def Read (Pn : Nat → Prop) (W : World) (tc : TC) (cs : List Value) : Prop := ∀ (m : BMap) (H : Heap), RO m H W → ∃ m' news avs, Ext m m' ∧ RO m' (H ++ news) W ∧ VRels m' avs cs ∧ WF Pn (H ++ news) tc avs ∧ avs.length = tc.size

def Reads (Pn : Nat → Prop) (W : World) (l : List TC) (cs : List Value) : Prop := ∀ (m : BMap) (H : Heap), RO m H W → ∃ m' news avs, Ext m m' ∧ RO m' (H ++ news) W ∧ VRels m' avs cs ∧ WFs Pn (H ++ news) l avs ∧ avs.length = TC.sizes l

theorem read_elems {e : TC} {n : Nat} (hsz : e.size = n) : ∀ (css : List (List Value)), (∀ cs ∈ css, Read Pn W e cs) → ∀ (m : BMap) (H : Heap), RO m H W →
    ∃ (m' : BMap) (news : Heap) (avss : List (List AV)), Ext m m' ∧ RO m' (H ++ news) W ∧ avss.length = css.length ∧ (∀ (i : Nat) (a : List AV) (c : List Value), avss[i]? = some a → css[i]? = some c → VRels m' a c) ∧ (∀ a ∈ avss, WF Pn (H ++ news) e a ∧ a.length = n)
  | [], _, m, H, h => ⟨m, [], [], Ext.refl m, by simpa using h, rfl, fun i a c h => by simp at h, fun a h => by simp at h⟩
  | cs :: css, hr, m, H, h => by
    obtain ⟨m1, n1, a1, e1, r1, v1, w1, l1⟩ := hr cs (by simp) m H h
    obtain ⟨m2, n2, asx, e2, r2, l2, v2, w2⟩ := read_elems hsz css (fun c hc => hr c (by simp [hc])) m1 (H ++ n1) r1
    refine ⟨m2, n1 ++ n2, a1 :: asx, e1.trans e2, by rwa [List.append_assoc] at r2, by simp [l2], fun i a c ha hc => ?_, fun a ha => ?_⟩
    · cases i with
      | zero => simp only [List.getElem?_cons_zero, Option.some.injEq] at ha hc; subst ha; subst hc; exact v1.mono e2
      | succ i => exact v2 i a c (by simpa using ha) (by simpa using hc)
    · rw [← List.append_assoc]
      rcases List.mem_cons.1 ha with rfl | ha
      · exact ⟨w1.append n2, by rw [l1, hsz]⟩
      · exact w2 a ha

theorem read_slice {e : TC} {n : Nat} (hn : 0 < n) (hsz : e.size = n) {a : Addr} {len cap : Nat} (hlc : len ≤ cap) (hcap : cap ≤ maxLen) (hspot : 0 < cap → a.spot = none ∧ a.block < W.heap.size)
    {css : List (List Value)} (hlen : css.length = len) (hP : Pn len) (hcs : ∀ (i : Nat) (c : List Value), css[i]? = some c → c.length = n ∧ (∀ j, j < n → W.cell? ((a.add (i * n)).add j) = c[j]?) ∧ Read Pn W e c) : Read Pn W (.slice n e) [.slice (some a) len cap] := by
  intro m H h
  by_cases h0 : cap = 0
  · have : len = 0 := by omega
    subst this; subst h0
    refine ⟨m, [], [.empty], Ext.refl m, by simpa using h, ⟨⟨_, rfl⟩, trivial⟩, ?_, rfl⟩
    simp only [WF]
    exact ⟨.empty, [], rfl, ⟨fun c hc => by simp at hc, .inl ⟨rfl, rfl⟩⟩, by simp, hP, fun c hc => by simp at hc⟩
  · obtain ⟨hs, hb⟩ := hspot (by omega)
    obtain ⟨m1, n1, avss, e1, r1, l1, v1, w1⟩ := read_elems hsz css (fun c hc => by
      obtain ⟨i, hi⟩ := List.getElem?_of_mem hc
      exact (hcs i c hi).2.2) m H h
    have hall : ∀ c ∈ avss, c.length = n := fun c hc => (w1 c hc).2
    have hfl := flatten_len hall
    obtain ⟨ab, ao, asp⟩ := a
    simp only at hs hb; subst hs
    have hcell : CellsAt m1 W ⟨ab, ao, cap * n, n⟩ avss.flatten := fun j v hv => by
      obtain ⟨c, h1, h2⟩ := flatten_get hn hall j v hv
      have hi : j / n < css.length := by rw [← l1]; exact (List.getElem?_eq_some_iff.1 h1).1
      obtain ⟨cv, hcv⟩ : ∃ cv, css[j / n]? = some cv := ⟨_, List.getElem?_eq_getElem hi⟩
      obtain ⟨g1, g2, _⟩ := hcs _ _ hcv
      obtain ⟨x, x1, x2⟩ := (v1 _ _ _ h1 hcv).get _ _ h2
      refine ⟨x, ?_, x2⟩
      have := g2 (j % n) (Nat.mod_lt _ hn)
      rw [add_mk, add_mk, x1, show ao + j / n * n + j % n = ao + j by have := Nat.div_add_mod j n; rw [Nat.mul_comm] at this; omega] at this
      exact this
    obtain ⟨e2, r2⟩ := r1.push (k := { cells := avss.flatten, e := n }) (l := ⟨ab, ao, cap * n, n⟩) rfl rfl (by rw [hfl, l1, hlen]; exact Nat.mul_le_mul_right _ hlc) hcell hb
    refine ⟨_, n1 ++ [{ cells := avss.flatten, e := n }], [.slice (H ++ n1).length 0 len none], e1.trans e2, by rwa [List.append_assoc] at r2, ⟨⟨_, _, rfl, hlc, _, upd_same _ _ _, ?_, .inl (by simp)⟩, trivial⟩, ?_, rfl⟩
    · show 0 + cap * n = cap * n; omega
    · simp only [WF]
      rw [← List.append_assoc]
      refine ⟨_, avss, rfl, ⟨hall, .inr ⟨_, _, _, _, by rw [l1, hlen], rfl, by unfold Heap.blk; rw [List.getElem?_append_right (Nat.le_refl _)]; simp; rfl, rfl, by rw [hfl]; simp, ?_⟩⟩, by omega, by rw [l1, hlen]; exact hP, fun c hc => (w1 c hc).1.append _⟩
      rw [List.drop_zero, ← hfl, List.take_length]

/-- What is asked of a reading, and handed on to its parts. -/
structure Bd (Pn : Nat → Prop) (B : DataW T → Prop) : Prop where
  zero : Pn 0
  len : ∀ {e s : List (DataW T)}, B (.slice e s) → Pn e.length
  elem : ∀ {e s : List (DataW T)} {x : DataW T}, B (.slice e s) → x ∈ e ++ s → B x
  part : ∀ {l : List (DataW T)} {x : DataW T}, B (.agg l) → x ∈ l → B x
  str : ∀ {s : ByteArray}, B (.lit (.string s.data.toList)) → Pn s.size

variable {B : DataW T → Prop} (hB : Bd Pn B)
include hB

mutual
theorem read_tc : ∀ (tc : TC) (fuel : Nat) (t : TypeId) (cs : List Value) (x : DataW T × List MemPlace), tcOk P t tc = true → DataW.trod enc P W 0 (fun _ => true) true fuel t cs = some x → B x.1 → Read Pn W tc cs
  | .int k, fuel, t, cs, x, hk, h, hb => by
    simp only [tcOk] at hk
    split at hk
    · rename_i k' hu
      simp only [decide_eq_true_eq] at hk; subst hk
      intro m H hr
      have : ∃ n, cs = [.int k' n] ∧ (Lit.int k' n).wf = true := by
        cases fuel with
        | zero => simp [DataW.trod] at h
        | succ fuel =>
          unfold DataW.trod at h
          rw [hu] at h
          split at h <;> simp_all
      obtain ⟨n, rfl, hw⟩ := this
      refine ⟨m, [], [.int k' n], Ext.refl m, by simpa using hr, ⟨rfl, trivial⟩, ?_, rfl⟩
      simp only [WF]; exact ⟨n, rfl, hw⟩
    · simp at hk
  | .bool, fuel, t, cs, x, hk, h, hb => by
    simp only [tcOk] at hk
    split at hk
    · rename_i hu
      intro m H hr
      have : ∃ b, cs = [.bool b] := by
        cases fuel with
        | zero => simp [DataW.trod] at h
        | succ fuel =>
          unfold DataW.trod at h
          rw [hu] at h
          split at h <;> simp_all
      obtain ⟨b, rfl⟩ := this
      refine ⟨m, [], [.bool b], Ext.refl m, by simpa using hr, ⟨rfl, trivial⟩, ?_, rfl⟩
      simp only [WF]; exact ⟨b, rfl⟩
    · simp at hk
  | .str, fuel, t, cs, x, hk, h, hb => by
    simp only [tcOk] at hk
    split at hk
    · rename_i hu
      intro m H hr
      have : ∃ s, cs = [.string s] ∧ s.size ≤ maxLen ∧ (DataW.lit (.string s.data.toList), []) = x := by
        cases fuel with
        | zero => simp [DataW.trod] at h
        | succ fuel =>
          unfold DataW.trod at h
          rw [hu] at h
          split at h <;> simp_all
      obtain ⟨s, rfl, hs0, hxe⟩ := this
      have hs : s.size ≤ maxLen ∧ Pn s.size := ⟨hs0, hB.str (by rw [← hxe] at hb; exact hb)⟩
      refine ⟨m, [], [.str s], Ext.refl m, by simpa using hr, ⟨rfl, trivial⟩, ?_, rfl⟩
      simp only [WF]; exact ⟨s, rfl, hs⟩
    · simp at hk
  | .slice n e, fuel, t, cs, x, hk, h, hb => by
    simp only [tcOk] at hk
    split at hk
    · rename_i et hu
      simp only [Bool.and_eq_true, decide_eq_true_eq] at hk
      obtain ⟨⟨⟨hc, hn⟩, hsz⟩, he⟩ := hk
      rcases DataW.trod_slice hu h with ⟨rfl, _⟩ | ⟨a, len, cap, elems, rest, f, _, rfl, hx, _, hlc, hcap, hel, hels, hrest, _⟩
      · intro m H hr
        refine ⟨m, [], [.empty], Ext.refl m, by simpa using hr, ⟨⟨_, rfl⟩, trivial⟩, ?_, rfl⟩
        simp only [WF]
        exact ⟨.empty, [], rfl, ⟨fun c hc => by simp at hc, .inl ⟨rfl, rfl⟩⟩, by simp, hB.zero, fun c hc => by simp at hc⟩
      · obtain ⟨hrl, hrest⟩ := hrest rfl
        rw [hc] at hels hrest
        rw [hx] at hb
        have hbe : ∀ y ∈ elems ++ rest, B y.1 := fun y hy => hB.elem hb (by rw [← List.map_append]; exact List.mem_map_of_mem hy)
        have hPl : Pn len := by have := hB.len hb; rw [List.length_map, hel] at this; exact this
        have hone : ∀ i y, B y.1 → (W.cells? 0 (a.add (i * n)) n).bind (DataW.trod enc P W 0 (fun _ => true) true f et) = some y → ∃ c : List Value, c.length = n ∧ (∀ j, j < n → W.cell? ((a.add (i * n)).add j) = c[j]?) ∧ Read Pn W e c := fun i y hyb hy => by
          rw [Option.bind_eq_some_iff] at hy
          obtain ⟨c, h1, h2⟩ := hy
          obtain ⟨_, g1, g2⟩ := World.cells?_some h1
          exact ⟨c, g1, g2, read_tc e f et c y he h2 hyb⟩
        have hspot : 0 < cap → a.spot = none ∧ a.block < W.heap.size := fun h0 => by
          have : ∃ y, B y.1 ∧ (W.cells? 0 (a.add (0 * n)) n).bind (DataW.trod enc P W 0 (fun _ => true) true f et) = some y := by
            by_cases hl : 0 < len
            · exact ⟨elems[0], hbe _ (List.mem_append.2 (.inl (List.getElem_mem _))), by rw [hels 0 hl, List.getElem?_eq_getElem]⟩
            · have hl0 : len = 0 := by omega
              have := hrest 0 (by omega)
              rw [hl0, Nat.add_zero] at this
              exact ⟨rest[0], hbe _ (List.mem_append.2 (.inr (List.getElem_mem _))), by rw [this, List.getElem?_eq_getElem]⟩
          obtain ⟨y, hyb, hy⟩ := this
          obtain ⟨c, g1, g2, _⟩ := hone 0 y hyb hy
          have := g2 0 hn
          rw [Nat.zero_mul, List.getElem?_eq_getElem (by omega)] at this
          simp only [Addr.add, if_true] at this
          unfold World.cell? at this
          split at this
          · rename_i cc _ _ hb
            split at this
            · simp at this
            · rename_i hs
              refine ⟨by simpa using hs, ?_⟩
              rcases Nat.lt_or_ge a.block W.heap.size with h | h
              · exact h
              · rw [Array.getElem?_eq_none h] at hb; simp at hb
          · simp at this
        have hall : ∀ k, k ≤ len → ∃ css : List (List Value), css.length = k ∧ ∀ (i : Nat) (c : List Value), css[i]? = some c → c.length = n ∧ (∀ j, j < n → W.cell? ((a.add (i * n)).add j) = c[j]?) ∧ Read Pn W e c := by
          intro k
          induction k with
          | zero => intro _; exact ⟨[], rfl, fun i c h => by simp at h⟩
          | succ k ih =>
            intro hk
            obtain ⟨css, l1, h1⟩ := ih (by omega)
            obtain ⟨c, g⟩ := hone k elems[k] (hbe _ (List.mem_append.2 (.inl (List.getElem_mem _)))) (by rw [hels k (by omega), List.getElem?_eq_getElem])
            refine ⟨css ++ [c], by simp [l1], fun i c' hi => ?_⟩
            by_cases e : i < css.length
            · rw [List.getElem?_append_left e] at hi; exact h1 i c' hi
            · rw [List.getElem?_append_right (by omega)] at hi
              cases hq : i - css.length with
              | zero =>
                rw [hq] at hi; simp at hi; subst hi
                have : i = k := by omega
                subst this; exact g
              | succ q => rw [hq] at hi; simp at hi
        obtain ⟨css, l1, h1⟩ := hall len (Nat.le_refl _)
        exact read_slice hn hsz hlc hcap hspot l1 hPl h1
    · simp at hk
  | .struct l, fuel, t, cs, x, hk, h, hb => by
    simp only [tcOk] at hk
    split at hk
    · rename_i fs hu
      simp only [Bool.and_eq_true, decide_eq_true_eq] at hk
      obtain ⟨hc, hfs⟩ := hk
      obtain ⟨xs, n, _, hx, hlen, hxl, hf⟩ := DataW.trod_struct hu h
      rw [hx] at hb
      have := read_fs l n fs.toList 0 cs (by rw [hlen, hc]; omega) hfs fun i f hi => by
        have := hf i f (by simpa using hi)
        have hil : i < xs.length := by rw [hxl]; simpa using (List.getElem?_eq_some_iff.1 hi).1
        exact ⟨xs[i], by rw [this, List.getElem?_eq_getElem hil], hB.part hb (List.mem_map_of_mem (List.getElem_mem hil))⟩
      intro m H hr
      obtain ⟨m', news, avs, h1, h2, h3, h4, h5⟩ := this m H hr
      rw [List.drop_zero] at h3
      exact ⟨m', news, avs, h1, h2, h3, by simpa only [WF] using h4, by simpa only [TC.size] using h5⟩
    · simp at hk
theorem read_fs : ∀ (l : List TC) (fuel : Nat) (fs : List Field) (off : Nat) (cs : List Value), cs.length = off + TC.sizes l → fsOk P fs l off = true →
    (∀ (i : Nat) (f : Field), fs[i]? = some f → ∃ y, DataW.trod enc P W 0 (fun _ => true) true fuel f.type ((cs.drop f.offset).take (P.cellsOf f.type)) = some y ∧ B y.1) → Reads Pn W l (cs.drop off)
  | [], fuel, fs, off, cs, hl, hk, h => by
    intro m H hr
    refine ⟨m, [], [], Ext.refl m, by simpa using hr, ?_, ?_, rfl⟩
    · rw [List.drop_eq_nil_of_le (by rw [hl]; simp [TC.sizes])]; trivial
    · simp only [WFs]
  | c :: l, fuel, fs, off, cs, hl, hk, h => by
    cases fs with
    | nil => simp [fsOk] at hk
    | cons f fs =>
      simp only [fsOk, Bool.and_eq_true, decide_eq_true_eq] at hk
      obtain ⟨⟨⟨h1, h2⟩, h3⟩, h4⟩ := hk
      simp only [TC.sizes] at hl
      obtain ⟨y, hy, hyb⟩ := h 0 f rfl
      rw [h1, h2] at hy
      have r1 := read_tc c fuel f.type _ y h3 hy hyb
      have r2 := read_fs l fuel fs (off + c.size) cs (by omega) h4 fun i f hi => h (i + 1) f (by simpa using hi)
      intro m H hr
      obtain ⟨m1, n1, a1, e1, o1, v1, w1, l1⟩ := r1 m H hr
      obtain ⟨m2, n2, a2, e2, o2, v2, w2, l2⟩ := r2 m1 (H ++ n1) o1
      refine ⟨m2, n1 ++ n2, a1 ++ a2, e1.trans e2, by rwa [List.append_assoc] at o2, ?_, ?_, by simp [TC.sizes, l1, l2]⟩
      · have := VRels.append (v1.mono e2) v2
        have hs : (cs.drop off).take c.size ++ cs.drop (off + c.size) = cs.drop off := by
          rw [← List.drop_drop, List.take_append_drop]
        rwa [hs] at this
      · simp only [WFs]
        rw [← List.append_assoc]
        exact ⟨a1, a2, rfl, w1.append n2, w2⟩
end

/-! ### Arguments -/

def WFv (Pn : Nat → Prop) (H : Heap) (tc : TC) (v : AV) : Prop :=
  match tc with
  | .struct fs => ∃ cs, v = .agg cs ∧ WFs Pn H fs cs
  | tc => WF Pn H tc [v]

def WFvs (Pn : Nat → Prop) (H : Heap) : List TC → List AV → Prop
  | [], [] => True
  | tc :: tcs, v :: vs => WFv Pn H tc v ∧ WFvs Pn H tcs vs
  | _, _ => False

omit hB in
theorem WFv.append {H : Heap} {tc : TC} {v : AV} (h : WFv Pn H tc v) (news : Heap) : WFv Pn (H ++ news) tc v := by
  cases tc with
  | struct fs => obtain ⟨cs, h1, h2⟩ := h; exact ⟨cs, h1, h2.append news⟩
  | _ => exact WF.append h news

def tcsOk (P : Program) : List TypeId → List TC → Bool
  | [], [] => true
  | t :: ts, c :: cs => tcOk P t c && tcsOk P ts cs
  | _, _ => false

theorem read_arg {tc : TC} {t : TypeId} {v : Value} {x : DataW T} {ps : List MemPlace} {base : Nat} (hk : tcOk P t tc = true) (h : DataW.Trod enc P W 0 (fun _ => true) true t v x ps) (hok : Value.okWide P W .any base t v) (hb : B x) :
    ∀ (m : BMap) (H : Heap), RO m H W → ∃ m' news av, Ext m m' ∧ RO m' (H ++ news) W ∧ VRel m' av v ∧ WFv Pn (H ++ news) tc av := by
  intro m H hr
  obtain ⟨fuel, hf⟩ := h
  have key := read_tc hB tc fuel t _ _ hk hf hb
  cases tc with
  | struct l =>
    simp only [tcOk] at hk
    split at hk
    · rename_i fs hu
      obtain ⟨cs, rfl, _⟩ := okWide_struct hu hok
      obtain ⟨m', news, avs, h1, h2, h3, h4, h5⟩ := key m H hr
      exact ⟨m', news, .agg avs, h1, h2, ⟨cs.toList, rfl, h3⟩, avs, rfl, by simpa only [WF] using h4⟩
    · simp at hk
  | int k =>
    simp only [tcOk] at hk
    split at hk
    · rename_i k' hu
      obtain ⟨n, rfl⟩ := okWide_int hu hok
      obtain ⟨m', news, avs, h1, h2, h3, h4, h5⟩ := key m H hr
      obtain ⟨av, rfl⟩ : ∃ av, avs = [av] := List.length_eq_one_iff.1 h5
      exact ⟨m', news, av, h1, h2, h3.1, h4⟩
    · simp at hk
  | bool =>
    simp only [tcOk] at hk
    split at hk
    · rename_i hu
      obtain ⟨n, rfl⟩ := okWide_bool hu hok
      obtain ⟨m', news, avs, h1, h2, h3, h4, h5⟩ := key m H hr
      obtain ⟨av, rfl⟩ : ∃ av, avs = [av] := List.length_eq_one_iff.1 h5
      exact ⟨m', news, av, h1, h2, h3.1, h4⟩
    · simp at hk
  | str =>
    simp only [tcOk] at hk
    split at hk
    · rename_i hu
      obtain ⟨n, rfl⟩ := okWide_string hu hok
      obtain ⟨m', news, avs, h1, h2, h3, h4, h5⟩ := key m H hr
      obtain ⟨av, rfl⟩ : ∃ av, avs = [av] := List.length_eq_one_iff.1 h5
      exact ⟨m', news, av, h1, h2, h3.1, h4⟩
    · simp at hk
  | slice n e =>
    simp only [tcOk] at hk
    split at hk
    · rename_i et hu
      obtain ⟨a, len, cap, rfl⟩ := okWide_slice hu hok
      obtain ⟨m', news, avs, h1, h2, h3, h4, h5⟩ := key m H hr
      obtain ⟨av, rfl⟩ : ∃ av, avs = [av] := List.length_eq_one_iff.1 h5
      exact ⟨m', news, av, h1, h2, h3.1, h4⟩
    · simp at hk

omit hB in
theorem WFvs.append {H : Heap} : ∀ {tcs : List TC} {vs : List AV}, WFvs Pn H tcs vs → ∀ news, WFvs Pn (H ++ news) tcs vs
  | [], [], _, _ => trivial
  | _ :: _, _ :: _, ⟨h1, h2⟩, news => ⟨h1.append news, h2.append news⟩

theorem read_args {base : Nat} : ∀ {tcs : List TC} {ts : List TypeId} {vs : List Value} {ds : List (DataW T)} {ps : List MemPlace}, tcsOk P ts tcs = true → DataW.TrodAll enc P W 0 (fun _ => true) true ts vs ds ps →
    (∀ (j : Nat) t v, ts[j]? = some t → vs[j]? = some v → Value.okWide P W .any base t v) → (∀ d ∈ ds, B d) → ∀ (m : BMap) (H : Heap), RO m H W → ∃ m' news avs, Ext m m' ∧ RO m' (H ++ news) W ∧ VRels m' avs vs ∧ WFvs Pn (H ++ news) tcs avs
  | [], [], [], [], ps, _, _, _, _, m, H, hr => ⟨m, [], [], Ext.refl m, by simpa using hr, trivial, trivial⟩
  | tc :: tcs, t :: ts, v :: vs, d :: ds, ps, hk, h, hok, hbs, m, H, hr => by
    obtain ⟨p, q, h1, h2, _⟩ := h
    simp only [tcsOk, Bool.and_eq_true] at hk
    obtain ⟨m1, n1, a1, e1, o1, v1, w1⟩ := read_arg hB hk.1 h1 (hok 0 t v rfl rfl) (hbs d (by simp)) m H hr
    obtain ⟨m2, n2, a2, e2, o2, v2, w2⟩ := read_args hk.2 h2 (fun j t v ht hv => hok (j + 1) t v (by simpa using ht) (by simpa using hv)) (fun x hx => hbs x (by simp [hx])) m1 (H ++ n1) o1
    refine ⟨m2, n1 ++ n2, a1 :: a2, e1.trans e2, by rwa [List.append_assoc] at o2, ⟨v1.mono e2, v2⟩, ?_⟩
    rw [← List.append_assoc]
    exact ⟨w1.append n2, w2⟩
  | [], t :: ts, _, _, _, hk, _, _, _, _, _, _ => by simp [tcsOk] at hk
  | _ :: _, [], _, _, _, hk, _, _, _, _, _, _ => by simp [tcsOk] at hk
  | [], [], _ :: _, _, _, _, h, _, _, _, _, _ => h.elim
  | [], [], [], _ :: _, _, _, h, _, _, _, _, _ => h.elim
  | _ :: _, _ :: _, [], _, _, _, h, _, _, _, _, _ => h.elim
  | _ :: _, _ :: _, _ :: _, [], _, _, h, _, _, _, _, _ => h.elim

end

/-- WHAT A CALL WITH GIVEN ARGUMENTS DOES: where the abstract machine says 'true', the call returns true and turns nothing that was there. -/
theorem calls_true {P : Program} {pr : Nat → Option Prim} (hmix : P.follows .mixedOrders = true) (hpr : PrimsOk P pr) {f : FuncId} {tcs : List TC} (hcore : ∀ (H : Heap) (avs : List AV), WFvs Pn H tcs avs → ∃ n H', rcall (table P pr) n H.length f avs H = some (.bool true, H'))
    {T : Type} {enc : TypeId × Value → T} {B : DataW T → Prop} (hB : Bd Pn B) {W : World} {base : Nat} {ts : List TypeId} {args : Array Value} {ds : List (DataW T)} {ps : List MemPlace} (hbs : ∀ d ∈ ds, B d) (hk : tcsOk P ts tcs = true) (h : DataW.TrodAll enc P W 0 (fun _ => true) true ts args.toList ds ps)
    (hok : ∀ (j : Nat) t v, ts[j]? = some t → args.toList[j]? = some v → Value.okWide P W .any base t v) : Calls P f args W fun e W' => e = .returned (.bool true) ∧ Below W.heap.size W W' := by
  obtain ⟨m, news, avs, _, hr, hv, hw⟩ := read_args hB hk h hok hbs _ [] (RO.nil W)
  rw [List.nil_append] at hr hw
  obtain ⟨n, H', hrun⟩ := hcore news avs hw
  obtain ⟨_, hs⟩ := call_sound hmix hpr n _ _ _ _ _ _ hrun
  have := hs news.length W.heap.size m W args.toList (Nat.le_refl _) hr.sim hv fun b hb _ => by
    cases hm : m b with
    | none => rfl
    | some l => have := hr.dom b l hm; omega
  have ha : (⟨args.toList⟩ : Array Value) = args := by simp
  rw [ha] at this
  refine Calls.mono this fun e W' he => ?_
  obtain ⟨v', m', rfl, hv', hst⟩ := he
  cases hv'
  refine ⟨rfl, hst.os, hst.tape, hst.output, hst.size, fun k hk => hst.frame k hk ?_⟩
  rintro ⟨b, kb, l, h1, h2, _⟩
  have := act_lt h2; omega

end Go.RM

