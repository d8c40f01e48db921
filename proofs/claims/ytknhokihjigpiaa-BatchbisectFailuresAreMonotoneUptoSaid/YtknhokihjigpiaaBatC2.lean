/-
  Package batchbisect: the searches.
-/
import Derived.Test.YtknhokihjigpiaaBatC
namespace Go.RM
set_option linter.unusedSimpArgs false
set_option linter.unusedVariables false
open Bat

namespace Bat
def sres (p : Int → Bool) (n : Int) : Int × List Int := bis p n.toNat 0 n []

/-- What the search returns lies behind where it began, and holds if the end did. -/
theorem bis_spec (p : Int → Bool) : ∀ (f : Nat) (lo hi : Int) (t : List Int), 0 ≤ lo → lo < hi → (bis p f lo hi t).1 ≤ hi ∧ lo < (bis p f lo hi t).1 ∧ (p hi = true → p (bis p f lo hi t).1 = true)
  | 0, lo, hi, t, h0, h1 => ⟨Int.le_refl _, h1, id⟩
  | f + 1, lo, hi, t, h0, h1 => by
    rw [bis]
    split
    · split
      · rename_i hp
        obtain ⟨a, b, c⟩ := bis_spec p f lo ((lo + hi) / 2) (t ++ [(lo + hi) / 2]) h0 (by omega)
        exact ⟨by omega, b, fun _ => c hp⟩
      · obtain ⟨a, b, c⟩ := bis_spec p f ((lo + hi) / 2) hi (t ++ [(lo + hi) / 2]) (by omega) (by omega)
        exact ⟨a, by omega, c⟩
    · exact ⟨Int.le_refl _, h1, id⟩

theorem bis_small (p : Int → Bool) {f : Nat} {lo hi : Int} {t : List Int} (h : ¬ hi - lo > 1) : bis p f lo hi t = (hi, t) := by
  cases f with
  | zero => rfl
  | succ f => rw [bis, if_neg h]

theorem bis_len (p : Int → Bool) : ∀ (f : Nat) (lo hi : Int) (t : List Int), (bis p f lo hi t).2.length ≤ t.length + f
  | 0, _, _, t => by simp [bis]
  | f + 1, lo, hi, t => by
    rw [bis]
    split
    · split
      · have := bis_len p f lo ((lo + hi) / 2) (t ++ [(lo + hi) / 2]); simp at this; omega
      · have := bis_len p f ((lo + hi) / 2) hi (t ++ [(lo + hi) / 2]); simp at this; omega
    · simp

def pFirst (cs : List (List Int)) (others : List Int) (k : Int) : Bool := failing cs (upTo k.toNat ++ others)

def firstR (n : Int) (cs : List (List Int)) : Int × List Int × (Int × Int) :=
  if (fault n cs).1 = 0 ∧ (fault n cs).2 = 0 then
    if failing cs (upTo n.toNat) then ((sres (pFirst cs []) n).1 - 1, n :: (sres (pFirst cs []) n).2, (0, 0)) else (0, [], (6, -1))
  else (0, [], fault n cs)

def minLoop (cs : List (List Int)) : Nat → Int → List Int → List Int
  | 0, _, found => found
  | f + 1, n, found => if failing cs found then found else minLoop cs f ((sres (pFirst cs found) n).1 - 1) (((sres (pFirst cs found) n).1 - 1) :: found)

def minimalR (n : Int) (cs : List (List Int)) : List Int × (Int × Int) :=
  if (fault n cs).1 = 0 ∧ (fault n cs).2 = 0 then
    if failing cs (upTo n.toNat) then (minLoop cs (n.toNat + 1) n [], (0, 0)) else ([], (6, -1))
  else ([], fault n cs)

def gstep (cs : List (List Int)) (out : List Int) (c : Int) : List Int := if failing cs (out ++ [c]) then out else out ++ [c]
def greedy (cs : List (List Int)) (n : Nat) : List Int := (upTo n).foldl (gstep cs) []
def greedyR (n : Int) (cs : List (List Int)) : List Int × (Int × Int) :=
  if (fault n cs).1 = 0 ∧ (fault n cs).2 = 0 then (greedy cs n.toNat, (0, 0)) else ([], fault n cs)

def failsR (n : Int) (cs : List (List Int)) (set : List Int) : Bool × (Int × Int) :=
  if (fault n cs).1 = 0 ∧ (fault n cs).2 = 0 then (if setCode n (-1) set ≠ 0 then (false, (setCode n (-1) set, -2)) else (failing cs set, (0, 0))) else (false, fault n cs)

theorem failing_mono {cs : List (List Int)} {a b : List Int} (h : ∀ x ∈ a, x ∈ b) (hf : failing cs a = true) : failing cs b = true := by
  unfold failing at hf ⊢
  rw [List.any_eq_true] at hf ⊢
  obtain ⟨c, hc, h1⟩ := hf
  refine ⟨c, hc, ?_⟩
  rw [List.all_eq_true] at h1 ⊢
  intro x hx
  have := h1 x hx
  simp only [decide_eq_true_eq] at this ⊢
  exact h x this

theorem greedy_len (cs : List (List Int)) (n : Nat) : (greedy cs n).length ≤ n := by
  unfold greedy
  induction n with
  | zero => simp [upTo]
  | succ n ih =>
    rw [upTo_succ, List.foldl_append, List.foldl_cons, List.foldl_nil]
    unfold gstep at ih ⊢
    split
    · omega
    · rw [List.length_append]; simp; omega

theorem fault_le {n : Int} {cs : List (List Int)} (h : (fault n cs).1 = 0) : 0 ≤ n ∧ n ≤ 16 ∧ cs.length ≤ 8 := by
  unfold fault at h
  split at h
  · simp at h
  · split at h
    · simp at h
    · omega
end Bat

variable {F : Nat → Option RFunc}

abbrev PrefixC (F : Nat → Option RFunc) (f : Nat) : Prop := ∀ {fl H Q} {n : Int}, fl ≤ H.length → n ≤ 2 ^ 29 → (∀ w H', Keep H.length H H' → Acc H tInt H' w (upTo n.toNat) → Q w H') → Ret F fl f [i64 n] H Q
theorem prefix_c {f : Nat} (hF : F f = some rf_batchbisect_prefix) : PrefixC F f := fun {fl H Q n} hfl hl hq => by
  refine v_batchbisect_prefix hF _ ?_
  refine ⟨fun m v w H' => ∃ i : Nat, v = i ∧ i + m = n.toNat ∧ Keep H.length H H' ∧ Acc H tInt H' w (upTo i), n.toNat, ⟨0, rfl, by omega, Keep.refl H, Acc.nil⟩, ?_⟩
  rintro m _ w H' ⟨i, rfl, hm, hk, hw⟩
  refine ⟨fun hlt b H1 hb => ?_, fun hge => ?_⟩
  · obtain ⟨w', H2, h1, h2, h3, _⟩ := hw.push (fl := fl) (free := true) (bytes := 8) (a := (i : Int)) rfl hb hk hfl (by rw [upTo_len]; omega) (by omega)
    refine ⟨w', H2, h1, m - 1, by omega, i + 1, wsucc (n := n.toNat) (by omega) (by omega), by omega, h3, ?_⟩
    rw [upTo_succ]; exact h2
  · have : i = n.toNat := by omega
    subst this
    exact hq w H' hk hw

/-- A function value that tests a number. -/
def TestsN (F : Nat → Option RFunc) (fl : Nat) (H : Heap) (g : Nat) (caps : List AV) (n : Int) (p : Int → Bool) : Prop :=
  ∀ (k : Int) (H' : Heap), 0 ≤ k → k ≤ n → Keep H.length H H' → Ret F fl g ([i64 k] ++ caps) H' fun v H'' => v = .bool (p k) ∧ Keep H'.length H' H''

abbrev SearchC (F : Nat → Option RFunc) (f : Nat) : Prop := ∀ {fl H Q n g caps p}, fl ≤ H.length → 0 ≤ n → n ≤ 2 ^ 20 → TestsN F fl H g caps n p → (∀ w H', Keep H.length H H' → Acc H tInt H' w (sres p n).2 → Q (.tuple [i64 (sres p n).1, w]) H') → Ret F fl f [i64 n, .func g caps] H Q
theorem search_c {f : Nat} (hF : F f = some rf_batchbisect_search) : SearchC F f := fun {fl H Q n g caps p} hfl hn0 hn ht hq => by
  refine v_batchbisect_search hF _ _ _ ?_
  refine ⟨fun m hi lo w H' => ∃ t, 0 ≤ lo ∧ lo ≤ hi ∧ hi ≤ n ∧ (hi - lo).toNat ≤ m ∧ m + t.length ≤ n.toNat ∧ Keep H.length H H' ∧ Acc H tInt H' w t ∧ sres p n = bis p m lo hi t, n.toNat, ⟨[], by omega, by omega, by omega, by omega, by simp, Keep.refl H, Acc.nil, rfl⟩, ?_⟩
  rintro m hi lo w H' ⟨t, h0, h1, h2, hm, hl, hk, hw, hs⟩
  have e1 : IntKind.wrap .i64 (hi - lo) = hi - lo := by rw [wrap64 (by omega) (by omega)]
  have e2 : IntKind.wrap .i64 (lo + hi) = lo + hi := by rw [wrap64 (by omega) (by omega)]
  have e3 : IntKind.wrap .i64 ((lo + hi).tdiv 2) = (lo + hi) / 2 := by rw [Int.tdiv_eq_ediv_of_nonneg (by omega), wrap64 (by omega) (by omega)]
  rw [e1, e2, e3]
  refine ⟨fun hgt b H1 hb => ?_, fun hle => ?_⟩
  · obtain ⟨m, rfl⟩ : ∃ m', m = m' + 1 := ⟨m - 1, by omega⟩
    obtain ⟨w', H2, a1, a2, a3, _⟩ := hw.push (fl := fl) (free := true) (bytes := 8) (a := (lo + hi) / 2) rfl hb hk hfl (by omega) (by omega)
    refine ⟨w', H2, a1, (ht _ H2 (by omega) (by omega) a3).mono ?_⟩
    rintro _ H3 ⟨rfl, k3⟩
    rw [bis, if_pos hgt] at hs
    refine ⟨_, rfl, fun hp => ⟨m, by omega, t ++ [(lo + hi) / 2], by omega, by omega, by omega, by omega, by simp; omega, a3.call k3, a2.keep k3, by rw [hs, if_pos hp]⟩,
      fun hp => ⟨m, by omega, t ++ [(lo + hi) / 2], by omega, by omega, by omega, by omega, by simp; omega, a3.call k3, a2.keep k3, by rw [hs, if_neg hp]⟩⟩
  · rw [bis_small p hle] at hs
    have := hq w H' hk (by rw [hs]; exact hw)
    rw [hs] at this; exact this

/-- A fault that is none. -/
theorem ok_iff {a b : Int} : ¬ ¬ (a = 0 ∧ b = 0 ∧ True) ↔ (a = 0 ∧ b = 0) := by
  constructor
  · intro h; by_cases h1 : a = 0 ∧ b = 0
    · exact h1
    · exact absurd (fun h2 => h1 ⟨h2.1, h2.2.1⟩) h
  · intro h h1; exact h1 ⟨h.1, h.2, trivial⟩

abbrev FailsC (F : Nat → Option RFunc) (f : Nat) : Prop := ∀ {fl H Q n v w cs set}, Lists H v cs → Ints H w set → (∀ H', Keep H.length H H' → Q (.tuple [.bool (failsR n cs set).1, ff (failsR n cs set).2]) H') → Ret F fl f [i64 n, v, w] H Q
theorem fails_c {f n1 n2 n3 : Nat} (hF : F f = some (rf_batchbisect_Fails n1 n2 n3)) (h1 : CulFaultC F n1) (h2 : SetCodeC F n2) (h3 : FailingC F n3) : FailsC F f := fun {fl H Q n v w cs set} hv hw hq => by
  refine v_batchbisect_Fails hF _ _ _ ?_
  intro H1 d1
  refine h1 (hv.keep d1.keep) fun H2 k2 => ⟨_, _, rfl, fun H3 d3 => ?_⟩
  have k3 := (d1.keep.call k2).call d3.keep
  refine ⟨fun hne => ?_, fun he => ?_⟩
  · have := hq H3 k3
    rw [failsR, if_neg (fun h => hne ⟨h.1, h.2, trivial⟩)] at this; exact this
  · have hok := ok_iff.1 he
    refine h2 (hw.keep k3) ⟨_, rfl, fun hc => ?_, fun hc => h3 (hv.keep k3) (hw.keep k3) fun H4 k4 => ⟨_, rfl, ?_⟩⟩
    · have := hq H3 k3
      rw [failsR, if_pos hok, if_pos hc] at this; exact this
    · have := hq H4 (k3.call k4)
      rw [failsR, if_pos hok, if_neg hc] at this; exact this

abbrev FirstC (F : Nat → Option RFunc) (f : Nat) : Prop := ∀ {fl H Q n v cs}, Lists H v cs → fl ≤ H.length → (∀ w H', Keep H.length H H' → Ints H' w (firstR n cs).2.1 → Q (.tuple [i64 (firstR n cs).1, w, ff (firstR n cs).2.2]) H') → Ret F fl f [i64 n, v] H Q

theorem first_c {f n1 n2 n3 n4 n5 : Nat} (hF : F f = some (rf_batchbisect_First n1 n2 n3 n4 n5)) (h1 : CulFaultC F n1) (h2 : PrefixC F n2) (h3 : FailingC F n3) (h4 : F n4 = some (rf_batchbisect_Firstx1 n2 n3)) (h5 : SearchC F n5) : FirstC F f := fun {fl H Q n v cs} hv hfl hq => by
  refine v_batchbisect_First hF _ _ ⟨hv.scal, fun b H1 hb H2 d2 => ?_⟩
  have kb := hb.keep
  have k2 := kb.call d2.keep
  have c2 : Cell H2 b v := hb.cell.keep d2.keep
  refine ⟨_, c2.load, h1 (hv.keep k2) fun H3 k3 => ⟨_, _, rfl, fun H4 d4 => ?_⟩⟩
  have k4 := (k2.call k3).call d4.keep
  have c4 := (c2.keep k3).keep d4.keep
  refine ⟨fun hne => ?_, fun he => ?_⟩
  · have := hq .empty H4 k4
    rw [firstR, if_neg (fun h => hne ⟨h.1, h.2, trivial⟩)] at this; exact this Arr.nil
  · have hok := ok_iff.1 he
    obtain ⟨g0, g16, _⟩ := fault_le hok.1
    refine ⟨_, c4.load, h2 (Nat.le_refl _) (by omega) fun w H5 k5 hw => h3 (hv.keep (k4.call k5)) (hw.arr k5) fun H6 k6 => ⟨_, rfl, fun hnf => ?_, fun hf => ?_⟩⟩
    · have := hq .empty H6 ((k4.call k5).call k6)
      rw [firstR, if_pos hok, if_neg hnf] at this; exact this Arr.nil
    · have k7 := (k4.call k5).call k6
      have c7 := (c4.keep k5).keep k6
      have hfl7 := k7.fl hfl
      have hff : failing cs (upTo n.toNat) = true := by simpa using hf
      refine h5 (p := pFirst cs []) hfl7 g0 (by omega) ?_ fun u H8 k8 hu => ⟨_, _, rfl, fun b2 H9 hb2 => ?_⟩
      · intro k H8 g1 g2 k8
        refine v_batchbisect_Firstx1 h4 _ _ ⟨b, 0, rfl, v, (c7.keep k8).load, h2 (Nat.le_refl _) (by omega) fun w H9 k9 hw => h3 (hv.keep ((k7.call k8).call k9)) (hw.arr k9) fun H10 k10 => ⟨_, rfl, ?_, k9.call k10⟩⟩
        rw [pFirst, List.append_nil]
      · have k9 := (k7.call k8).call hb2.keep
        have hlen := bis_len (pFirst cs []) n.toNat 0 n []
        have hb9 : Acc H8 tInt H9 (.slice b2 0 1 (some 1)) [n] := NewB.acc (T := tInt) (l := [n]) (css := [[i64 n]]) hb2 ⟨rfl, trivial⟩ rfl (Nat.le_refl _) rfl
        obtain ⟨w9, H10, a1, a2, a3, _⟩ := hb9.appendP (fl := fl) (free := true) (bytes := 8) tInt.plain ((hu.arrP tInt.plain).keep hb2.keep) hb2.keep (Nat.le_trans hfl7 k8.len) (by
          rw [List.length_singleton, sres]; simp at hlen; omega) (by omega)
        refine ⟨w9, H10, a1, ?_⟩
        have hb1 := bis_spec (pFirst cs []) n.toNat 0 n [] (Int.le_refl _)
        have e1 : IntKind.wrap .i64 ((sres (pFirst cs []) n).1 - 1) = (sres (pFirst cs []) n).1 - 1 := by
          by_cases hn : 0 < n
          · obtain ⟨x1, x2, _⟩ := hb1 hn
            rw [wrap64] <;> (unfold sres; omega)
          · have : sres (pFirst cs []) n = (n, []) := by rw [sres, bis_small _ (by omega)]
            rw [this, wrap64] <;> simp only <;> omega
        rw [e1]
        have := hq w9 H10 ((k7.call k8).call a3)
        rw [firstR, if_pos hok, if_pos hff] at this
        exact this (a2.arrP tInt.plain)

abbrev GreedyC (F : Nat → Option RFunc) (f : Nat) : Prop := ∀ {fl H Q n v cs}, Lists H v cs → fl ≤ H.length → (∀ w H', Keep H.length H H' → Ints H' w (greedyR n cs).1 → Q (.tuple [w, ff (greedyR n cs).2]) H') → Ret F fl f [i64 n, v] H Q

theorem greedy_c {f n1 n2 : Nat} (hF : F f = some (rf_batchbisect_Greedy n1 n2)) (h1 : CulFaultC F n1) (h2 : FailingC F n2) : GreedyC F f := fun {fl H Q n v cs} hv hfl hq => by
  refine v_batchbisect_Greedy hF _ _ ?_
  intro H1 d1
  refine h1 (hv.keep d1.keep) fun H2 k2 => ⟨_, _, rfl, fun H3 d3 => ?_⟩
  have k3 := (d1.keep.call k2).call d3.keep
  refine ⟨fun hne => ?_, fun he => ?_⟩
  · have := hq .empty H3 k3
    rw [greedyR, if_neg (fun h => hne ⟨h.1, h.2, trivial⟩)] at this; exact this Arr.nil
  · have hok := ok_iff.1 he
    obtain ⟨g0, g16, _⟩ := fault_le hok.1
    refine ⟨fun m v w H' => ∃ i : Nat, v = i ∧ i + m = n.toNat ∧ Keep H.length H H' ∧ AccR H tInt H' w (greedy cs i), n.toNat, ⟨0, rfl, by omega, k3, AccR.nil⟩, ?_⟩
    rintro m _ w H' ⟨i, rfl, hm, hk, hw⟩
    refine ⟨fun hlt b H4 hb => ?_, fun hge => ?_⟩
    · have hgl := greedy_len cs i
      obtain ⟨w', H5, a1, a2, a3, a4⟩ := hw.push (fl := fl) (bytes := 8) (a := (i : Int)) rfl hb hk hfl (by omega) (by omega)
      have hk5 := a4
      have hg : greedy cs (i + 1) = gstep cs (greedy cs i) i := by rw [greedy, upTo_succ, List.foldl_append]; rfl
      refine ⟨w', H5, a1, h2 (hv.keep hk5) (a2.arr hk5) fun H6 k6 => ⟨_, rfl, fun hnf => ?_, fun hf => ?_⟩⟩
      · refine ⟨m - 1, by omega, i + 1, wsucc (n := n.toNat) (by omega) (by omega), by omega, hk5.call k6, ?_⟩
        rw [hg, gstep, if_neg hnf]; exact a2.keep k6
      · refine ⟨m - 1, by omega, i + 1, wsucc (n := n.toNat) (by omega) (by omega), by omega, hk5.call k6, ?_⟩
        rw [hg, gstep, if_pos (by simpa using hf)]; exact a3.keep k6
    · have : i = n.toNat := by omega
      subst this
      have := hq w H' hk
      rw [greedyR, if_pos hok] at this; exact this (hw.arr hk)

end Go.RM
