/-
  Package batchbisect: the minimal set; the reference's first failing change.
-/
import Derived.Test.YtknhokihjigpiaaBatC2
namespace Go.RM
set_option linter.unusedSimpArgs false
set_option linter.unusedVariables false
open Bat

namespace Bat
theorem failing_perm {cs : List (List Int)} {a b : List Int} (h : ∀ x, x ∈ a ↔ x ∈ b) : failing cs a = failing cs b := by
  rw [Bool.eq_iff_iff]
  exact ⟨failing_mono fun x hx => (h x).1 hx, failing_mono fun x hx => (h x).2 hx⟩

/-- One step of the search for a minimal set. -/
theorem min_step {cs : List (List Int)} {n : Int} {found : List Int} (h0 : 0 ≤ n) (hf : failing cs (upTo n.toNat ++ found) = true) (hn : ¬ failing cs found = true) :
    0 < (sres (pFirst cs found) n).1 ∧ (sres (pFirst cs found) n).1 ≤ n ∧ failing cs (upTo ((sres (pFirst cs found) n).1 - 1).toNat ++ (((sres (pFirst cs found) n).1 - 1) :: found)) = true := by
  have hpos : 0 < n := by
    rcases Int.lt_or_eq_of_le h0 with h | h
    · exact h
    · subst h; exact absurd (by simpa [upTo] using hf) hn
  obtain ⟨h1, h2, h3⟩ := bis_spec (pFirst cs found) n.toNat 0 n [] (Int.le_refl _) hpos
  refine ⟨h2, h1, ?_⟩
  have hp := h3 hf
  rw [pFirst] at hp
  rw [← hp]
  unfold sres
  apply failing_perm
  intro x
  simp only [List.mem_append, List.mem_cons, mem_upTo]
  constructor
  · rintro (h | h | h)
    · left; omega
    · left; omega
    · exact .inr h
  · rintro (h | h)
    · by_cases e : x = (bis (pFirst cs found) n.toNat 0 n []).1 - 1
      · exact .inr (.inl e)
      · left; omega
    · exact .inr (.inr h)

theorem minLoop_stop {cs : List (List Int)} {f : Nat} {n : Int} {found : List Int} (h : failing cs found = true) : minLoop cs f n found = found := by
  cases f with
  | zero => rfl
  | succ f => rw [minLoop, if_pos h]
end Bat

variable {F : Nat → Option RFunc}

abbrev MinimalC (F : Nat → Option RFunc) (f : Nat) : Prop := ∀ {fl H Q n v cs}, Lists H v cs → fl ≤ H.length → (∀ w H', Keep H.length H H' → Ints H' w (minimalR n cs).1 → Q (.tuple [w, ff (minimalR n cs).2]) H') → Ret F fl f [i64 n, v] H Q

theorem minimal_c {f n1 n2 n3 n4 n5 : Nat} (hF : F f = some (rf_batchbisect_Minimal n1 n2 n3 n4 n5)) (h1 : CulFaultC F n1) (h2 : PrefixC F n2) (h3 : FailingC F n3) (h4 : F n4 = some (rf_batchbisect_Minimalx1 n2 n3)) (h5 : SearchC F n5) : MinimalC F f := fun {fl H Q n v cs} hv hfl hq => by
  refine v_batchbisect_Minimal hF _ _ ⟨hv.scal, fun b H1 hb H2 d2 => ?_⟩
  have kb := hb.keep
  have k2 := kb.call d2.keep
  have c2 : Cell H2 b v := hb.cell.keep d2.keep
  refine ⟨_, c2.load, h1 (hv.keep k2) fun H3 k3 => ⟨_, _, rfl, fun H4 d4 => ?_⟩⟩
  have k4 := (k2.call k3).call d4.keep
  have c4 := (c2.keep k3).keep d4.keep
  refine ⟨fun hne => ?_, fun he => ?_⟩
  · have := hq .empty H4 k4
    rw [minimalR, if_neg (fun h => hne ⟨h.1, h.2, trivial⟩)] at this; exact this Arr.nil
  · have hok := ok_iff.1 he
    obtain ⟨g0, g16, _⟩ := fault_le hok.1
    refine ⟨_, c4.load, h2 (Nat.le_refl _) (by omega) fun w H5 k5 hw => h3 (hv.keep (k4.call k5)) (hw.arr k5) fun H6 k6 => ⟨_, rfl, fun hnf => ?_, fun hf b2 H7 hb2 => ?_⟩⟩
    · have := hq .empty H6 ((k4.call k5).call k6)
      rw [minimalR, if_pos hok, if_neg hnf] at this; exact this Arr.nil
    · have k6' := (k4.call k5).call k6
      have k7 := k6'.call hb2.keep
      have c7 := ((c4.keep k5).keep k6).keep hb2.keep
      have hff : failing cs (upTo n.toNat) = true := by simpa using hf
      have hres : minimalR n cs = (minLoop cs (n.toNat + 1) n [], (0, 0)) := by rw [minimalR, if_pos hok, if_pos hff]
      rw [hres] at hq
      obtain ⟨R, hR⟩ : ∃ R, R = minLoop cs (n.toNat + 1) n [] := ⟨_, rfl⟩
      rw [← hR] at hq
      have hbb : b < b2 := by
        have := hb2.b_eq
        have := ((c4.keep k5).keep k6).lt
        omega
      have hb2l : H.length ≤ b2 := by rw [hb2.b_eq]; exact Nat.le_trans k6'.low k6'.len
      refine ⟨fun m k H' => ∃ (fv : AV) (found : List Int), 0 ≤ k ∧ k ≤ 16 ∧ k.toNat + 1 ≤ m ∧ found.length + m ≤ 17 ∧ Keep H.length H H' ∧ Cell H' b v ∧ Cell H' b2 fv ∧ Ints H' fv found ∧ failing cs (upTo k.toNat ++ found) = true ∧ R = minLoop cs m k found, n.toNat + 1, ⟨.empty, [], g0, g16, Nat.le_refl _, by simp; omega, k7, c7, hb2.cell, Arr.nil, by simpa using hff, hR⟩, ?_⟩
      rintro m k H' ⟨fv, found, g1, g2, hm, hml, hk, hc1, hc2, hfv, hinv, heq⟩
      refine ⟨_, hc1.load, _, hc2.load, h3 (hv.keep hk) hfv fun H8 k8 => ⟨_, rfl, fun hnf => ?_, fun hf => ?_⟩⟩
      · obtain ⟨m, rfl⟩ : ∃ m', m = m' + 1 := ⟨m - 1, by omega⟩
        obtain ⟨s1, s2, s3⟩ := min_step g1 hinv hnf
        rw [minLoop, if_neg hnf] at heq
        have hk8 := hk.call k8
        have hfl8 := hk8.fl hfl
        refine h5 (p := pFirst cs found) hfl8 g1 (by omega) ?_ fun u H9 k9 hu => ⟨_, _, rfl, fun b3 H10 hb3 => ?_⟩
        · intro j H9 e1 e2 k9
          refine v_batchbisect_Minimalx1 h4 _ _ _ ⟨b, 0, rfl, v, ((hc1.keep k8).keep k9).load, h2 (Nat.le_refl _) (by omega) fun w H10 k10 hw => ⟨b2, 0, rfl, fv, (((hc2.keep k8).keep k9).keep k10).load, ?_⟩⟩
          obtain ⟨w11, H11, a1, a2, a3, _⟩ := hw.appendP (fl := fl) (free := false) (bytes := 8) tInt.plain (((hfv.keep k8).keep k9).keep k10) k10 (Nat.le_trans hfl8 k9.len) (by rw [upTo_len]; omega) (by omega)
          refine ⟨w11, H11, a1, h3 (hv.keep ((hk8.call k9).call a3)) (a2.arr a3) fun H12 k12 => ⟨_, rfl, rfl, a3.call k12⟩⟩
        · have k10 := k9.call hb3.keep
          have hk10 := hk8.call k10
          have e1 : IntKind.wrap .i64 ((sres (pFirst cs found) k).1 - 1) = (sres (pFirst cs found) k).1 - 1 := by rw [wrap64 (by omega) (by omega)]
          rw [e1] at hb3 ⊢
          refine ⟨fv, ((hc2.keep k8).keep k10).load, ?_⟩
          have hb3' : Acc H9 tInt H10 (.slice b3 0 1 (some 1)) [(sres (pFirst cs found) k).1 - 1] := NewB.acc (T := tInt) (l := [(sres (pFirst cs found) k).1 - 1]) (css := [[i64 ((sres (pFirst cs found) k).1 - 1)]]) hb3 ⟨rfl, trivial⟩ rfl (Nat.le_refl _) rfl
          obtain ⟨w11, H11, a1, a2, a3, _⟩ := hb3'.appendP (fl := fl) (free := true) (bytes := 8) tInt.plain ((hfv.keep k8).keep k10) hb3.keep (Nat.le_trans hfl8 k9.len) (by simp; omega) (by omega)
          have k11 : Keep H8.length H8 H11 := k9.call a3
          obtain ⟨H12, p1, p2, p3⟩ := ((hc2.keep k8).keep k11).put (fl := fl) (w := w11) (Nat.le_trans hfl hb2l) a2.scal
          have hlt : b2 < H9.length := ((hc2.keep k8).keep k9).lt
          refine ⟨w11, H11, a1, H12, p1, m, Nat.lt_succ_self _, w11, _, by omega, by omega, by omega, by simp; omega, (hk8.call k11).tr (p3.keep hb2l (Nat.le_trans hk8.low (Nat.le_trans hk8.len k11.len))), p3.cell ((hc1.keep k8).keep k11) (by omega), p2, (p3.acc a2 hlt).arrP tInt.plain, s3, heq⟩
      · have hff' : failing cs found = true := by simpa using hf
        rw [minLoop_stop hff'] at heq
        refine ⟨fv, (hc2.keep k8).load, ?_⟩
        have := hq fv H8 (hk.call k8)
        rw [heq] at this
        exact this (hfv.keep k8)

namespace Bat
/-- The least change c for which the changes 0 to c, together with others, fail, or -1. -/
def firstFrom (cs : List (List Int)) (others : List Int) : Nat → Int → Int
  | 0, _ => -1
  | f + 1, c => if failing cs (upTo (c + 1).toNat ++ others) then c else firstFrom cs others f (c + 1)
def firstFailing (n : Int) (cs : List (List Int)) (others : List Int) : Int := firstFrom cs others n.toNat 0
end Bat

abbrev FirstFailingC (F : Nat → Option RFunc) (f : Nat) : Prop := ∀ {fl H Q n v w cs others}, Lists H v cs → Ints H w others → fl ≤ H.length → n ≤ 2 ^ 20 → others.length ≤ 2 ^ 20 → (∀ H', Keep H.length H H' → Q (i64 (firstFailing n cs others)) H') → Ret F fl f [i64 n, v, w] H Q
theorem fFirstFailing_c {f n1 n2 : Nat} (hF : F f = some (rf_FFirstFailing n1 n2)) (h1 : FFirstC F n1) (h2 : FailingC F n2) : FirstFailingC F f := fun {fl H Q n v w cs others} hv hw hfl hn ho hq => by
  refine v_FFirstFailing hF _ _ _ ?_
  refine ⟨fun m c H' => ∃ i : Nat, c = i ∧ i + m = n.toNat ∧ Keep H.length H H' ∧ firstFailing n cs others = firstFrom cs others m i, n.toNat, ⟨0, rfl, by omega, Keep.refl H, rfl⟩, ?_⟩
  rintro m _ H' ⟨i, rfl, hm, hk, hi⟩
  refine ⟨fun hlt => ?_, fun hge => ?_⟩
  · obtain ⟨m, rfl⟩ : ∃ m', m = m' + 1 := ⟨m - 1, by omega⟩
    rw [firstFrom] at hi
    have e1 : IntKind.wrap .i64 ((i : Int) + 1) = (i : Int) + 1 := by rw [wrap64 (by omega) (by omega)]
    rw [e1]
    refine h1 (hk.fl hfl) (by omega) fun u H2 k2 hu => ?_
    obtain ⟨a, H3, a1, a2, a3, _⟩ := hu.appendP (fl := fl) (free := true) (bytes := 8) tInt.plain ((hw.keep hk).keep k2) k2 (hk.fl hfl) (by rw [upTo_len]; omega) (by omega)
    refine ⟨a, H3, a1, h2 (hv.keep (hk.call a3)) (a2.arr a3) fun H4 k4 => ⟨_, rfl, fun hf => ?_, fun hf => ⟨m, Nat.lt_succ_self _, i + 1, by omega, by omega, (hk.call a3).call k4, ?_⟩⟩⟩
    · have := hq H4 ((hk.call a3).call k4)
      rw [hi, if_pos hf] at this; exact this
    · rw [hi, if_neg hf]; rfl
  · have hm0 : m = 0 := by omega
    subst hm0
    have := hq H' hk
    rw [hi] at this; exact this

end Go.RM
