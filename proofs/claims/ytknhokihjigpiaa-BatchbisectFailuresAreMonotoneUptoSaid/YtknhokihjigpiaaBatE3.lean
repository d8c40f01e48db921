/-
  The functions of batchbisect answer as the reference says, over the abstract machine.
-/
import Derived.Test.YtknhokihjigpiaaBatM
import Derived.Test.YtknhokihjigpiaaBatE2
namespace Go.RM
set_option linter.unusedSimpArgs false
set_option linter.unusedVariables false
open Bat

namespace Bat
theorem pFirst_mono {cs : List (List Int)} {o : List Int} {a b : Int} (h : a ≤ b) (hp : pFirst cs o a = true) : pFirst cs o b = true := by
  unfold pFirst at hp ⊢
  refine failing_mono (fun x hx => ?_) hp
  rw [List.mem_append, mem_upTo] at hx ⊢
  rcases hx with hx | hx
  · left; omega
  · exact .inr hx

theorem firstFrom_spec (cs : List (List Int)) (o : List Int) : ∀ (f : Nat) (c : Int), (firstFrom cs o f c = -1 ∧ ∀ j : Int, c ≤ j → j < c + f → pFirst cs o (j + 1) = false) ∨ (c ≤ firstFrom cs o f c ∧ firstFrom cs o f c < c + f ∧ pFirst cs o (firstFrom cs o f c + 1) = true ∧ ∀ j : Int, c ≤ j → j < firstFrom cs o f c → pFirst cs o (j + 1) = false)
  | 0, c => .inl ⟨rfl, fun j h1 h2 => by omega⟩
  | f + 1, c => by
    rw [firstFrom]
    by_cases h : failing cs (upTo (c + 1).toNat ++ o) = true
    · rw [if_pos h]
      exact .inr ⟨Int.le_refl _, by omega, h, fun j h1 h2 => by omega⟩
    · rw [if_neg h]
      have hc : pFirst cs o (c + 1) = false := by simpa [pFirst] using h
      rcases firstFrom_spec cs o f (c + 1) with ⟨h1, h2⟩ | ⟨h1, h2, h3, h4⟩
      · refine .inl ⟨h1, fun j g1 g2 => ?_⟩
        by_cases e : j = c
        · subst e; exact hc
        · exact h2 j (by omega) (by omega)
      · refine .inr ⟨by omega, by omega, h3, fun j g1 g2 => ?_⟩
        by_cases e : j = c
        · subst e; exact hc
        · exact h4 j (by omega) g2

/-- The least failing change, found in another way. -/
theorem firstFailing_eq {cs : List (List Int)} {o : List Int} {n k : Int} (h0 : 0 < k) (hk : k ≤ n) (h1 : pFirst cs o k = true) (h2 : pFirst cs o (k - 1) = false) : firstFailing n cs o = k - 1 := by
  rcases firstFrom_spec cs o n.toNat 0 with ⟨a, b⟩ | ⟨a, b, c, d⟩
  · have := b (k - 1) (by omega) (by omega)
    rw [show k - 1 + 1 = k by omega, h1] at this; cases this
  · unfold firstFailing
    by_cases e : firstFrom cs o n.toNat 0 + 1 ≤ k - 1
    · rw [pFirst_mono e c] at h2; cases h2
    · by_cases e2 : k - 1 < firstFrom cs o n.toNat 0
      · have := d (k - 1) (by omega) e2
        rw [show k - 1 + 1 = k by omega, h1] at this; cases this
      · omega

theorem fault_ne {n : Int} {cs : List (List Int)} (h : (fault n cs).1 ≠ 0) (set : List Int) : failsR n cs set = (false, fault n cs) ∧ firstR n cs = (0, [], fault n cs) ∧ minimalR n cs = ([], fault n cs) ∧ greedyR n cs = ([], fault n cs) := by
  have hn : ¬ ((fault n cs).1 = 0 ∧ (fault n cs).2 = 0) := fun g => h g.1
  refine ⟨by rw [failsR, if_neg hn], by rw [firstR, if_neg hn], by rw [minimalR, if_neg hn], by rw [greedyR, if_neg hn]⟩

end Bat

variable {F : Nat → Option RFunc}

theorem bspec_run {f n1 n2 n3 n4 n5 n6 n7 n8 n9 n10 n11 n12 n13 : Nat} (hF : F f = some (rf_LBatchbisectFunctionsMatchSpec n1 n2 n3 n4 n5 n6 n7 n8 n9 n10 n11 n12 n13)) (h1 : CulFaultC F n1) (h2 : FailsC F n2) (h3 : FirstC F n3) (h4 : MinimalC F n4) (h5 : GreedyC F n5) (h6 : ExampleC F n6) (h7 : CulFaultC F n7) (h8 : SetCodeC F n8) (h9 : FFaultC F n9) (h10 : FailingC F n10) (h11 : LandedC F n11) (h12 : FEqualIntsC F n12) (h13 : FirstFailingC F n13)
    {fl : Nat} {H : Heap} {n : Int} {v w : AV} {cs : List (List Int)} {set : List Int} (hv : Lists H v cs) (hw : Ints H w set) (hfl : fl ≤ H.length) : Ret F fl f [i64 n, v, w] H tru := by
  refine v_LBatchbisectFunctionsMatchSpec hF _ _ _ ?_
  refine h1 hv fun H5 k5 => ⟨_, _, rfl, fun H7 d7 => ?_⟩
  have k7 := k5.call d7.keep
  refine h2 (hv.keep k7) (hw.keep k7) fun H11 k11 => ⟨_, _, _, rfl, fun H13 d13 => ?_⟩
  have k13 := (k7.call k11).call d13.keep
  refine h3 (hv.keep k13) (k13.fl hfl) fun wt H18 k18 ht => ⟨_, _, _, _, rfl, fun H20 d20 => ?_⟩
  have k20 := (k13.call k18).call d20.keep
  have ht20 := ht.keep d20.keep
  refine h4 (hv.keep k20) (k20.fl hfl) fun wm H24 k24 hm => ⟨_, _, _, rfl, fun H26 d26 => ?_⟩
  have k26 := (k20.call k24).call d26.keep
  have ht26 := (ht20.keep k24).keep d26.keep
  have hm26 := hm.keep d26.keep
  refine h5 (hv.keep k26) (k26.fl hfl) fun wl H30 k30 hl => ⟨_, _, _, rfl, fun H32 d32 => ?_⟩
  have k32 := (k26.call k30).call d32.keep
  refine h6 (k32.fl hfl) fun H34 k34 => ⟨_, rfl, fun h => absurd rfl h, fun _ => h7 (hv.keep (k32.call k34)) fun H38 k38 => ⟨_, _, rfl, fun h => absurd ⟨rfl, rfl, trivial⟩ h, fun _ => ?_⟩⟩
  have kE : Keep H.length H H38 := (k32.call k34).call k38
  have htE := (((ht26.keep k30).keep d32.keep).keep k34).keep k38
  have hmE := (((hm26.keep k30).keep d32.keep).keep k34).keep k38
  have hlE := ((hl.keep d32.keep).keep k34).keep k38
  refine ⟨fun hne => ?_, fun heq => ?_⟩
  · obtain ⟨e1, e2, e3, e4⟩ := fault_ne hne set
    rw [e2] at htE
    rw [e3] at hmE
    rw [e4] at hlE
    refine ⟨0, htE.len, 0, hmE.len, 0, hlE.len, leaf ?_⟩
    rw [e1, e2, e3, e4]
    simp
  · have hf0 : (fault n cs).1 = 0 := by simpa using heq
    obtain ⟨g1, g2, g3, g4⟩ := fault_ok hf0
    refine ⟨fun H' => Keep H38.length H38 H', h8 (hw.keep kE) ⟨_, rfl, fun hc => h8 (hw.keep kE) ⟨_, rfl, h9 fun H60 k60 => ⟨_, _, rfl, fun h => ?_, fun _ => k60⟩⟩, fun hc => ⟨fun h => ?_, fun _ => h10 (hv.keep kE) (hw.keep kE) fun H63 k63 => ⟨_, rfl, fun h => ?_, fun _ => k63⟩⟩⟩, ?_⟩
    · exfalso
      rw [failsR, if_pos ⟨hf0, g1⟩, if_pos hc] at h
      rcases h with h | h
      · exact h ⟨rfl, rfl, trivial⟩
      · cases h
    · exfalso
      rw [failsR, if_pos ⟨hf0, g1⟩, if_neg hc] at h
      exact h rfl
    · exfalso
      rw [failsR, if_pos ⟨hf0, g1⟩, if_neg hc] at h
      exact h rfl
    · intro H51 kJ
      -- the greedy choices
      refine ⟨fun m i u H' => ∃ q : Nat, i = q ∧ q + m = n.toNat ∧ Keep H38.length H38 H' ∧ Acc H38 tInt H' u (greedy cs q), n.toNat, ⟨0, rfl, Nat.zero_add _, kJ, Acc.nil⟩, ?_⟩
      rintro m _ u H' ⟨q, rfl, hm', hk, hu⟩
      have hglen := greedy_len cs q
      have hflE := kE.fl hfl
      refine ⟨fun hlt => h11 (hv.keep (kE.call hk)) (hu.arrP tInt.plain) ((kE.call hk).fl hfl) (by omega) fun H2 k2 => ⟨_, rfl, fun ht b H3 d3 => ?_, fun hf => ?_⟩, fun hge => ?_⟩
      · obtain ⟨u2, H4, a1, a2, a3, _⟩ := (hu.keep k2).push (fl := fl) (free := true) (bytes := 8) (a := (q : Int)) rfl d3 (hk.call k2) hflE (by omega) (by omega)
        refine ⟨u2, H4, a1, m - 1, by omega, q + 1, wsucc (n := n.toNat) (by omega) (by omega), by omega, a3, ?_⟩
        rw [greedy_succ, gstep, if_neg (by simpa using ht)]; exact a2
      · refine ⟨m - 1, by omega, q + 1, wsucc (n := n.toNat) (by omega) (by omega), by omega, hk.call k2, ?_⟩
        rw [greedy_succ, gstep, if_pos (by simpa using hf)]; exact hu.keep k2
      · have hq : q = n.toNat := by omega
        subst hq
        have eg : greedyR n cs = (greedy cs n.toNat, (0, 0)) := by rw [greedyR, if_pos ⟨hf0, g1⟩]
        rw [eg] at hlE ⊢
        refine ⟨fun h => absurd rfl h, fun _ => h12 (hlE.keep hk) (hu.arrP tInt.plain) ⟨_, rfl, fun h => absurd (decide_eq_true rfl) h, fun _ => ?_⟩⟩
        have kF := kE.call hk
        refine h13 (hv.keep kF) Arr.nil (kF.fl hfl) (by omega) (by simp) fun H74 k74 => ⟨_, rfl, fun hneg => h9 fun H93 k93 => ⟨_, _, rfl, fun H95 d95 => ?_⟩, fun hpos b98 H99 d99 => ?_⟩
        · -- nothing fails
          have hno : failing cs (upTo n.toNat) = false := by
            rcases firstFrom_spec cs [] n.toNat 0 with ⟨a, b⟩ | ⟨a, _⟩
            · by_cases hn : n = 0
              · subst hn; simpa [upTo] using g4
              · have := b (n - 1) (by omega) (by omega)
                rw [pFirst, List.append_nil, show n - 1 + 1 = n by omega] at this; exact this
            · unfold firstFailing at hneg; omega
          have ef : firstR n cs = (0, [], (6, -1)) := by rw [firstR, if_pos ⟨hf0, g1⟩, if_neg (by simp [hno])]
          have em : minimalR n cs = ([], (6, -1)) := by rw [minimalR, if_pos ⟨hf0, g1⟩, if_neg (by simp [hno])]
          rw [ef] at htE
          rw [em] at hmE
          refine ⟨0, ((((htE.keep hk).keep k74).keep k93).keep d95.keep).len, 0, ((((hmE.keep hk).keep k74).keep k93).keep d95.keep).len, leaf ?_⟩
          rw [ef, em]; rfl
        · have k99 := (kF.call k74).call d99.keep
          have kk : Keep H38.length H38 H99 := (hk.call k74).call d99.keep
          -- the first failing change
          obtain ⟨r1, r2, r3, r4⟩ : 0 ≤ firstFailing n cs [] ∧ firstFailing n cs [] < n ∧ pFirst cs [] (firstFailing n cs [] + 1) = true ∧ ∀ j : Int, 0 ≤ j → j < firstFailing n cs [] → pFirst cs [] (j + 1) = false := by
            rcases firstFrom_spec cs [] n.toNat 0 with ⟨a, b⟩ | ⟨a, b, c, d⟩
            · unfold firstFailing at hpos; omega
            · exact ⟨a, by unfold firstFailing; omega, c, d⟩
          have hyes : failing cs (upTo n.toNat) = true := by
            have := pFirst_mono (b := n) (by omega) r3
            rw [pFirst, List.append_nil] at this; exact this
          obtain ⟨s1, s2, s3, s4⟩ := sres_spec (p := pFirst cs []) (n := n) (by simpa [pFirst, upTo] using g4) (by simpa [pFirst] using hyes) g2
          have hfirst := firstFailing_eq s1 s2 s3 s4
          have ef : firstR n cs = ((sres (pFirst cs []) n).1 - 1, n :: (sres (pFirst cs []) n).2, (0, 0)) := by rw [firstR, if_pos ⟨hf0, g1⟩, if_pos hyes]
          have em : minimalR n cs = (minLoop cs (n.toNat + 1) n [], (0, 0)) := by rw [minimalR, if_pos ⟨hf0, g1⟩, if_pos hyes]
          rw [ef] at htE ⊢
          rw [em] at hmE ⊢
          have hpk : ∀ k : Int, 0 ≤ k → (pFirst cs [] k = true ↔ k > firstFailing n cs []) := fun k hk0 => by
            constructor
            · intro h
              by_cases e : k > firstFailing n cs []
              · exact e
              · exfalso
                by_cases e0 : k = 0
                · subst e0
                  have : pFirst cs [] 0 = false := by simpa [pFirst, upTo] using g4
                  rw [this] at h; cases h
                · have := r4 (k - 1) (by omega) (by omega)
                  rw [show k - 1 + 1 = k by omega, h] at this; cases this
            · intro h; exact pFirst_mono (by omega) r3
          have hlen0 := bis_len (pFirst cs []) n.toNat 0 n []
          refine ⟨fun m hi lo u H' => ∃ t, 0 ≤ lo ∧ lo ≤ hi ∧ hi ≤ n ∧ (hi - lo).toNat ≤ m ∧ m + t.length ≤ n.toNat ∧ Keep H38.length H38 H' ∧ Acc H38 tInt H' u (n :: t) ∧ sres (pFirst cs []) n = bis (pFirst cs []) m lo hi t, n.toNat,
            ⟨[], by omega, by omega, by omega, by omega, by simp, kk, (NewB.acc (T := tInt) (l := [n]) (css := [[i64 n]]) d99 ⟨rfl, trivial⟩ rfl (Nat.le_trans (Nat.le_refl _) (Nat.le_trans hk.len k74.len)) rfl), rfl⟩, ?_⟩
          rintro m hi lo u H' ⟨t, q0, q1, q2, qm, ql, qk, qu, qs⟩
          have e1 : IntKind.wrap .i64 (hi - lo) = hi - lo := by rw [wrap64 (by omega) (by omega)]
          have e2 : IntKind.wrap .i64 (lo + hi) = lo + hi := by rw [wrap64 (by omega) (by omega)]
          have e3 : IntKind.wrap .i64 ((lo + hi).tdiv 2) = (lo + hi) / 2 := by rw [Int.tdiv_eq_ediv_of_nonneg (by omega), wrap64 (by omega) (by omega)]
          rw [e1, e2, e3]
          refine ⟨fun hgt b H1 hb => ?_, fun hle => ?_⟩
          · obtain ⟨m, rfl⟩ : ∃ m', m = m' + 1 := ⟨m - 1, by omega⟩
            obtain ⟨u2, H2, a1, a2, a3, _⟩ := qu.push (fl := fl) (free := true) (bytes := 8) (a := (lo + hi) / 2) rfl hb qk hflE (by simp; omega) (by omega)
            rw [bis, if_pos hgt] at qs
            refine ⟨u2, H2, a1, fun hp => ⟨m, by omega, t ++ [(lo + hi) / 2], by omega, by omega, by omega, by omega, by simp; omega, a3, a2, by rw [qs, if_pos ((hpk _ (by omega)).2 hp)]⟩,
              fun hp => ⟨m, by omega, t ++ [(lo + hi) / 2], by omega, by omega, by omega, by omega, by simp; omega, a3, a2, by rw [qs, if_neg fun h => hp ((hpk _ (by omega)).1 h)]⟩⟩
          · rw [bis_small (pFirst cs []) hle] at qs
            refine ⟨fun h => ?_, fun _ => h12 (htE.keep qk) (qu.arrP tInt.plain) ⟨_, rfl, fun h => absurd (decide_eq_true (by rw [qs])) h, fun _ => ?_⟩⟩
            · rcases h with h | h
              · exact absurd rfl h
              · exact absurd hfirst.symm h
            · -- the minimal set
              obtain ⟨R, hR⟩ : ∃ R, R = minLoop cs (n.toNat + 1) n [] := ⟨_, rfl⟩
              rw [← hR] at hmE ⊢
              refine ⟨fun m u H2 => ∃ (found : List Int) (k : Int), 0 ≤ k ∧ k ≤ n ∧ k.toNat + 1 ≤ m ∧ found.length + m ≤ 17 ∧ Keep H38.length H38 H2 ∧ Ints H2 u found ∧ failing cs (upTo k.toNat ++ found) = true ∧ R = minLoop cs m k found, n.toNat + 1, ⟨[], n, g2, Int.le_refl _, Nat.le_refl _, by simp; omega, qk, Arr.nil, by simpa using hyes, hR⟩, ?_⟩
              rintro m u H2 ⟨found, k, x1, x2, x3, x4, x5, x6, x7, x8⟩
              have kG := kE.call x5
              refine h10 (hv.keep kG) x6 fun H3 k3 => ⟨_, rfl, fun hnf => ?_, fun hf => ⟨fun _ => ?_, fun h => absurd rfl h⟩⟩
              · obtain ⟨m, rfl⟩ : ∃ m', m = m' + 1 := ⟨m - 1, by omega⟩
                obtain ⟨y1, y2, y3⟩ := min_step x1 x7 hnf
                obtain ⟨_, _, z3, z4⟩ := sres_spec (p := pFirst cs found) (n := k) (by simpa [pFirst, upTo] using hnf) x7 x1
                have hff := firstFailing_eq (n := n) y1 (by omega) z3 z4
                rw [minLoop, if_neg hnf] at x8
                refine h13 (hv.keep (kG.call k3)) (x6.keep k3) ((kG.call k3).fl hfl) (by omega) (by omega) fun H4 k4 => ⟨_, rfl, fun b H6 d6 => ?_⟩
                rw [hff] at d6
                have k6 := (x5.call k3).call k4
                have hacc : Acc H38 tInt H6 (.slice b 0 1 (some 1)) [(sres (pFirst cs found) k).1 - 1] := NewB.acc (T := tInt) (l := [(sres (pFirst cs found) k).1 - 1]) (css := [[i64 ((sres (pFirst cs found) k).1 - 1)]]) d6 ⟨rfl, trivial⟩ rfl (Nat.le_trans k6.low k6.len) rfl
                obtain ⟨u2, H7, a1, a2, a3, _⟩ := hacc.appendP (fl := fl) (free := true) (bytes := 8) tInt.plain (((x6.keep k3).keep k4).keep d6.keep) (k6.call d6.keep) hflE (by simp; omega) (by omega)
                exact ⟨u2, H7, a1, m, Nat.lt_succ_self _, _, _, by omega, by omega, by omega, by simp; omega, a3, a2.arrP tInt.plain, y3, x8⟩
              · have hff' : failing cs found = true := by simpa using hf
                rw [minLoop_stop hff'] at x8
                refine h12 ((hmE.keep x5).keep k3) (x6.keep k3) ⟨_, rfl, leaf (decide_eq_true x8)⟩

end Go.RM
