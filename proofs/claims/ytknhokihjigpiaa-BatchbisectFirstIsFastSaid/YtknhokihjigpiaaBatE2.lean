/-
  The laws of batchbisect over the abstract machine: greedy choices, monotony.
-/
import Derived.Test.YtknhokihjigpiaaBatE
namespace Go.RM
set_option linter.unusedSimpArgs false
set_option linter.unusedVariables false
open Bat

variable {F : Nat → Option RFunc}

theorem upTo_filter_len (p : Int → Bool) (i : Nat) : ((upTo i).filter p).length ≤ i := by
  have := List.length_filter_le p (upTo i)
  rw [upTo_len] at this; exact this

theorem upTo_filter_succ (p : Int → Bool) (i : Nat) : (upTo (i + 1)).filter p = (upTo i).filter p ++ (if p i then [(i : Int)] else []) := by
  rw [upTo_succ, List.filter_append]
  congr 1
  simp [List.filter_cons]

theorem setCode_upTo_filter {n : Int} {k : Nat} (p : Int → Bool) (h : (k : Int) ≤ n) : setCode n (-1) ((upTo k).filter p) = 0 := setCode_filter p (setCode_upTo h)

theorem greedy_run {f n1 n2 n3 n4 : Nat} (hF : F f = some (rf_LBatchbisectGreedyIsMaximal n1 n2 n3 n4)) (h1 : GreedyC F n1) (h2 : ExampleC F n2) (h3 : FailsC F n3) (h4 : FHasC F n4) {fl : Nat} {H : Heap} {n : Int} {v : AV} {cs : List (List Int)} (hv : Lists H v cs) (hfl : fl ≤ H.length) : Ret F fl f [i64 n, v] H tru := by
  refine v_LBatchbisectGreedyIsMaximal hF _ _ ?_
  refine h1 hv hfl fun w H5 k5 hw => ⟨_, _, _, rfl, fun H7 d7 => ?_⟩
  have k7 := k5.call d7.keep
  refine h2 (k7.fl hfl) fun H9 k9 => ⟨_, rfl, fun h => absurd rfl h, fun _ => ⟨fun _ => rfl, fun hok => ?_⟩⟩
  have k9' := k7.call k9
  have hw9 := (hw.keep d7.keep).keep k9
  have hok : (greedyR n cs).2.1 = 0 := by simpa using hok
  obtain ⟨g1, g2, g3⟩ := greedyR_ok hok
  obtain ⟨_, g4, g5, g6⟩ := fault_ok g1
  rw [g3] at hw9
  obtain ⟨o1, o2⟩ := greedy_ok g6 n.toNat
  have hset : setCode n (-1) (greedy cs n.toNat) = 0 := setCode_ok.2 ⟨fun x hx => by have := greedy_mem hx; omega, o1⟩
  refine h3 (hv.keep k9') hw9 fun H14 k14 => ⟨_, _, _, rfl, fun H16 d16 => ?_⟩
  rw [failsR_of g1 hset, o2]
  refine ⟨fun h => by simp at h, fun _ => ?_⟩
  refine ⟨fun m c H' => ∃ j : Nat, c = j ∧ j + m = n.toNat ∧ Keep H9.length H9 H', n.toNat, ⟨0, rfl, Nat.zero_add _, k14.call d16.keep⟩, ?_⟩
  rintro m _ H' ⟨j, rfl, hm, hk⟩
  refine ⟨fun hlt => ?_, fun hge => leaf rfl⟩
  refine h4 (hw9.keep hk) ⟨_, rfl, fun hin => ⟨m - 1, by omega, j + 1, wsucc (n := n.toNat) (by omega) (by omega), by omega, hk⟩, fun hnin => ?_⟩
  have hnin : ¬ (j : Int) ∈ greedy cs n.toNat := by simpa using hnin
  refine ⟨fun m' i w' H2 => ∃ q : Nat, i = q ∧ q + m' = n.toNat ∧ Keep H9.length H9 H2 ∧ Acc H9 tInt H2 w' ((upTo q).filter fun x => x == (j : Int) || decide (x ∈ greedy cs n.toNat)), n.toNat, ⟨0, rfl, Nat.zero_add _, hk, Acc.nil⟩, ?_⟩
  rintro m' _ w' H2 ⟨q, rfl, hm', hk2, hacc⟩
  have hfl9 := k9'.fl hfl
  have hlen := upTo_filter_len (fun x => x == (j : Int) || decide (x ∈ greedy cs n.toNat)) q
  have hsucc := upTo_filter_succ (fun x => x == (j : Int) || decide (x ∈ greedy cs n.toNat)) q
  refine ⟨fun hlt' => ⟨fun he b H3 d3 => ?_, fun hne => h4 (hw9.keep hk2) ⟨_, rfl, fun hin b H3 d3 => ?_, fun hin => ?_⟩⟩, fun hge' => ?_⟩
  · obtain ⟨w2, H4, a1, a2, a3, _⟩ := hacc.push (fl := fl) (free := true) (bytes := 8) (a := (q : Int)) rfl d3 hk2 hfl9 (by omega) (by omega)
    refine ⟨w2, H4, a1, m' - 1, by omega, q + 1, wsucc (n := n.toNat) (by omega) (by omega), by omega, a3, ?_⟩
    rw [hsucc, if_pos (by simp [he])]; exact a2
  · obtain ⟨w2, H4, a1, a2, a3, _⟩ := hacc.push (fl := fl) (free := true) (bytes := 8) (a := (q : Int)) rfl d3 hk2 hfl9 (by omega) (by omega)
    refine ⟨w2, H4, a1, m' - 1, by omega, q + 1, wsucc (n := n.toNat) (by omega) (by omega), by omega, a3, ?_⟩
    rw [hsucc, if_pos (by rw [Bool.or_eq_true]; exact .inr hin)]; exact a2
  · refine ⟨m' - 1, by omega, q + 1, wsucc (n := n.toNat) (by omega) (by omega), by omega, hk2, ?_⟩
    rw [hsucc, if_neg (by rw [Bool.or_eq_true]; exact fun h => h.elim (fun h => hne (eq_of_beq h)) hin), List.append_nil]
    exact hacc
  · have hq : q = n.toNat := by omega
    subst hq
    have e := failsR_of (set := (upTo n.toNat).filter fun x => x == (j : Int) || decide (x ∈ greedy cs n.toNat)) g1 (setCode_upTo_filter _ (by omega))
    have hfail : failing cs ((upTo n.toNat).filter fun x => x == (j : Int) || decide (x ∈ greedy cs n.toNat)) = true := by
      obtain ⟨x1, x2⟩ := greedy_max (cs := cs) (n := n.toNat) (c := j) (by omega) hnin
      refine failing_mono (fun x hx => ?_) x1
      rw [List.mem_filter, mem_upTo]
      rcases List.mem_append.1 hx with hx | hx
      · have := greedy_mem (x2 x hx)
        exact ⟨this, by simp [x2 x hx]⟩
      · rw [List.mem_singleton] at hx
        subst hx
        exact ⟨by omega, by simp⟩
    refine h3 (hv.keep (k9'.call hk2)) (hacc.arrP tInt.plain) fun H6 k6 => ⟨_, _, _, rfl, fun H8 d8 => ?_⟩
    rw [e, hfail]
    exact ⟨fun h => by simp at h, fun _ => ⟨m - 1, by omega, j + 1, wsucc (n := n.toNat) (by omega) (by omega), by omega, (hk2.call k6).call d8.keep⟩⟩

theorem failing_app (cs more : List (List Int)) (a : List Int) : failing (cs ++ more) a = (failing cs a || failing more a) := by unfold failing; rw [List.any_append]

theorem mono_run {f n1 n2 n3 : Nat} (hF : F f = some (rf_LBatchbisectFailuresAreMonotone n1 n2 n3)) (h1 : FHasC F n1) (h2 : FailsC F n2) (h3 : ExampleC F n3) {fl : Nat} {H : Heap} {n : Int} {v vm va vb : AV} {cs more : List (List Int)} {a b : List Int} (hv : Lists H v cs) (hm : Lists H vm more) (ha : Ints H va a) (hb : Ints H vb b) (hl : cs.length + more.length ≤ 2 ^ 30) (hfl : fl ≤ H.length) : Ret F fl f [i64 n, v, vm, va, vb] H tru := by
  refine v_LBatchbisectFailuresAreMonotone hF _ _ _ _ _ ?_
  refine ⟨fun m i w H' => ∃ q : Nat, i = q ∧ q + m = 16 ∧ Keep H.length H H' ∧ Acc H tInt H' w ((upTo q).filter fun x => decide (x ∈ a) || decide (x ∈ b)), 16, ⟨0, rfl, Nat.zero_add _, Keep.refl H, Acc.nil⟩, ?_⟩
  rintro m _ w H' ⟨q, rfl, hm', hk, hacc⟩
  have hlen := upTo_filter_len (fun x => decide (x ∈ a) || decide (x ∈ b)) q
  have hsucc := upTo_filter_succ (fun x => decide (x ∈ a) || decide (x ∈ b)) q
  refine ⟨fun hlt => h1 (ha.keep hk) ⟨_, rfl, fun hin b' H3 d3 => ?_, fun hna => h1 (hb.keep hk) ⟨_, rfl, fun hin b' H3 d3 => ?_, fun hnb => ?_⟩⟩, fun hge => ?_⟩
  · obtain ⟨w2, H4, a1, a2, a3, _⟩ := hacc.push (fl := fl) (free := true) (bytes := 8) (a := (q : Int)) rfl d3 hk hfl (by omega) (by omega)
    refine ⟨w2, H4, a1, m - 1, by omega, q + 1, wsucc (n := 16) (by omega) (by omega), by omega, a3, ?_⟩
    rw [hsucc, if_pos (by rw [Bool.or_eq_true]; exact .inl hin)]; exact a2
  · obtain ⟨w2, H4, a1, a2, a3, _⟩ := hacc.push (fl := fl) (free := true) (bytes := 8) (a := (q : Int)) rfl d3 hk hfl (by omega) (by omega)
    refine ⟨w2, H4, a1, m - 1, by omega, q + 1, wsucc (n := 16) (by omega) (by omega), by omega, a3, ?_⟩
    rw [hsucc, if_pos (by rw [Bool.or_eq_true]; exact .inr hin)]; exact a2
  · refine ⟨m - 1, by omega, q + 1, wsucc (n := 16) (by omega) (by omega), by omega, hk, ?_⟩
    rw [hsucc, if_neg (by rw [Bool.or_eq_true]; exact fun h => h.elim hna hnb), List.append_nil]
    exact hacc
  · have hq : q = 16 := by omega
    subst hq
    refine h2 (hv.keep hk) (ha.keep hk) fun H2 k2 => ⟨_, _, _, rfl, fun H3 d3 => ?_⟩
    have k3 := (hk.call k2).call d3.keep
    refine h2 (hv.keep k3) (((hacc.arrP tInt.plain).keep k2).keep d3.keep) fun H4 k4 => ⟨_, _, _, rfl, fun H5 d5 => ?_⟩
    have k5 := (k3.call k4).call d5.keep
    obtain ⟨css, e1, e2⟩ := (hv.keep k5 : Lists H5 v cs)
    obtain ⟨w6, H6, a1, a2, a3, _⟩ := (Acc.nil (H0 := H5) (T := tArr tInt) (H := H5)).append (fl := fl) (free := true) (bytes := 24) e1 e2 (Keep.refl _) (k5.fl hfl) (by simp; omega) (by omega)
    obtain ⟨cm, e3, e4⟩ := (hm.keep k5 : Lists H5 vm more)
    obtain ⟨w7, H7, b1, b2, b3, _⟩ := a2.append (fl := fl) (free := true) (bytes := 24) e3 (e4.keep a3) a3 (k5.fl hfl) (by simp; omega) (by omega)
    refine ⟨w6, H6, a1, w7, H7, b1, ?_⟩
    have k7 := k5.call b3
    refine h2 (b2.arr b3) (ha.keep k7) fun H8 k8 => ⟨_, _, _, rfl, fun H9 d9 => ?_⟩
    have k9 := (k7.call k8).call d9.keep
    refine h3 (k9.fl hfl) fun H10 k10 => ⟨_, rfl, fun h => absurd rfl h, fun _ => leaf ?_⟩
    -- the plain law
    rw [Bool.or_eq_true, Bool.or_eq_true, Bool.and_eq_true, Bool.or_eq_true, Bool.or_eq_true, bne_iff_ne, bne_iff_ne, bne_iff_ne]
    by_cases x1 : (failsR n cs a).2.1 = 0
    · obtain ⟨y1, y2, y3⟩ := failsR_ok x1
      by_cases x2 : (failsR n cs a).1 = true
      · right
        rw [y3] at x2
        have x2 : failing cs a = true := x2
        constructor
        · by_cases x3 : (failsR n cs ((upTo 16).filter fun x => decide (x ∈ a) || decide (x ∈ b))).2.1 = 0
          · obtain ⟨z1, z2, z3⟩ := failsR_ok x3
            right
            rw [z3]
            refine failing_mono (fun x hx => ?_) x2
            have h16 := (fault_ok y1).2.2.1
            have := (setCode_ok.1 y2).1 x hx
            rw [List.mem_filter, mem_upTo]
            exact ⟨by omega, by simp [hx]⟩
          · exact .inl x3
        · by_cases x3 : (failsR n ([] ++ cs ++ more) a).2.1 = 0
          · obtain ⟨z1, z2, z3⟩ := failsR_ok x3
            right
            rw [z3]
            show failing ([] ++ cs ++ more) a = true
            rw [List.nil_append, failing_app, x2, Bool.true_or]
          · exact .inl x3
      · left; right; simp [x2]
    · exact .inl (.inl x1)

end Go.RM
