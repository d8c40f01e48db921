import Derived.Test.YtlcoalimkpjjpaaRolC3
import Derived.Test.YtlcoalimkpjjpaaRmVc
import Derived.Test.YtlcoalimkpjjpaaRmRegion7
import Derived.ProofKit
/-
  Rollouts, plainly: every step does the same to both.
-/
namespace Go.RM
set_option linter.unusedSimpArgs false
set_option linter.unusedVariables false
open Rol

variable {n : Nat} {p : PP} {es : List Ent}

theorem RInv.setCnt (h : RInv n p es) {k : Nat} (hk : k < es.length) {x y : Int} (ho : okC x y) (hv : verdictI p.b1 p.b2 x y p.need p.pm ≠ 3) : RInv n p (es.set k { es[k] with c1 := x, c2 := y }) := by
  have hm : ∀ (j : Nat) (hj : j < (es.set k { es[k] with c1 := x, c2 := y }).length), (es.set k { es[k] with c1 := x, c2 := y })[j].v = (es[j]'(by simpa using hj)).v ∧ (es.set k { es[k] with c1 := x, c2 := y })[j].r = (es[j]'(by simpa using hj)).r := fun j hj => by
    rw [List.getElem_set]
    split
    · rename_i e; subst e; exact ⟨rfl, rfl⟩
    · exact ⟨rfl, rfl⟩
  refine ⟨?_, fun e he => ?_, fun e he => ?_, ?_, fun e he => ?_, fun e he hr => ?_⟩
  · rw [List.pairwise_iff_getElem]
    intro i j hi hj hij
    rw [(hm i hi).1, (hm j hj).1]
    exact List.pairwise_iff_getElem.1 h.inc i j _ _ hij
  · rcases List.mem_or_eq_of_mem_set he with he | rfl
    · exact h.pos e he
    · have := h.pos _ (List.getElem_mem hk); exact this
  · rcases List.mem_or_eq_of_mem_set he with he | rfl
    · exact h.re e he
    · have := h.re _ (List.getElem_mem hk); exact this
  · rw [List.pairwise_iff_getElem]
    intro i j hi hj hij
    rw [(hm i hi).2, (hm j hj).2]
    exact List.pairwise_iff_getElem.1 h.mon i j _ _ hij
  · rcases List.mem_or_eq_of_mem_set he with he | rfl
    · exact h.cs e he
    · exact ho
  · rcases List.mem_or_eq_of_mem_set he with he | rfl
    · exact h.ver e he hr
    · exact hv

theorem verdict0 (hp : OkP p) : verdictI p.b1 p.b2 0 0 p.need p.pm ≠ 3 := by
  unfold verdictI
  have h1 := ways_le hp.base okC00
  have hw : waysI p.b1 p.b2 0 0 = allI p.b1 p.b2 0 0 := by
    unfold waysI allI
    rw [show (0 : Int).toNat + (0 : Int).toNat = 0 from rfl, show (0 : Int).toNat + 1 = 0 + 1 from rfl]
    have := tl_all (p.b1.toNat + (0 : Int).toNat) (p.b2.toNat + (0 : Int).toNat) 0
    rw [show (p.b1.toNat + (0 : Int).toNat) = p.b1.toNat + (0 : Int).toNat from rfl] at this
    rw [show (0 : Nat) + 1 = 0 + 1 from rfl, this, Nat.add_comm]
  have hpm := hp.par
  unfold okP at hpm
  rw [hw]
  have hpos : 0 < allI p.b1 p.b2 0 0 := by omega
  have hlt : allI p.b1 p.b2 0 0 * p.pm < allI p.b1 p.b2 0 0 * 1000 := Int.mul_lt_mul_of_pos_left hpm.2.2.2 hpos
  rw [if_neg (by omega)]
  split <;> decide

/-- A version goes on to the next ring. -/
theorem set_adv (h : RInv n p es) {k : Nat} (hk : k < es.length) (hr : es[k].r < n) (hfree : es[k].r + 1 < n → ∀ e ∈ es, e.r ≠ es[k].r + 1) :
    (if es[k].r.toNat + 1 < (stateD n es).length then (stateD n es).set (es[k].r.toNat + 1) { rg (stateD n es) (es[k].r.toNat + 1) with act := es[k].v } else stateD n es).set es[k].r.toNat ⟨(rOf es es[k].r.toNat).conf ++ [es[k].v], 0, 0, 0⟩ = stateD n (es.set k { es[k] with r := es[k].r + 1, c1 := 0, c2 := 0 }) := by
  have hre := (h.re _ (List.getElem_mem hk)).1
  have er : ((es[k].r.toNat : Nat) : Int) = es[k].r := by omega
  rw [state_len]
  generalize hi : es[k].r.toNat = i at er
  have hin : i < n := by omega
  -- entries of ring i: only the one
  have huq := h.uq hin
  have hself : ∀ j, (hj : j < es.length) → es[j].r = (i : Int) → j = k := fun j hj e => by
    have := huq _ (List.getElem_mem hj) _ (List.getElem_mem hk) e er.symm
    exact h.vq hj hk (by rw [this])
  have hmem : ∀ z, z ∈ es.set k { es[k] with r := es[k].r + 1, c1 := 0, c2 := 0 } → z = { es[k] with r := es[k].r + 1, c1 := 0, c2 := 0 } ∨ (z ∈ es ∧ z.r ≠ (i : Int)) := fun z hz => by
    obtain ⟨j, hj, rfl⟩ := List.getElem_of_mem hz
    rw [List.length_set] at hj
    by_cases e : j = k
    · subst e; left; simp
    · right
      rw [List.getElem_set_ne (Ne.symm e)]
      exact ⟨List.getElem_mem hj, fun e2 => e (hself j hj e2)⟩
  have hnew : ({ es[k] with r := es[k].r + 1, c1 := 0, c2 := 0 } : Ent) ∈ es.set k { es[k] with r := es[k].r + 1, c1 := 0, c2 := 0 } := List.mem_iff_getElem.2 ⟨k, by simpa using hk, by simp⟩
  have confNe : ∀ j, j ≠ i → (rOf (es.set k { es[k] with r := es[k].r + 1, c1 := 0, c2 := 0 }) j).conf = (rOf es j).conf := fun j hj => by
    have e := map_set_same (f := fun e : Ent => (e.v, decide ((j : Int) < e.r))) hk (y := { es[k] with r := es[k].r + 1, c1 := 0, c2 := 0 }) (by
      simp only [Prod.mk.injEq, decide_eq_decide, true_and]; omega)
    rw [rOf_conf', rOf_conf', e]
  have confEq : (rOf (es.set k { es[k] with r := es[k].r + 1, c1 := 0, c2 := 0 }) i).conf = (rOf es i).conf ++ [es[k].v] := by
    rw [rOf_conf, rOf_conf, List.set_eq_take_append_cons_drop, if_pos hk]
    have hlate : (es.drop (k + 1)).filter (fun e => decide ((i : Int) < e.r)) = [] := by
      rw [List.filter_eq_nil_iff]
      intro x hx
      obtain ⟨j, hj, rfl⟩ := List.getElem_of_mem hx
      rw [List.length_drop] at hj
      rw [List.getElem_drop]
      have := (List.pairwise_iff_getElem.1 h.mon k (k + 1 + j) hk (by omega) (by omega)).1
      simp only [decide_eq_true_eq]; omega
    have hold : es.filter (fun e => decide ((i : Int) < e.r)) = (es.take k).filter (fun e => decide ((i : Int) < e.r)) := by
      have h0 := List.filter_append (p := fun e : Ent => decide ((i : Int) < e.r)) (es.take k) (es.drop k)
      rw [List.take_append_drop, List.drop_eq_getElem_cons hk, List.filter_cons, hlate, if_neg (by simp only [decide_eq_true_eq]; omega), List.append_nil] at h0
      exact h0
    rw [List.filter_append, List.filter_cons, hlate, hold]
    rw [if_pos (by simp only [decide_eq_true_eq]; omega)]
    simp
  have actI : (rOf (es.set k { es[k] with r := es[k].r + 1, c1 := 0, c2 := 0 }) i).act = 0 ∧ (rOf (es.set k { es[k] with r := es[k].r + 1, c1 := 0, c2 := 0 }) i).good = 0 ∧ (rOf (es.set k { es[k] with r := es[k].r + 1, c1 := 0, c2 := 0 }) i).bad = 0 := rOf_none fun e he => by
    rcases hmem e he with rfl | ⟨_, h2⟩
    · simp only; omega
    · exact h2
  have other : ∀ j, j < n → j ≠ i → (j ≠ i + 1) → rOf es j = rOf (es.set k { es[k] with r := es[k].r + 1, c1 := 0, c2 := 0 }) j := fun j hj h1 h2 => by
    obtain ⟨a1, a2, a3⟩ := rOf_same (es' := es.set k { es[k] with r := es[k].r + 1, c1 := 0, c2 := 0 }) (h.uq hj) fun z hz => by
      refine (set_mem hk (fun e => ?_) (fun e => ?_)).symm
      · rw [e] at hz; simp only at hz; omega
      · rw [e] at hz; omega
    exact RS.ext' (confNe j h1).symm a1 a2 a3
  by_cases hnx : i + 1 < n
  · rw [if_pos hnx, rg_state hnx]
    have hf := hfree (by omega)
    obtain ⟨z1, z2, z3⟩ := rOf_none (es := es) (k := i + 1) fun e he hr => hf e he (by omega)
    obtain ⟨b1, b2, b3⟩ := rOf_some (k := i + 1) hnew (by simp only; omega) fun z hz hzr => by
      rcases hmem z hz with h1 | ⟨h1, _⟩
      · exact h1
      · exact absurd (by omega) (hf z h1)
    have step1 : (stateD n es).set (i + 1) { rOf es (i + 1) with act := es[k].v } = (List.range n).map fun j => if j = i then rOf es i else rOf (es.set k { es[k] with r := es[k].r + 1, c1 := 0, c2 := 0 }) j := by
      unfold stateD
      refine range_set (fun j hj hne => ?_) ?_
      · by_cases e : j = i
        · rw [if_pos e, e]
        · rw [if_neg e]; exact other j hj e hne
      · rw [if_neg (by omega)]
        exact RS.ext' (confNe _ (by omega)) b1 (b2.trans z2.symm) (b3.trans z3.symm)
    rw [step1]
    unfold stateD
    refine range_set (fun j hj hne => by rw [if_neg hne]) ?_
    exact RS.ext' confEq actI.1 actI.2.1 actI.2.2
  · rw [if_neg hnx]
    unfold stateD
    refine range_set (fun j hj hne => other j hj hne (by omega)) ?_
    exact RS.ext' confEq actI.1 actI.2.1 actI.2.2

theorem RInv.adv (h : RInv n p es) (hp : OkP p) {k : Nat} (hk : k < es.length) (hr : es[k].r < n) (hfree : es[k].r + 1 < n → ∀ e ∈ es, e.r ≠ es[k].r + 1) : RInv n p (es.set k { es[k] with r := es[k].r + 1, c1 := 0, c2 := 0 }) := by
  have hre := (h.re _ (List.getElem_mem hk)).1
  refine ⟨?_, fun e he => ?_, fun e he => ?_, ?_, fun e he => ?_, fun e he hr' => ?_⟩
  · rw [List.pairwise_iff_getElem]
    intro i j hi hj hij
    have hm : ∀ (j : Nat) (hj : j < (es.set k { es[k] with r := es[k].r + 1, c1 := 0, c2 := 0 }).length), (es.set k { es[k] with r := es[k].r + 1, c1 := 0, c2 := 0 })[j].v = (es[j]'(by simpa using hj)).v := fun j hj => by
      rw [List.getElem_set]
      split
      · rename_i e; subst e; rfl
      · rfl
    rw [hm i hi, hm j hj]
    exact List.pairwise_iff_getElem.1 h.inc i j _ _ hij
  · rcases List.mem_or_eq_of_mem_set he with he | rfl
    · exact h.pos e he
    · have := h.pos _ (List.getElem_mem hk); exact this
  · rcases List.mem_or_eq_of_mem_set he with he | rfl
    · exact h.re e he
    · simp only; omega
  · rw [List.pairwise_iff_getElem]
    intro i j hi hj hij
    rw [List.length_set] at hi hj
    have hm := List.pairwise_iff_getElem.1 h.mon i j hi hj hij
    rw [List.getElem_set, List.getElem_set]
    by_cases e1 : k = i
    · subst e1
      rw [if_pos rfl, if_neg (by omega)]
      have hne : es[j].r ≠ es[k].r := fun e => by have := hm.2 e.symm; omega
      simp only; omega
    · rw [if_neg e1]
      by_cases e2 : k = j
      · subst e2
        rw [if_pos rfl]
        have hne : es[i].r ≠ es[k].r := fun e => by have := hm.2 e; omega
        simp only
        refine ⟨by omega, fun e => ?_⟩
        rw [e]
        rcases Nat.lt_or_ge (es[k].r.toNat + 1) n with h3 | h3
        · exact absurd e (hfree (by omega) _ (List.getElem_mem hi))
        · omega
      · rw [if_neg e2]; exact hm
  · rcases List.mem_or_eq_of_mem_set he with he | rfl
    · exact h.cs e he
    · exact okC00
  · rcases List.mem_or_eq_of_mem_set he with he | rfl
    · exact h.ver e he hr'
    · exact verdict0 hp

theorem RInv.start (h : RInv n p es) (hp : OkP p) (hn : 0 < n) {v : Int} (hv : 1 ≤ v) (hno : ∀ e ∈ es, e.r ≠ 0) (hst : ¬ (es ≠ [] ∧ v ≤ lastV es)) : RInv n p (es ++ [⟨v, 0, 0, 0⟩]) := by
  have hlast : ∀ e ∈ es, e.v < v := fun e he => by
    have hne : es ≠ [] := List.ne_nil_of_mem he
    have h1 : ¬ v ≤ lastV es := fun h => hst ⟨hne, h⟩
    have hl : es.length - 1 < es.length := by have := List.length_pos_iff.2 hne; omega
    have h2 : lastV es = es[es.length - 1].v := by
      unfold lastV lastI
      rw [List.getLast?_eq_getElem?, List.length_map, List.getElem?_eq_getElem (by simpa using hl)]; simp
    obtain ⟨i, hi, rfl⟩ := List.getElem_of_mem he
    rcases Nat.lt_or_eq_of_le (show i ≤ es.length - 1 by omega) with h3 | h3
    · have := List.pairwise_iff_getElem.1 h.inc i _ hi hl h3; omega
    · subst h3; omega
  refine ⟨?_, fun e he => ?_, fun e he => ?_, ?_, fun e he => ?_, fun e he hr' => ?_⟩
  · rw [List.pairwise_append]
    refine ⟨h.inc, List.pairwise_singleton _ _, fun a ha b hb => ?_⟩
    rw [List.mem_singleton] at hb; subst hb
    exact hlast a ha
  · rw [List.mem_append, List.mem_singleton] at he
    rcases he with he | rfl
    · exact h.pos e he
    · exact hv
  · rw [List.mem_append, List.mem_singleton] at he
    rcases he with he | rfl
    · exact h.re e he
    · simp only; omega
  · rw [List.pairwise_append]
    refine ⟨h.mon, List.pairwise_singleton _ _, fun a ha b hb => ?_⟩
    rw [List.mem_singleton] at hb; subst hb
    have h1 := (h.re a ha).1
    have h2 := hno a ha
    simp only; omega
  · rw [List.mem_append, List.mem_singleton] at he
    rcases he with he | rfl
    · exact h.cs e he
    · exact okC00
  · rw [List.mem_append, List.mem_singleton] at he
    rcases he with he | rfl
    · exact h.ver e he hr'
    · exact verdict0 hp

theorem state_start (h : RInv n p es) (hn : 0 < n) {v : Int} (hno : ∀ e ∈ es, e.r ≠ 0) : (stateD n es).set 0 { rOf es 0 with act := v } = stateD n (es ++ [⟨v, 0, 0, 0⟩]) := by
  unfold stateD
  obtain ⟨z1, z2, z3⟩ := rOf_none (es := es) (k := 0) fun e he => hno e he
  refine range_set (fun j hj hne => ?_) ?_
  · rw [rOf_app]; unfold put1
    rw [if_neg (by simp only; omega), if_neg (by simp only; omega)]
  · rw [rOf_app]; unfold put1
    rw [if_neg (by simp), if_pos (by simp)]
    exact RS.ext' rfl rfl z2.symm z3.symm

/-- All versions are confirmed in the first ring, but for the active one. -/
theorem conf0 (h : RInv n p es) (hno : ∀ e ∈ es, e.r ≠ 0) : (rOf es 0).conf = es.map (·.v) := by
  rw [rOf_conf]
  congr 1
  rw [List.filter_eq_self]
  intro e he
  have := (h.re e he).1
  have := hno e he
  simp only [decide_eq_true_eq]; omega

theorem mal_iff {e : Ev} : unusedB e = true ↔ (malB e ∨ (e.kind ≠ 2 ∧ (e.g ≠ 0 ∨ e.b ≠ 0))) := by
  unfold unusedB malB
  simp only [Bool.or_eq_true, Bool.and_eq_true, Bool.not_eq_true', beq_iff_eq, bne_iff_ne, Bool.and_true, Bool.or_eq_false_iff, Bool.and_eq_false_iff, beq_eq_false_iff_ne]
  constructor
  · rintro ((⟨h1, h2⟩ | ⟨h1, h2⟩) | ⟨h1, h2⟩)
    · exact .inl (.inl ⟨h1, h2⟩)
    · exact .inl (.inr ⟨by omega, h2⟩)
    · exact .inr ⟨h1, h2⟩
  · rintro ((⟨h1, h2⟩ | ⟨h1, h2⟩) | ⟨h1, h2⟩)
    · exact .inl (.inl ⟨h1, h2⟩)
    · exact .inl (.inr ⟨by omega, h2⟩)
    · exact .inr ⟨h1, h2⟩

/-- Every step does the same to both. -/
theorem sim (h : RInv n p es) (hp : OkP p) (hn : 0 < n) (e : Ev) : (stepR p (stateD n es) e).1 = (stepD p n es e).1 ∧ ((stepR p (stateD n es) e).1 = 0 → (stepR p (stateD n es) e).2 = stateD n (stepD p n es e).2 ∧ RInv n p (stepD p n es e).2) := by
  have same : ∀ c : Int, c ≠ 0 → ((c, stateD n es) : Int × List RS).1 = ((c, es) : Int × List Ent).1 ∧ (((c, stateD n es) : Int × List RS).1 = 0 → ((c, stateD n es) : Int × List RS).2 = stateD n ((c, es) : Int × List Ent).2 ∧ RInv n p ((c, es) : Int × List Ent).2) := fun c hc => ⟨rfl, fun h => absurd h hc⟩
  unfold stepR stepD
  by_cases hk : e.kind < 1 ∨ e.kind > 4
  · rw [if_pos hk, if_pos hk]; exact same 4 (by decide)
  rw [if_neg hk, if_neg hk]
  by_cases hu : unusedB e = true
  · rw [if_pos hu]
    rcases mal_iff.1 hu with h1 | h1
    · rw [if_pos h1]; exact same 5 (by decide)
    · rw [if_pos h1]
      split <;> exact same 5 (by decide)
  rw [if_neg hu, if_neg fun h => hu (mal_iff.2 (.inl h)), if_neg fun h => hu (mal_iff.2 (.inr h)), state_len]
  by_cases hr : e.ring < 0 ∨ e.ring ≥ (n : Int)
  · rw [if_pos hr, if_pos hr]; exact same 3 (by decide)
  rw [if_neg hr, if_neg hr]
  have hmal : ¬ malB e := fun h => hu (mal_iff.2 (.inl h))
  have er : ((e.ring.toNat : Nat) : Int) = e.ring := by omega
  have hri : e.ring.toNat < n := by omega
  by_cases k1 : e.kind = 1
  · rw [if_pos k1, if_neg (by omega), if_pos k1]
    have hr0 : e.ring = 0 := Decidable.byContradiction fun h => hmal (.inl ⟨.inl k1, h⟩)
    unfold startR
    by_cases hv : e.ver < 1 ∨ e.ver > 1000000000
    · rw [if_pos hv, if_pos hv]; exact same 3 (by decide)
    rw [if_neg hv, if_neg hv, rg_state hn]
    have ha := act_iff h (r := 0) (by omega) (by omega)
    rw [hr0]
    rcases ha with ⟨a1, a2, _, _, a5⟩ | ⟨hk, a1, a2, a3, a4, a5, a6⟩
    · rw [if_neg (by rw [show (0 : Int).toNat = 0 from rfl] at a2; rw [a2]; decide), if_neg (by omega : ¬ actD es 0 ≥ 0)]
      rw [conf0 h a5]
      have hs : (e.ver ≤ lastI (es.map (·.v))) ↔ (es ≠ [] ∧ e.ver ≤ lastV es) := by
        unfold lastV
        constructor
        · intro hle
          refine ⟨fun hnil => ?_, hle⟩
          subst hnil
          have : lastI (([] : List Ent).map (·.v)) = 0 := rfl
          omega
        · exact fun h => h.2
      by_cases hst : e.ver ≤ lastI (es.map (·.v))
      · rw [if_pos hst, if_pos (hs.1 hst)]; exact same 16 (by decide)
      · rw [if_neg hst, if_neg fun h => hst (hs.2 h)]
        refine ⟨rfl, fun _ => ⟨?_, ?_⟩⟩
        · have := state_start (v := e.ver) h hn a5
          exact this
        · exact h.start hp hn (by omega) a5 fun h => hst (hs.2 h)
    · have a6 : (rOf es 0).act ≠ 0 := a6
      rw [if_pos a6, if_pos a1]; exact same 15 (by decide)
  rw [if_neg k1]
  by_cases k4 : e.kind = 4
  · rw [if_neg (by omega), if_neg (by omega), if_pos k4]
    by_cases hany : es.any (fun x => x.v == e.ver) = true
    · obtain ⟨x, hx, hxv⟩ := List.any_eq_true.1 hany
      have hxv : x.v = e.ver := by simpa using hxv
      have hit : (stateD n es).any (hit e.ver) = true := (hit_iff h hn e.ver).2 ⟨x, hx, hxv⟩
      rw [if_pos hit, if_pos hany]
      have hfi : es.findIdx (fun x => x.v == e.ver) < es.length := List.findIdx_lt_length_of_exists ⟨x, hx, by simpa using hxv⟩
      have hfv : es[es.findIdx (fun x => x.v == e.ver)].v = e.ver := by
        have := List.findIdx_getElem (w := hfi)
        simpa using this
      have hpos := h.pos x hx
      rw [erase_dropV h hfi, hfv]
      exact ⟨rfl, fun _ => ⟨abort_state h (by omega), h.drop _⟩⟩
    · have hit : ¬ (stateD n es).any (hit e.ver) = true := fun hh => by
        obtain ⟨x, hx, hxv⟩ := (hit_iff h hn e.ver).1 hh
        exact hany (List.any_eq_true.2 ⟨x, hx, by simpa using hxv⟩)
      rw [if_neg hit, if_neg hany]; exact same 6 (by decide)
  rw [if_neg k4, if_neg k1]
  have k3' : e.kind ≠ 2 → e.kind = 3 := fun h => by omega
  have ha := act_iff h (r := e.ring) (by omega) (by omega)
  by_cases k2 : e.kind = 2
  · rw [if_pos k2, if_pos k2]
    unfold reportR
    rw [rg_state hri]
    by_cases ho : okC e.g e.b
    · rw [if_neg (show ¬ ¬ okC e.g e.b from fun h => h ho), if_neg (show ¬ (e.kind = 2 ∧ ¬ okC e.g e.b) from fun h => h.2 ho)]
      rcases ha with ⟨a1, a2, _, _, a5⟩ | ⟨hk, a1, a2, a3, a4, a5, a6⟩
      · rw [if_pos a2, if_pos a1]; exact same 11 (by decide)
      · rw [if_neg a6, if_neg (show ¬ actD es e.ring < 0 by omega), eg_eq hk, a4, a5, a3]
        generalize hkk : (actD es e.ring).toNat = k at hk a2 a3 a4 a5 ⊢
        have hrk : es[k].r < n := by omega
        by_cases hs : okC (es[k].c1 + e.g) (es[k].c2 + e.b)
        · rw [if_neg (show ¬ ¬ okC (es[k].c1 + e.g) (es[k].c2 + e.b) from fun h => h hs), if_neg (show ¬ ¬ okC (es[k].c1 + e.g) (es[k].c2 + e.b) from fun h => h hs)]
          by_cases hv : verdictI p.b1 p.b2 (es[k].c1 + e.g) (es[k].c2 + e.b) p.need p.pm = 3
          · rw [if_pos hv, if_pos hv, erase_dropV h hk]
            refine ⟨rfl, fun _ => ⟨?_, h.drop _⟩⟩
            have hpos := h.pos _ (List.getElem_mem hk)
            rw [← abort_state h (by omega)]
            simp only
            rw [List.map_set]
            have hget : ((stateD n es).map (abort1 es[k].v))[e.ring.toNat]? = some (abort1 es[k].v (rOf es e.ring.toNat)) := by
              unfold stateD; simp [hri]
            have hsame : abort1 es[k].v { rOf es e.ring.toNat with good := es[k].c1 + e.g, bad := es[k].c2 + e.b } = abort1 es[k].v (rOf es e.ring.toNat) := by
              have hA : hitA es[k].v (rOf es e.ring.toNat) = true := by unfold hitA; exact decide_eq_true ⟨by omega, a3⟩
              have hA2 : hitA es[k].v { rOf es e.ring.toNat with good := es[k].c1 + e.g, bad := es[k].c2 + e.b } = true := hA
              unfold abort1
              simp only [hA, hA2, if_true]
            apply List.ext_getElem?
            intro j
            rw [List.getElem?_set]
            split
            · rename_i e1; subst e1
              rw [if_pos (by simp [state_len, hri]), hget]
              exact congrArg some hsame
            · rfl
          · rw [if_neg hv, if_neg hv]
            refine ⟨rfl, fun _ => ⟨?_, h.setCnt hk hs hv⟩⟩
            have := set_cnt h hk hrk (es[k].c1 + e.g) (es[k].c2 + e.b)
            rw [a2] at this
            exact this
        · rw [if_pos hs, if_pos hs]; exact same 10 (by decide)
    · rw [if_pos ho, if_pos ⟨k2, ho⟩]; exact same 3 (by decide)
  rw [if_neg k2, if_neg (show ¬ (e.kind = 2 ∧ ¬ okC e.g e.b) from fun h => k2 h.1), if_pos (k3' k2), if_neg k2]
  unfold advanceR
  rw [rg_state hri]
  rcases ha with ⟨a1, a2, _, _, a5⟩ | ⟨hk, a1, a2, a3, a4, a5, a6⟩
  · rw [if_pos a2, if_pos a1]; exact same 11 (by decide)
  rw [if_neg a6, if_neg (show ¬ actD es e.ring < 0 by omega), eg_eq hk, a4, a5]
  generalize hkk : (actD es e.ring).toNat = k at hk a2 a3 a4 a5 ⊢
  have hrk : es[k].r < n := by omega
  by_cases hv : verdictI p.b1 p.b2 es[k].c1 es[k].c2 p.need p.pm ≠ 2
  · rw [if_pos hv, if_pos hv]; exact same 11 (by decide)
  rw [if_neg hv, if_neg hv, state_len]
  have hnext : ¬ (e.ring.toNat + 1 < n ∧ (rg (stateD n es) (e.ring.toNat + 1)).act ≠ 0) → ¬ (e.ring + 1 < n ∧ actD es (e.ring + 1) ≥ 0) → (0, (if e.ring.toNat + 1 < n then (stateD n es).set (e.ring.toNat + 1) { rg (stateD n es) (e.ring.toNat + 1) with act := (rOf es e.ring.toNat).act } else stateD n es).set e.ring.toNat ⟨(rOf es e.ring.toNat).conf ++ [(rOf es e.ring.toNat).act], 0, 0, 0⟩).2 = stateD n (es.set k { es[k] with r := e.ring + 1, c1 := 0, c2 := 0 }) ∧ RInv n p (es.set k { es[k] with r := e.ring + 1, c1 := 0, c2 := 0 }) := fun _ hf => by
    have hfree : es[k].r + 1 < n → ∀ x ∈ es, x.r ≠ es[k].r + 1 := fun hlt x hx hxr => by
      rw [a2] at hlt hxr
      rcases act_iff h (r := e.ring + 1) (by omega) (by omega) with ⟨_, _, _, _, b5⟩ | ⟨_, b1, _⟩
      · exact b5 x hx hxr
      · exact hf ⟨hlt, b1⟩
    have h1 := set_adv h hk hrk hfree
    have h2 := h.adv hp hk hrk hfree
    rw [state_len] at h1
    simp only [a2] at h1 h2
    rw [a3]
    exact ⟨h1, h2⟩
  by_cases hlt : e.ring + 1 < n
  · rw [rg_state (by omega : e.ring.toNat + 1 < n)] at hnext ⊢
    rcases act_iff h (r := e.ring + 1) (by omega) (by omega) with ⟨b1, b2, _, _, b5⟩ | ⟨hk2, b1, _, _, _, _, b6⟩
    · rw [show (e.ring + 1).toNat = e.ring.toNat + 1 by omega] at b2
      have c1 : ¬ (e.ring.toNat + 1 < n ∧ (rOf es (e.ring.toNat + 1)).act ≠ 0) := fun h => h.2 b2
      have c2 : ¬ (e.ring + 1 < n ∧ actD es (e.ring + 1) ≥ 0) := fun h => by omega
      rw [if_neg c1, if_neg c2]
      exact ⟨rfl, fun _ => hnext c1 c2⟩
    · rw [show (e.ring + 1).toNat = e.ring.toNat + 1 by omega] at b6
      rw [if_pos ⟨by omega, b6⟩, if_pos ⟨hlt, b1⟩]; exact same 15 (by decide)
  · have c1 : ¬ (e.ring.toNat + 1 < n ∧ (rg (stateD n es) (e.ring.toNat + 1)).act ≠ 0) := fun h => by omega
    have c2 : ¬ (e.ring + 1 < n ∧ actD es (e.ring + 1) ≥ 0) := fun h => hlt h.1
    rw [if_neg c1, if_neg c2]
    exact ⟨rfl, fun _ => hnext c1 c2⟩

end Go.RM

/-
  Functions of the program as the abstract machine runs them, and what must be shown of a run: printed by RmPrint.
-/
namespace Go.RM
set_option linter.unusedVariables false
set_option maxRecDepth 4000
def rf_LRolloutFunctionsMatchSpec (nrollout_Run nrollout_Versions nLrolloutExample nFFault nFCountsValid nFDeployment_Step nFDeployment_State nFEqualRings nFEqualInts : Nat) : RFunc := ⟨5, 29, [.var 5],
 ((.seq (.ops [⟨.tomb 1 (.var 1), none, (some 6), true⟩, ⟨.move (.k (.bool false)), none, (some 5), true⟩])
 ((.seq (.ops [⟨.move (.var 0), none, none, true⟩, ⟨.field 0 (some 2) (.var 6), none, none, true⟩, ⟨.move (.var 2), none, none, true⟩, ⟨.move (.var 3), none, none, true⟩, ⟨.move (.var 4), none, none, true⟩, ⟨.callS nrollout_Run [(.loc 0), (.loc 1), (.loc 2), (.loc 3), (.loc 4)], none, none, true⟩, ⟨.move (.loc 5), none, none, true⟩, ⟨.extract (.loc 6) 0, none, none, true⟩, ⟨.extract (.loc 6) 1, none, none, true⟩, ⟨.tomb 1 (.k (.agg [.int .i64 0, .int .i64 0])), none, (some 19), true⟩, ⟨.move (.loc 7), none, (some 21), true⟩, ⟨.upd 2 0 (.loc 9) (.loc 8), none, (some 19), true⟩])
 ((.seq (.ops [⟨.move (.var 0), none, none, true⟩, ⟨.field 0 (some 2) (.var 6), none, none, true⟩, ⟨.move (.var 2), none, none, true⟩, ⟨.move (.var 3), none, none, true⟩, ⟨.move (.var 4), none, none, true⟩, ⟨.callS nrollout_Versions [(.loc 0), (.loc 1), (.loc 2), (.loc 3), (.loc 4)], none, none, true⟩, ⟨.move (.loc 5), none, none, true⟩, ⟨.extract (.loc 6) 0, none, none, true⟩, ⟨.extract (.loc 6) 1, none, none, true⟩, ⟨.tomb 1 (.k (.agg [.int .i64 0, .int .i64 0])), none, (some 20), true⟩, ⟨.move (.loc 7), none, (some 22), true⟩, ⟨.upd 2 0 (.loc 9) (.loc 8), none, (some 20), true⟩])
 ((.seq ((.seq (.ops [⟨.callS nLrolloutExample [], none, none, true⟩, ⟨.un .not (.loc 0), none, (some 7), true⟩])
 (.cond (.var 7) ((.seq (.ops [⟨.move (.k (.bool false)), none, (some 5), true⟩])
 (.ret))) (.skip))))
 ((.seq (.ops [⟨.build [.int .i64 0, .int .i64 0] [], none, none, true⟩, ⟨.tomb 1 (.k (.agg [.int .i64 0, .int .i64 0])), none, (some 9), true⟩, ⟨.upd 2 0 (.loc 1) (.loc 0), none, (some 9), true⟩])
 ((.seq ((.seq (.ops [⟨.move (.var 0), none, none, true⟩, ⟨.bin .lss .no (.loc 0) (.k (.int .i64 1)), none, none, true⟩, ⟨.move (.loc 1), none, none, true⟩, ⟨.move (.var 0), none, none, true⟩, ⟨.bin .gtr .no (.loc 3) (.k (.int .i64 5)), none, none, true⟩, ⟨.pick (.loc 2) (.k (.bool true)) (.loc 4), none, (some 8), true⟩])
 (.cond (.var 8) (.ops [⟨.callS nFFault [(.k (.int .i64 3)), (.k (.int .i64 (-2)))], none, none, true⟩, ⟨.upd 2 0 (.var 9) (.loc 0), none, (some 9), true⟩]) ((.seq (.ops [⟨.field 0 (some 2) (.var 6), none, none, true⟩, ⟨.callS nFCountsValid [(.loc 0)], none, none, true⟩, ⟨.un .not (.loc 1), none, none, true⟩, ⟨.move (.loc 2), none, none, true⟩, ⟨.move (.var 2), none, none, true⟩, ⟨.bin .lss .no (.loc 4) (.k (.int .i64 0)), none, none, true⟩, ⟨.pick (.loc 3) (.k (.bool true)) (.loc 5), none, none, true⟩, ⟨.move (.loc 6), none, none, true⟩, ⟨.move (.var 2), none, none, true⟩, ⟨.bin .gtr .no (.loc 8) (.k (.int .i64 25)), none, none, true⟩, ⟨.pick (.loc 7) (.k (.bool true)) (.loc 9), none, none, true⟩, ⟨.move (.loc 10), none, none, true⟩, ⟨.move (.var 3), none, none, true⟩, ⟨.bin .lss .no (.loc 12) (.k (.int .i64 0)), none, none, true⟩, ⟨.pick (.loc 11) (.k (.bool true)) (.loc 13), none, none, true⟩, ⟨.move (.loc 14), none, none, true⟩, ⟨.move (.var 3), none, none, true⟩, ⟨.bin .geq .no (.loc 16) (.k (.int .i64 1000)), none, none, true⟩, ⟨.pick (.loc 15) (.k (.bool true)) (.loc 17), none, (some 10), true⟩])
 (.cond (.var 10) (.ops [⟨.callS nFFault [(.k (.int .i64 3)), (.k (.int .i64 (-3)))], none, none, true⟩, ⟨.upd 2 0 (.var 9) (.loc 0), none, (some 9), true⟩]) ((.seq (.ops [⟨.move (.var 4), none, none, true⟩, ⟨.len (.loc 0), none, none, true⟩, ⟨.bin .gtr .no (.loc 1) (.k (.int .i64 40)), none, (some 11), true⟩])
 (.cond (.var 11) (.ops [⟨.callS nFFault [(.k (.int .i64 2)), (.k (.int .i64 (-1)))], none, none, true⟩, ⟨.upd 2 0 (.var 9) (.loc 0), none, (some 9), true⟩]) (.skip))))))))))
 ((.seq (.ops [⟨.move (.var 0), none, none, true⟩, ⟨.field 0 (some 2) (.var 6), none, none, true⟩, ⟨.move (.var 2), none, none, true⟩, ⟨.move (.var 3), none, none, true⟩, ⟨.build [.int .i64 0, .int .i64 0, .int .i64 0, .int .i64 0, .int .i64 0, .empty, .empty, .empty] [(0, 1, (.loc 0)), (1, 2, (.loc 1)), (3, 1, (.loc 2)), (4, 1, (.loc 3))], none, none, true⟩, ⟨.tomb 1 (.k (.agg [.int .i64 0, .int .i64 0, .int .i64 0, .int .i64 0, .int .i64 0, .empty, .empty, .empty])), none, (some 14), true⟩, ⟨.upd 8 0 (.loc 5) (.loc 4), none, (some 14), true⟩])
 ((.seq ((.seq (.ops [⟨.move (.k (.int .i64 0)), none, (some 12), true⟩])
 (.block 0 (.loop ((.seq ((.seq (.ops [⟨.move (.var 12), none, none, true⟩, ⟨.move (.var 4), none, none, true⟩, ⟨.len (.loc 1), none, none, true⟩, ⟨.bin .lss .no (.loc 0) (.loc 2), none, none, true⟩, ⟨.move (.loc 3), none, none, true⟩, ⟨.field 0 none (.var 9), none, none, true⟩, ⟨.field 0 none (.var 9), none, none, true⟩, ⟨.bin .eql .no (.loc 6) (.k (.int .i64 0)), none, none, true⟩, ⟨.pick (.loc 4) (.loc 7) (.k (.bool false)), none, (some 13), true⟩])
 (.cond (.var 13) (.skip) (.exit 0))))
 ((.seq (.block 1 ((.seq (.ops [⟨.field 0 (some 8) (.var 14), none, none, false⟩, ⟨.move (.var 4), none, none, false⟩, ⟨.move (.var 12), none, none, false⟩, ⟨.indexAddr 5 (.loc 1) (.loc 2), none, none, false⟩, ⟨.load (some 5) (.loc 3), none, none, false⟩, ⟨.callS nFDeployment_Step [(.loc 0), (.loc 4)], none, none, false⟩, ⟨.move (.loc 5), none, none, false⟩, ⟨.extract (.loc 6) 0, none, none, false⟩, ⟨.extract (.loc 6) 1, none, none, false⟩, ⟨.tomb 1 (.k (.agg [.int .i64 0, .int .i64 0, .int .i64 0, .int .i64 0, .int .i64 0, .empty, .empty, .empty])), none, (some 15), false⟩, ⟨.upd 8 0 (.loc 9) (.loc 7), none, (some 15), true⟩, ⟨.move (.loc 8), none, (some 16), true⟩])
 ((.seq (.ops [⟨.field 0 (some 8) (.var 15), none, none, true⟩, ⟨.upd 8 0 (.var 14) (.loc 0), none, (some 14), true⟩])
 ((.seq (.ops [⟨.move (.var 16), none, none, true⟩, ⟨.bin .neq .no (.loc 0) (.k (.int .i64 0)), none, (some 17), true⟩])
 (.cond (.var 17) (.ops [⟨.move (.var 16), none, none, true⟩, ⟨.move (.var 12), none, none, true⟩, ⟨.callS nFFault [(.loc 0), (.loc 1)], none, none, true⟩, ⟨.upd 2 0 (.var 9) (.loc 2), none, (some 9), true⟩]) (.skip)))))))))
 (.ops [⟨.move (.var 12), none, none, true⟩, ⟨.bin .add .no (.loc 0) (.k (.int .i64 1)), none, none, true⟩, ⟨.move (.loc 1), none, (some 12), true⟩])))))))))
 ((.seq ((.seq (.ops [⟨.field 0 none (.var 9), none, none, true⟩, ⟨.field 0 none (.var 9), none, none, true⟩, ⟨.bin .neq .no (.loc 1) (.k (.int .i64 0)), none, (some 18), true⟩])
 (.cond (.var 18) ((.seq (.ops [⟨.field 0 (some 2) (.var 19), none, none, true⟩, ⟨.field 0 (some 2) (.var 9), none, none, true⟩, ⟨.bin .eql (.agg [.int, .int]) (.loc 0) (.loc 1), none, none, true⟩, ⟨.move (.loc 2), none, none, true⟩, ⟨.field 0 (some 2) (.var 20), none, none, true⟩, ⟨.field 0 (some 2) (.var 9), none, none, true⟩, ⟨.bin .eql (.agg [.int, .int]) (.loc 4) (.loc 5), none, none, true⟩, ⟨.pick (.loc 3) (.loc 6) (.k (.bool false)), none, none, true⟩, ⟨.move (.loc 7), none, none, true⟩, ⟨.move (.var 21), none, none, true⟩, ⟨.len (.loc 9), none, none, true⟩, ⟨.bin .eql .no (.loc 10) (.k (.int .i64 0)), none, none, true⟩, ⟨.pick (.loc 8) (.loc 11) (.k (.bool false)), none, none, true⟩, ⟨.move (.loc 12), none, none, true⟩, ⟨.move (.var 22), none, none, true⟩, ⟨.len (.loc 14), none, none, true⟩, ⟨.bin .eql .no (.loc 15) (.k (.int .i64 0)), none, none, true⟩, ⟨.pick (.loc 13) (.loc 16) (.k (.bool false)), none, none, true⟩, ⟨.move (.loc 17), none, (some 5), true⟩])
 (.ret))) (.skip))))
 ((.seq (.ops [⟨.move (.k (.empty)), none, (some 28), true⟩])
 ((.seq (.ops [⟨.field 0 (some 8) (.var 14), none, none, true⟩, ⟨.callS nFDeployment_State [(.loc 0)], none, none, true⟩, ⟨.move (.loc 1), none, (some 24), true⟩])
 ((.seq ((.seq (.ops [⟨.move (.k (.int .i64 0)), none, (some 23), true⟩])
 (.block 2 (.loop ((.seq ((.seq (.ops [⟨.move (.var 23), none, none, true⟩, ⟨.move (.var 24), none, none, true⟩, ⟨.len (.loc 1), none, none, true⟩, ⟨.bin .lss .no (.loc 0) (.loc 2), none, (some 25), true⟩])
 (.cond (.var 25) (.skip) (.exit 2))))
 ((.seq (.block 3 ((.seq (.ops [⟨.move (.var 24), none, none, true⟩, ⟨.move (.var 23), none, none, true⟩, ⟨.indexAddr 4 (.loc 0) (.loc 1), none, none, true⟩, ⟨.fieldAddr 1 (.loc 2), none, none, true⟩, ⟨.load none (.loc 3), none, none, true⟩, ⟨.move (.loc 4), none, (some 26), true⟩])
 ((.seq ((.seq (.ops [⟨.move (.var 26), none, none, true⟩, ⟨.bin .eql .no (.loc 0) (.k (.int .i64 0)), none, none, true⟩, ⟨.move (.loc 1), none, none, true⟩, ⟨.move (.var 24), none, none, true⟩, ⟨.move (.var 23), none, none, true⟩, ⟨.indexAddr 4 (.loc 3) (.loc 4), (some (2, true)), none, true⟩, ⟨.fieldAddr 0 (.loc 5), (some (2, true)), none, true⟩, ⟨.load none (.loc 6), (some (2, true)), none, true⟩, ⟨.len (.loc 7), (some (2, true)), none, true⟩, ⟨.bin .gtr .no (.loc 8) (.k (.int .i64 0)), (some (2, true)), none, true⟩, ⟨.pick (.loc 2) (.loc 9) (.k (.bool false)), none, (some 27), true⟩])
 (.cond (.var 27) (.ops [⟨.move (.var 24), none, none, false⟩, ⟨.move (.var 23), none, none, false⟩, ⟨.indexAddr 4 (.loc 0) (.loc 1), none, none, false⟩, ⟨.fieldAddr 0 (.loc 2), none, none, false⟩, ⟨.load none (.loc 3), none, none, false⟩, ⟨.move (.var 24), none, none, false⟩, ⟨.move (.var 23), none, none, false⟩, ⟨.indexAddr 4 (.loc 5) (.loc 6), none, none, false⟩, ⟨.fieldAddr 0 (.loc 7), none, none, false⟩, ⟨.load none (.loc 8), none, none, false⟩, ⟨.len (.loc 9), none, none, false⟩, ⟨.bin .sub .no (.loc 10) (.k (.int .i64 1)), none, none, false⟩, ⟨.indexAddr 1 (.loc 4) (.loc 11), none, none, true⟩, ⟨.load none (.loc 12), none, none, true⟩, ⟨.move (.loc 13), none, (some 26), true⟩]) (.skip))))
 (.ops [⟨.move (.var 28), none, none, true⟩, ⟨.move (.var 26), none, none, true⟩, ⟨.buildSlice 1 [.int .i64 0] [(0, 1, (.loc 1))] 1, none, none, true⟩, ⟨.append 1 8 (.loc 0) (.loc 2), none, none, true⟩, ⟨.move (.loc 3), none, (some 28), true⟩]))))))
 (.ops [⟨.move (.var 23), none, none, true⟩, ⟨.bin .add .no (.loc 0) (.k (.int .i64 1)), none, none, true⟩, ⟨.move (.loc 1), none, (some 23), true⟩])))))))))
 ((.seq (.ops [⟨.field 0 none (.var 19), none, none, true⟩, ⟨.field 0 none (.var 19), none, none, true⟩, ⟨.bin .eql .no (.loc 1) (.k (.int .i64 0)), none, none, true⟩, ⟨.move (.loc 2), none, none, true⟩, ⟨.field 0 none (.var 20), none, none, true⟩, ⟨.field 0 none (.var 20), none, none, true⟩, ⟨.bin .eql .no (.loc 5) (.k (.int .i64 0)), none, none, true⟩, ⟨.pick (.loc 3) (.loc 6) (.k (.bool false)), none, none, true⟩, ⟨.move (.loc 7), none, none, true⟩, ⟨.move (.var 21), none, none, true⟩, ⟨.move (.var 24), none, none, true⟩, ⟨.callS nFEqualRings [(.loc 9), (.loc 10)], (some (8, true)), none, true⟩, ⟨.pick (.loc 8) (.loc 11) (.k (.bool false)), none, none, true⟩, ⟨.move (.loc 12), none, none, true⟩, ⟨.move (.var 22), none, none, true⟩, ⟨.move (.var 28), none, none, true⟩, ⟨.callS nFEqualInts [(.loc 14), (.loc 15)], (some (13, true)), none, true⟩, ⟨.pick (.loc 13) (.loc 16) (.k (.bool false)), none, none, true⟩, ⟨.move (.loc 17), none, (some 5), true⟩])
 (.ret)))))))))))))))))))))))))))⟩
def rf_LRolloutOneActiveRing (nrollout_Run nLrolloutExample nFVerdict : Nat) : RFunc := ⟨5, 17, [.var 5],
 ((.seq (.ops [⟨.tomb 1 (.var 1), none, (some 6), true⟩, ⟨.move (.k (.bool false)), none, (some 5), true⟩])
 ((.seq (.ops [⟨.move (.var 0), none, none, true⟩, ⟨.field 0 (some 2) (.var 6), none, none, true⟩, ⟨.move (.var 2), none, none, true⟩, ⟨.move (.var 3), none, none, true⟩, ⟨.move (.var 4), none, none, true⟩, ⟨.callS nrollout_Run [(.loc 0), (.loc 1), (.loc 2), (.loc 3), (.loc 4)], none, none, true⟩, ⟨.move (.loc 5), none, none, true⟩, ⟨.extract (.loc 6) 0, none, none, true⟩, ⟨.extract (.loc 6) 1, none, none, true⟩, ⟨.tomb 1 (.k (.agg [.int .i64 0, .int .i64 0])), none, (some 8), true⟩, ⟨.move (.loc 7), none, (some 10), true⟩, ⟨.upd 2 0 (.loc 9) (.loc 8), none, (some 8), true⟩])
 ((.seq ((.seq (.ops [⟨.callS nLrolloutExample [], none, none, true⟩, ⟨.un .not (.loc 0), none, (some 7), true⟩])
 (.cond (.var 7) ((.seq (.ops [⟨.move (.k (.bool false)), none, (some 5), true⟩])
 (.ret))) (.skip))))
 ((.seq ((.seq (.ops [⟨.move (.k (.int .i64 0)), none, (some 9), true⟩])
 (.block 0 (.loop ((.seq ((.seq (.ops [⟨.field 0 none (.var 8), none, none, true⟩, ⟨.field 0 none (.var 8), none, none, true⟩, ⟨.bin .eql .no (.loc 1) (.k (.int .i64 0)), none, none, true⟩, ⟨.move (.loc 2), none, none, true⟩, ⟨.move (.var 9), none, none, true⟩, ⟨.move (.var 10), none, none, true⟩, ⟨.len (.loc 5), none, none, true⟩, ⟨.bin .lss .no (.loc 4) (.loc 6), none, none, true⟩, ⟨.pick (.loc 3) (.loc 7) (.k (.bool false)), none, (some 11), true⟩])
 (.cond (.var 11) (.skip) (.exit 0))))
 ((.seq (.block 1 ((.seq ((.seq (.ops [⟨.move (.var 10), none, none, true⟩, ⟨.move (.var 9), none, none, true⟩, ⟨.indexAddr 4 (.loc 0) (.loc 1), none, none, true⟩, ⟨.fieldAddr 1 (.loc 2), none, none, true⟩, ⟨.load none (.loc 3), none, none, true⟩, ⟨.bin .eql .no (.loc 4) (.k (.int .i64 0)), none, (some 12), true⟩])
 (.cond (.var 12) (.exit 1) (.skip))))
 ((.seq ((.seq (.ops [⟨.field 0 (some 2) (.var 6), none, none, false⟩, ⟨.move (.var 10), none, none, false⟩, ⟨.move (.var 9), none, none, false⟩, ⟨.indexAddr 4 (.loc 1) (.loc 2), none, none, false⟩, ⟨.fieldAddr 2 (.loc 3), none, none, false⟩, ⟨.load (some 2) (.loc 4), none, none, false⟩, ⟨.move (.var 2), none, none, false⟩, ⟨.move (.var 3), none, none, false⟩, ⟨.callS nFVerdict [(.loc 0), (.loc 5), (.loc 6), (.loc 7)], none, none, true⟩, ⟨.bin .eql .no (.loc 8) (.k (.int .i64 3)), none, (some 13), true⟩])
 (.cond (.var 13) ((.seq (.ops [⟨.move (.k (.bool false)), none, (some 5), true⟩])
 (.ret))) (.skip))))
 ((.seq (.ops [⟨.move (.k (.int .i64 0)), none, (some 14), true⟩])
 (.block 2 (.loop ((.seq ((.seq (.ops [⟨.move (.var 14), none, none, true⟩, ⟨.move (.var 9), none, none, true⟩, ⟨.bin .lss .no (.loc 0) (.loc 1), none, (some 15), true⟩])
 (.cond (.var 15) (.skip) (.exit 2))))
 ((.seq (.block 3 ((.seq (.ops [⟨.move (.var 10), none, none, false⟩, ⟨.move (.var 14), none, none, false⟩, ⟨.indexAddr 4 (.loc 0) (.loc 1), none, none, false⟩, ⟨.fieldAddr 1 (.loc 2), none, none, false⟩, ⟨.load none (.loc 3), none, none, false⟩, ⟨.move (.var 10), none, none, false⟩, ⟨.move (.var 9), none, none, false⟩, ⟨.indexAddr 4 (.loc 5) (.loc 6), none, none, false⟩, ⟨.fieldAddr 1 (.loc 7), none, none, false⟩, ⟨.load none (.loc 8), none, none, false⟩, ⟨.bin .eql .no (.loc 4) (.loc 9), none, (some 16), true⟩])
 (.cond (.var 16) ((.seq (.ops [⟨.move (.k (.bool false)), none, (some 5), true⟩])
 (.ret))) (.skip)))))
 (.ops [⟨.move (.var 14), none, none, true⟩, ⟨.bin .add .no (.loc 0) (.k (.int .i64 1)), none, none, true⟩, ⟨.move (.loc 1), none, (some 14), true⟩]))))))))))))))
 (.ops [⟨.move (.var 9), none, none, true⟩, ⟨.bin .add .no (.loc 0) (.k (.int .i64 1)), none, none, true⟩, ⟨.move (.loc 1), none, (some 9), true⟩])))))))))
 ((.seq (.ops [⟨.move (.k (.bool true)), none, (some 5), true⟩])
 (.ret)))))))))))⟩
theorem v_LRolloutOneActiveRing {F : Nat → Option RFunc} {me nrollout_Run nLrolloutExample nFVerdict : Nat} (hF : F me = some (rf_LRolloutOneActiveRing nrollout_Run nLrolloutExample nFVerdict)) {fl : Nat} {H : Heap} {Q : AV → Heap → Prop} (rings0 : Int) (base1 : Int) (base2 : Int) (need3 : Int) (perMille4 : Int) (events5 : AV)
  (h : ∀ (H6 : Heap), Dead1 H 1 H6 → Ret F fl nrollout_Run [(.int .i64 rings0), (.agg [(.int .i64 base1), (.int .i64 base2)]), (.int .i64 need3), (.int .i64 perMille4), events5] H6 (fun v11 H10 => ∃ (r7 : AV) (r8 : Int) (r9 : Int), v11 = (.tuple [r7, (.agg [(.int .i64 r8), (.int .i64 r9)])]) ∧ ∀ (H12 : Heap), Dead1 H10 1 H12 → Ret F fl nLrolloutExample [] H12 (fun v15 H14 => ∃ (r13 : Bool), v15 = (.bool r13) ∧ ((¬(r13 = true)) → Q (.bool false) H14) ∧ (¬(¬(r13 = true)) → ∃ (J16 : Nat → Int → Heap → Prop) (k17 : Nat), J16 k17 0 H14 ∧ (∀ (m18 : Nat) (i20 : Int) (H27 : Heap), J16 m18 i20 H27 → ∃ len28 : Nat, lenA r7 = some len28 ∧ ((((r8 = 0) ∧ (i20 < (len28 : Int)))) → ∃ (e29 : Int), getA H27 4 none r7 i20 1 = some (.int .i64 e29) ∧ ((e29 = 0) → ∃ m31 : Nat, m31 < m18 ∧ J16 m31 (IntKind.wrap .i64 (i20 + 1)) H27) ∧ (¬(e29 = 0) → ∃ (e32 : Int) (e33 : Int), getA H27 4 (some 2) r7 i20 2 = some (.agg [(.int .i64 e32), (.int .i64 e33)]) ∧ Ret F fl nFVerdict [(.agg [(.int .i64 base1), (.int .i64 base2)]), (.agg [(.int .i64 e32), (.int .i64 e33)]), (.int .i64 need3), (.int .i64 perMille4)] H27 (fun v37 H36 => ∃ (r35 : Int), v37 = (.int .i64 r35) ∧ ((r35 = 3) → Q (.bool false) H36) ∧ (¬(r35 = 3) → ∃ (J38 : Nat → Int → Prop) (k39 : Nat), J38 k39 0 ∧ (∀ (m40 : Nat) (k42 : Int), J38 m40 k42 → ((k42 < i20) → ∃ (e45 : Int), getA H36 4 none r7 k42 1 = some (.int .i64 e45) ∧ ∃ (e47 : Int), getA H36 4 none r7 i20 1 = some (.int .i64 e47) ∧ ((e45 = e47) → Q (.bool false) H36) ∧ (¬(e45 = e47) → ∃ m49 : Nat, m49 < m40 ∧ J38 m49 (IntKind.wrap .i64 (k42 + 1)))) ∧ (¬(k42 < i20) → ∃ m50 : Nat, m50 < m18 ∧ J16 m50 (IntKind.wrap .i64 (i20 + 1)) H36)))))) ∧ (¬(((r8 = 0) ∧ (i20 < (len28 : Int)))) → Q (.bool true) H27)))))) : Ret F fl me [(.int .i64 rings0), (.agg [(.int .i64 base1), (.int .i64 base2)]), (.int .i64 need3), (.int .i64 perMille4), events5] H Q := by
  refine ret_intro hF rfl ?_
  refine w_seq ?_
  refine w_run [1, 0] ?_
  obtain ⟨H6, hb⟩ : ∃ H', Dead1 H 1 H' := ⟨_, ⟨rfl⟩⟩
  replace h := h H6 hb
  refine t_tomb true 1 (.agg [(.int .i64 base1), (.int .i64 base2)]) [(.int .i64 base1), (.int .i64 base2)] H6 H (by kernel_rfl) rfl hb ?_
  refine t_done [(.int .i64 rings0), (.agg [(.int .i64 base1), (.int .i64 base2)]), (.int .i64 need3), (.int .i64 perMille4), events5, (.bool false), (.agg [(.int .i64 base1), (.int .i64 base2)]), .undef, .undef, .undef, .undef, .undef, .undef, .undef, .undef, .undef, .undef] H6 (by kernel_rfl) ?_
  refine then_norm ?_
  refine w_seq ?_
  refine w_run [0, 0, 0, 0, 0, 1, 0, 0, 0, 1, 0, 1] ?_
  refine t_call true nrollout_Run [(.int .i64 rings0), (.agg [(.int .i64 base1), (.int .i64 base2)]), (.int .i64 need3), (.int .i64 perMille4), events5] H6 (by kernel_rfl) h ?_
  clear h
  rintro _ H10 ⟨r7, r8, r9, rfl, h⟩
  obtain ⟨H12, hb⟩ : ∃ H', Dead1 H10 1 H' := ⟨_, ⟨rfl⟩⟩
  replace h := h H12 hb
  refine t_tomb true 1 (.agg [(.int .i64 0), (.int .i64 0)]) [(.int .i64 0), (.int .i64 0)] H12 H10 (by kernel_rfl) rfl hb ?_
  refine t_upd true 2 0 [(.int .i64 0), (.int .i64 0)] (.agg [(.int .i64 r8), (.int .i64 r9)]) [(.int .i64 r8), (.int .i64 r9)] [(.int .i64 r8), (.int .i64 r9)] H12 (by kernel_rfl) rfl (all_c rfl (all_c rfl all_n)) ⟨rfl, Nat.le_of_ble_eq_true (by kernel_rfl), rfl⟩ ?_
  refine t_done [(.int .i64 rings0), (.agg [(.int .i64 base1), (.int .i64 base2)]), (.int .i64 need3), (.int .i64 perMille4), events5, (.bool false), (.agg [(.int .i64 base1), (.int .i64 base2)]), .undef, (.agg [(.int .i64 r8), (.int .i64 r9)]), .undef, r7, .undef, .undef, .undef, .undef, .undef, .undef] H12 (by kernel_rfl) ?_
  refine then_norm ?_
  refine w_seq ?_
  refine w_seq ?_
  refine w_run [1, 0] ?_
  refine t_call true nLrolloutExample [] H12 (by kernel_rfl) h ?_
  clear h
  rintro _ H14 ⟨r13, rfl, h⟩
  refine t_done [(.int .i64 rings0), (.agg [(.int .i64 base1), (.int .i64 base2)]), (.int .i64 need3), (.int .i64 perMille4), events5, (.bool false), (.agg [(.int .i64 base1), (.int .i64 base2)]), (.bool (!r13)), (.agg [(.int .i64 r8), (.int .i64 r9)]), .undef, r7, .undef, .undef, .undef, .undef, .undef, .undef] H14 (by kernel_rfl) ?_
  refine then_norm ?_
  refine w_cond (t := (!r13)) rfl (fun hc => ?_) (fun hc => ?_)
  · replace h := h.1 ((is_not is_raw).t hc)
    refine w_seq ?_
    refine w_run [0] ?_
    refine t_done [(.int .i64 rings0), (.agg [(.int .i64 base1), (.int .i64 base2)]), (.int .i64 need3), (.int .i64 perMille4), events5, (.bool false), (.agg [(.int .i64 base1), (.int .i64 base2)]), (.bool (!r13)), (.agg [(.int .i64 r8), (.int .i64 r9)]), .undef, r7, .undef, .undef, .undef, .undef, .undef, .undef] H14 (by kernel_rfl) ?_
    refine then_norm ?_
    refine w_ret ?_
    refine then_ret ?_
    exact body_ret (vs := [(.bool false)]) _ (by kernel_rfl) rfl h
  · replace h := h.2 ((is_not is_raw).f hc)
    refine w_skip ?_
    refine then_norm ?_
    refine w_seq ?_
    refine w_seq ?_
    refine w_run [0] ?_
    refine t_done [(.int .i64 rings0), (.agg [(.int .i64 base1), (.int .i64 base2)]), (.int .i64 need3), (.int .i64 perMille4), events5, (.bool false), (.agg [(.int .i64 base1), (.int .i64 base2)]), (.bool (!r13)), (.agg [(.int .i64 r8), (.int .i64 r9)]), (.int .i64 0), r7, .undef, .undef, .undef, .undef, .undef, .undef] H14 (by kernel_rfl) ?_
    refine then_norm ?_
    refine w_block ?_
    obtain ⟨J16, k17, h0, h⟩ := h
    refine w_loop (I := fun mI EI HI => ∃ (d19 : AV) (i20 : Int) (d21 : AV) (d22 : AV) (d23 : AV) (d24 : AV) (d25 : AV) (d26 : AV), EI = [(.int .i64 rings0), (.agg [(.int .i64 base1), (.int .i64 base2)]), (.int .i64 need3), (.int .i64 perMille4), events5, d19, (.agg [(.int .i64 base1), (.int .i64 base2)]), (.bool (!r13)), (.agg [(.int .i64 r8), (.int .i64 r9)]), (.int .i64 i20), r7, d21, d22, d23, d24, d25, d26] ∧ J16 mI i20 HI) ?_ k17 ⟨_, _, _, _, _, _, _, _, rfl, h0⟩
    clear h0
    rintro m18 EI H27 ⟨d19, i20, d21, d22, d23, d24, d25, d26, rfl, hJ⟩
    replace h := h m18 i20 H27 hJ
    clear hJ
    refine w_seq ?_
    refine w_seq ?_
    refine w_run [0, 0, 0, 0, 0, 0, 1, 0, 0] ?_
    obtain ⟨len28, hl, h⟩ := h
    refine t_len true r7 len28 H27 (by kernel_rfl) hl ?_
    refine t_done [(.int .i64 rings0), (.agg [(.int .i64 base1), (.int .i64 base2)]), (.int .i64 need3), (.int .i64 perMille4), events5, d19, (.agg [(.int .i64 base1), (.int .i64 base2)]), (.bool (!r13)), (.agg [(.int .i64 r8), (.int .i64 r9)]), (.int .i64 i20), r7, (.bool (((r8) == 0) && (decide (i20 < (len28 : Int))))), d22, d23, d24, d25, d26] H27 (by kernel_rfl) ?_
    refine then_norm ?_
    refine w_cond (t := (((r8) == 0) && (decide (i20 < (len28 : Int))))) rfl (fun hc => ?_) (fun hc => ?_)
    · replace h := h.1 ((is_and is_eq is_dec).t hc)
      refine w_skip ?_
      refine then_norm ?_
      refine w_seq ?_
      refine w_block ?_
      refine w_seq ?_
      refine w_seq ?_
      refine w_run [0, 0, 1, 1, 1, 0] ?_
      obtain ⟨e29, hg30, h⟩ := h
      refine t_idxG true 4 r7 .i64 i20 H27 (by kernel_rfl) hg30 ?_
      refine t_fldG true 1 4 r7 i20 0 H27 (by kernel_rfl) hg30 ?_
      refine t_loadG true none 4 r7 i20 1 (.int .i64 e29) H27 (by kernel_rfl) hg30 ?_
      refine t_done [(.int .i64 rings0), (.agg [(.int .i64 base1), (.int .i64 base2)]), (.int .i64 need3), (.int .i64 perMille4), events5, d19, (.agg [(.int .i64 base1), (.int .i64 base2)]), (.bool (!r13)), (.agg [(.int .i64 r8), (.int .i64 r9)]), (.int .i64 i20), r7, (.bool (((r8) == 0) && (decide (i20 < (len28 : Int))))), (.bool ((e29) == 0)), d23, d24, d25, d26] H27 (by kernel_rfl) ?_
      refine then_norm ?_
      refine w_cond (t := ((e29) == 0)) rfl (fun hc => ?_) (fun hc => ?_)
      · replace h := h.1 (is_eq.t hc)
        refine w_exit ?_
        refine then_exit ?_
        refine block_exit ?_
        refine then_norm ?_
        refine w_run [0, 0, 0] ?_
        refine t_done [(.int .i64 rings0), (.agg [(.int .i64 base1), (.int .i64 base2)]), (.int .i64 need3), (.int .i64 perMille4), events5, d19, (.agg [(.int .i64 base1), (.int .i64 base2)]), (.bool (!r13)), (.agg [(.int .i64 r8), (.int .i64 r9)]), (.int .i64 (IntKind.wrap .i64 (i20 + 1))), r7, (.bool (((r8) == 0) && (decide (i20 < (len28 : Int))))), (.bool ((e29) == 0)), d23, d24, d25, d26] H27 (by kernel_rfl) ?_
        obtain ⟨m', hm, h⟩ := h
        refine loop_norm ⟨m', hm, _, _, _, _, _, _, _, _, rfl, h⟩
      · replace h := h.2 (is_eq.f hc)
        refine w_skip ?_
        refine then_norm ?_
        refine w_seq ?_
        refine w_seq ?_
        refine w_run [0, 0, 0, 1, 1, 1, 0, 0, 1, 0] ?_
        obtain ⟨e32, e33, hg34, h⟩ := h
        refine t_idxG false 4 r7 .i64 i20 H27 (by kernel_rfl) hg34 ?_
        refine t_fldG false 2 4 r7 i20 0 H27 (by kernel_rfl) hg34 ?_
        refine t_loadG false (some 2) 4 r7 i20 2 (.agg [(.int .i64 e32), (.int .i64 e33)]) H27 (by kernel_rfl) hg34 ?_
        refine t_call true nFVerdict [(.agg [(.int .i64 base1), (.int .i64 base2)]), (.agg [(.int .i64 e32), (.int .i64 e33)]), (.int .i64 need3), (.int .i64 perMille4)] H27 (by kernel_rfl) h ?_
        clear h
        rintro _ H36 ⟨r35, rfl, h⟩
        refine t_done [(.int .i64 rings0), (.agg [(.int .i64 base1), (.int .i64 base2)]), (.int .i64 need3), (.int .i64 perMille4), events5, d19, (.agg [(.int .i64 base1), (.int .i64 base2)]), (.bool (!r13)), (.agg [(.int .i64 r8), (.int .i64 r9)]), (.int .i64 i20), r7, (.bool (((r8) == 0) && (decide (i20 < (len28 : Int))))), (.bool ((e29) == 0)), (.bool ((r35) == 3)), d24, d25, d26] H36 (by kernel_rfl) ?_
        refine then_norm ?_
        refine w_cond (t := ((r35) == 3)) rfl (fun hc => ?_) (fun hc => ?_)
        · replace h := h.1 (is_eq.t hc)
          refine w_seq ?_
          refine w_run [0] ?_
          refine t_done [(.int .i64 rings0), (.agg [(.int .i64 base1), (.int .i64 base2)]), (.int .i64 need3), (.int .i64 perMille4), events5, (.bool false), (.agg [(.int .i64 base1), (.int .i64 base2)]), (.bool (!r13)), (.agg [(.int .i64 r8), (.int .i64 r9)]), (.int .i64 i20), r7, (.bool (((r8) == 0) && (decide (i20 < (len28 : Int))))), (.bool ((e29) == 0)), (.bool ((r35) == 3)), d24, d25, d26] H36 (by kernel_rfl) ?_
          refine then_norm ?_
          refine w_ret ?_
          refine then_ret ?_
          refine block_ret ?_
          refine then_ret ?_
          refine loop_ret ?_
          refine block_ret ?_
          refine then_ret ?_
          exact body_ret (vs := [(.bool false)]) _ (by kernel_rfl) rfl h
        · replace h := h.2 (is_eq.f hc)
          refine w_skip ?_
          refine then_norm ?_
          refine w_seq ?_
          refine w_run [0] ?_
          refine t_done [(.int .i64 rings0), (.agg [(.int .i64 base1), (.int .i64 base2)]), (.int .i64 need3), (.int .i64 perMille4), events5, d19, (.agg [(.int .i64 base1), (.int .i64 base2)]), (.bool (!r13)), (.agg [(.int .i64 r8), (.int .i64 r9)]), (.int .i64 i20), r7, (.bool (((r8) == 0) && (decide (i20 < (len28 : Int))))), (.bool ((e29) == 0)), (.bool ((r35) == 3)), (.int .i64 0), d25, d26] H36 (by kernel_rfl) ?_
          refine then_norm ?_
          refine w_block ?_
          obtain ⟨J38, k39, h0, h⟩ := h
          refine w_loop (I := fun mI EI HI => ∃ (d41 : AV) (k42 : Int) (d43 : AV) (d44 : AV), EI = [(.int .i64 rings0), (.agg [(.int .i64 base1), (.int .i64 base2)]), (.int .i64 need3), (.int .i64 perMille4), events5, d41, (.agg [(.int .i64 base1), (.int .i64 base2)]), (.bool (!r13)), (.agg [(.int .i64 r8), (.int .i64 r9)]), (.int .i64 i20), r7, (.bool (((r8) == 0) && (decide (i20 < (len28 : Int))))), (.bool ((e29) == 0)), (.bool ((r35) == 3)), (.int .i64 k42), d43, d44] ∧ H36 = HI ∧ J38 mI k42) ?_ k39 ⟨_, _, _, _, rfl, rfl, h0⟩
          clear h0
          rintro m40 EI HI ⟨d41, k42, d43, d44, rfl, rfl, hJ⟩
          replace h := h m40 k42  hJ
          clear hJ
          refine w_seq ?_
          refine w_seq ?_
          refine w_run [0, 0, 0] ?_
          refine t_done [(.int .i64 rings0), (.agg [(.int .i64 base1), (.int .i64 base2)]), (.int .i64 need3), (.int .i64 perMille4), events5, d41, (.agg [(.int .i64 base1), (.int .i64 base2)]), (.bool (!r13)), (.agg [(.int .i64 r8), (.int .i64 r9)]), (.int .i64 i20), r7, (.bool (((r8) == 0) && (decide (i20 < (len28 : Int))))), (.bool ((e29) == 0)), (.bool ((r35) == 3)), (.int .i64 k42), (.bool (decide (k42 < i20))), d44] H36 (by kernel_rfl) ?_
          refine then_norm ?_
          refine w_cond (t := (decide (k42 < i20))) rfl (fun hc => ?_) (fun hc => ?_)
          · replace h := h.1 (is_dec.t hc)
            refine w_skip ?_
            refine then_norm ?_
            refine w_seq ?_
            refine w_block ?_
            refine w_seq ?_
            refine w_run [0, 0, 1, 1, 1, 0, 0, 1, 1, 1, 0] ?_
            obtain ⟨e45, hg46, h⟩ := h
            refine t_idxG false 4 r7 .i64 k42 H36 (by kernel_rfl) hg46 ?_
            refine t_fldG false 1 4 r7 k42 0 H36 (by kernel_rfl) hg46 ?_
            refine t_loadG false none 4 r7 k42 1 (.int .i64 e45) H36 (by kernel_rfl) hg46 ?_
            obtain ⟨e47, hg48, h⟩ := h
            refine t_idxG false 4 r7 .i64 i20 H36 (by kernel_rfl) hg48 ?_
            refine t_fldG false 1 4 r7 i20 0 H36 (by kernel_rfl) hg48 ?_
            refine t_loadG false none 4 r7 i20 1 (.int .i64 e47) H36 (by kernel_rfl) hg48 ?_
            refine t_done [(.int .i64 rings0), (.agg [(.int .i64 base1), (.int .i64 base2)]), (.int .i64 need3), (.int .i64 perMille4), events5, d41, (.agg [(.int .i64 base1), (.int .i64 base2)]), (.bool (!r13)), (.agg [(.int .i64 r8), (.int .i64 r9)]), (.int .i64 i20), r7, (.bool (((r8) == 0) && (decide (i20 < (len28 : Int))))), (.bool ((e29) == 0)), (.bool ((r35) == 3)), (.int .i64 k42), (.bool (decide (k42 < i20))), (.bool ((e45) == e47))] H36 (by kernel_rfl) ?_
            refine then_norm ?_
            refine w_cond (t := ((e45) == e47)) rfl (fun hc => ?_) (fun hc => ?_)
            · replace h := h.1 (is_eq.t hc)
              refine w_seq ?_
              refine w_run [0] ?_
              refine t_done [(.int .i64 rings0), (.agg [(.int .i64 base1), (.int .i64 base2)]), (.int .i64 need3), (.int .i64 perMille4), events5, (.bool false), (.agg [(.int .i64 base1), (.int .i64 base2)]), (.bool (!r13)), (.agg [(.int .i64 r8), (.int .i64 r9)]), (.int .i64 i20), r7, (.bool (((r8) == 0) && (decide (i20 < (len28 : Int))))), (.bool ((e29) == 0)), (.bool ((r35) == 3)), (.int .i64 k42), (.bool (decide (k42 < i20))), (.bool ((e45) == e47))] H36 (by kernel_rfl) ?_
              refine then_norm ?_
              refine w_ret ?_
              refine block_ret ?_
              refine then_ret ?_
              refine loop_ret ?_
              refine block_ret ?_
              refine block_ret ?_
              refine then_ret ?_
              refine loop_ret ?_
              refine block_ret ?_
              refine then_ret ?_
              exact body_ret (vs := [(.bool false)]) _ (by kernel_rfl) rfl h
            · replace h := h.2 (is_eq.f hc)
              refine w_skip ?_
              refine block_norm ?_
              refine then_norm ?_
              refine w_run [0, 0, 0] ?_
              refine t_done [(.int .i64 rings0), (.agg [(.int .i64 base1), (.int .i64 base2)]), (.int .i64 need3), (.int .i64 perMille4), events5, d41, (.agg [(.int .i64 base1), (.int .i64 base2)]), (.bool (!r13)), (.agg [(.int .i64 r8), (.int .i64 r9)]), (.int .i64 i20), r7, (.bool (((r8) == 0) && (decide (i20 < (len28 : Int))))), (.bool ((e29) == 0)), (.bool ((r35) == 3)), (.int .i64 (IntKind.wrap .i64 (k42 + 1))), (.bool (decide (k42 < i20))), (.bool ((e45) == e47))] H36 (by kernel_rfl) ?_
              obtain ⟨m', hm, h⟩ := h
              refine loop_norm ⟨m', hm, _, _, _, _, rfl, rfl, h⟩
          · replace h := h.2 (is_dec.f hc)
            refine w_exit ?_
            refine then_exit ?_
            refine loop_exit ?_
            refine block_exit ?_
            refine block_norm ?_
            refine then_norm ?_
            refine w_run [0, 0, 0] ?_
            refine t_done [(.int .i64 rings0), (.agg [(.int .i64 base1), (.int .i64 base2)]), (.int .i64 need3), (.int .i64 perMille4), events5, d41, (.agg [(.int .i64 base1), (.int .i64 base2)]), (.bool (!r13)), (.agg [(.int .i64 r8), (.int .i64 r9)]), (.int .i64 (IntKind.wrap .i64 (i20 + 1))), r7, (.bool (((r8) == 0) && (decide (i20 < (len28 : Int))))), (.bool ((e29) == 0)), (.bool ((r35) == 3)), (.int .i64 k42), (.bool (decide (k42 < i20))), d44] H36 (by kernel_rfl) ?_
            obtain ⟨m', hm, h⟩ := h
            refine loop_norm ⟨m', hm, _, _, _, _, _, _, _, _, rfl, h⟩
    · replace h := h.2 ((is_and is_eq is_dec).f hc)
      refine w_exit ?_
      refine then_exit ?_
      refine loop_exit ?_
      refine block_exit ?_
      refine then_norm ?_
      refine w_seq ?_
      refine w_run [0] ?_
      refine t_done [(.int .i64 rings0), (.agg [(.int .i64 base1), (.int .i64 base2)]), (.int .i64 need3), (.int .i64 perMille4), events5, (.bool true), (.agg [(.int .i64 base1), (.int .i64 base2)]), (.bool (!r13)), (.agg [(.int .i64 r8), (.int .i64 r9)]), (.int .i64 i20), r7, (.bool (((r8) == 0) && (decide (i20 < (len28 : Int))))), d22, d23, d24, d25, d26] H27 (by kernel_rfl) ?_
      refine then_norm ?_
      refine w_ret ?_
      exact body_ret (vs := [(.bool true)]) _ (by kernel_rfl) rfl h

end Go.RM

/-
  How a call's arguments stand in the abstract machine: each slice has a read-only block of its own.
-/
namespace Go.RM
open Go.WideShapes Go.RowKit
set_option linter.unusedSimpArgs false
set_option linter.unusedVariables false
set_option linter.unusedSectionVars false

/-- Shapes of what a call is handed. 'slice n e': each element takes n cells. -/
inductive TC where
  | int (k : IntKind)
  | bool
  | str
  | slice (n : Nat) (e : TC)
  | struct (fs : List TC)

mutual
def TC.size : TC → Nat
  | .struct fs => TC.sizes fs
  | _ => 1
def TC.sizes : List TC → Nat
  | [] => 0
  | f :: fs => f.size + TC.sizes fs
end

mutual
def tcOk (P : Program) : TypeId → TC → Bool
  | t, .int k => (match P.underlying t with | some (.int k') => decide (k' = k) | _ => false)
  | t, .bool => (match P.underlying t with | some .bool => true | _ => false)
  | t, .str => (match P.underlying t with | some .string => true | _ => false)
  | t, .slice n e => (match P.underlying t with | some (.slice et) => decide (P.cellsOf et = n) && decide (0 < n) && decide (e.size = n) && tcOk P et e | _ => false)
  | t, .struct l => (match P.underlying t with | some (.struct fs) => decide (P.cellsOf t = TC.sizes l) && fsOk P fs.toList l 0 | _ => false)
def fsOk (P : Program) : List Field → List TC → Nat → Bool
  | [], [], _ => true
  | f :: fs, c :: l, off => decide (f.offset = off) && decide (P.cellsOf f.type = c.size) && tcOk P f.type c && fsOk P fs l (off + c.size)
  | _, _, _ => false
end

/-- A slice's elements, each a list of n cells. -/
def Elems (H : Heap) (n : Nat) (v : AV) (css : List (List AV)) : Prop :=
  (∀ c ∈ css, c.length = n) ∧ ((v = .empty ∧ css = []) ∨ ∃ b off lim k, v = .slice b off css.length lim ∧ lim = none ∧ H.blk b = some k ∧ k.e = n ∧ off + css.length * n ≤ k.cells.length ∧ (k.cells.drop off).take (css.length * n) = css.flatten)

mutual
def WF (Pn : Nat → Prop) (H : Heap) : TC → List AV → Prop
  | .int k, cs => ∃ n, cs = [.int k n] ∧ (Lit.int k n).wf = true
  | .bool, cs => ∃ b, cs = [.bool b]
  | .str, cs => ∃ s, cs = [.str s] ∧ s.size ≤ maxLen ∧ Pn s.size
  | .slice n e, cs => ∃ v css, cs = [v] ∧ Elems H n v css ∧ css.length ≤ maxLen ∧ Pn css.length ∧ ∀ c ∈ css, WF Pn H e c
  | .struct fs, cs => WFs Pn H fs cs
def WFs (Pn : Nat → Prop) (H : Heap) : List TC → List AV → Prop
  | [], cs => cs = []
  | f :: fs, cs => ∃ a b, cs = a ++ b ∧ WF Pn H f a ∧ WFs Pn H fs b
end

variable {Pn : Nat → Prop}

theorem blk_append {H : Heap} {b : Nat} {k : Blk} (h : H.blk b = some k) (news : Heap) : Heap.blk (H ++ news) b = some k := by
  have hg := (blk_act h).2.2
  unfold Heap.blk at h ⊢
  rw [List.getElem?_append_left (get_lt hg)]
  exact h

theorem Elems.append {H : Heap} {n : Nat} {v : AV} {css : List (List AV)} (h : Elems H n v css) (news : Heap) : Elems (H ++ news) n v css := by
  refine ⟨h.1, h.2.imp id ?_⟩
  rintro ⟨b, off, lim, k, h1, h0, h2, h3⟩
  exact ⟨b, off, lim, k, h1, h0, blk_append h2 news, h3⟩

mutual
theorem WF.append {H : Heap} : ∀ {tc : TC} {cs : List AV}, WF Pn H tc cs → ∀ news, WF Pn (H ++ news) tc cs
  | .int k, cs, h, news => by simpa only [WF] using h
  | .bool, cs, h, news => by simpa only [WF] using h
  | .str, cs, h, news => by simpa only [WF] using h
  | .slice n e, cs, h, news => by
    simp only [WF] at h ⊢
    obtain ⟨v, css, h1, h2, h3, h5, h4⟩ := h
    exact ⟨v, css, h1, h2.append news, h3, h5, fun c hc => WF.append (h4 c hc) news⟩
  | .struct fs, cs, h, news => by
    simp only [WF] at h ⊢
    exact WFs.append h news
theorem WFs.append {H : Heap} : ∀ {fs : List TC} {cs : List AV}, WFs Pn H fs cs → ∀ news, WFs Pn (H ++ news) fs cs
  | [], cs, h, news => by simpa only [WFs] using h
  | f :: fs, cs, h, news => by
    simp only [WFs] at h ⊢
    obtain ⟨a, b, h1, h2, h3⟩ := h
    exact ⟨a, b, h1, WF.append h2 news, WFs.append h3 news⟩
end

/-- A heap all of whose blocks are the caller's. -/
structure RO (m : BMap) (H : Heap) (w : World) : Prop where
  kid : ∀ (b : Nat) (k : Blk), H[b]? = some k → k.kid = none
  dom : ∀ b l, m b = some l → b < H.length
  es : ∀ (b : Nat) (k : Blk) (l : Loc), H[b]? = some k → m b = some l → l.e = k.e
  cells : ∀ (b : Nat) (k : Blk) (l : Loc), H[b]? = some k → m b = some l → k.cells.length ≤ l.room ∧ CellsAt m w l k.cells
  ro : ∀ b l, m b = some l → l.cb < w.heap.size

theorem RO.sim {m : BMap} {H : Heap} {w : World} (h : RO m H w) : Sim H.length w.heap.size m H w := by
  refine ⟨Nat.le_refl _, Nat.le_refl _, fun b c k hb hk => by rw [h.kid b k hb] at hk; simp at hk, h.es, fun b k l ha hm => ⟨h.es b k l (act_get ha) hm, h.cells b k l (act_get ha) hm⟩, fun b l _ hm => h.ro b l hm, fun b k l hb ha _ => ?_, fun b b' k k' l l' hb _ ha => ?_⟩
  · have := act_lt ha; omega
  · have := act_lt ha; omega

theorem RO.nil (w : World) : RO (fun _ => none) [] w := ⟨fun b k h => by simp at h, fun b l h => by simp at h, fun b k l h => by simp at h, fun b k l h => by simp at h, fun b l h => by simp at h⟩

theorem RO.push {m : BMap} {H : Heap} {w : World} (h : RO m H w) {k : Blk} {l : Loc} (hk : k.kid = none) (he : l.e = k.e) (hr : k.cells.length ≤ l.room) (hc : CellsAt m w l k.cells) (hl : l.cb < w.heap.size) :
    Ext m (upd m H.length l) ∧ RO (upd m H.length l) (H ++ [k]) w := by
  have hn : m H.length = none := by
    cases hm : m H.length with
    | none => rfl
    | some l' => have := h.dom _ _ hm; omega
  have hext := upd_ext l hn
  have hget : ∀ (b : Nat) (k' : Blk), (H ++ [k])[b]? = some k' → (b < H.length ∧ H[b]? = some k') ∨ (b = H.length ∧ k' = k) := fun b k' hb => by
    by_cases e : b < H.length
    · rw [List.getElem?_append_left e] at hb; exact .inl ⟨e, hb⟩
    · rw [List.getElem?_append_right (by omega)] at hb
      cases hq : b - H.length with
      | zero => rw [hq] at hb; simp at hb; exact .inr ⟨by omega, hb.symm⟩
      | succ q => rw [hq] at hb; simp at hb
  refine ⟨hext, fun b k' hb => ?_, fun b l' hm => ?_, fun b k' l' hb hm => ?_, fun b k' l' hb hm => ?_, fun b l' hm => ?_⟩
  · rcases hget b k' hb with ⟨_, h1⟩ | ⟨_, rfl⟩
    · exact h.kid b k' h1
    · exact hk
  · by_cases e : b = H.length
    · subst e; simp
    · rw [upd_ne _ e] at hm; have := h.dom b l' hm; simp; omega
  · rcases hget b k' hb with ⟨h0, h1⟩ | ⟨rfl, rfl⟩
    · rw [upd_ne _ (by omega)] at hm; exact h.es b k' l' h1 hm
    · rw [upd_same] at hm; cases hm; exact he
  · rcases hget b k' hb with ⟨h0, h1⟩ | ⟨rfl, rfl⟩
    · rw [upd_ne _ (by omega)] at hm
      obtain ⟨e1, e2⟩ := h.cells b k' l' h1 hm
      exact ⟨e1, cellsAt_mono e2 hext fun _ _ => rfl⟩
    · rw [upd_same] at hm; cases hm; exact ⟨hr, cellsAt_mono hc hext fun _ _ => rfl⟩
  · by_cases e : b = H.length
    · subst e; rw [upd_same] at hm; cases hm; exact hl
    · rw [upd_ne _ e] at hm; exact h.ro b l' hm

theorem flatten_len {n : Nat} : ∀ {css : List (List AV)}, (∀ c ∈ css, c.length = n) → css.flatten.length = css.length * n
  | [], _ => by simp
  | c :: css, h => by
    rw [List.flatten_cons, List.length_append, flatten_len (fun c hc => h c (by simp [hc])), h c (by simp), List.length_cons, Nat.succ_mul]; omega

theorem flatten_get {n : Nat} (hn : 0 < n) : ∀ {css : List (List AV)}, (∀ c ∈ css, c.length = n) → ∀ (j : Nat) (v : AV), css.flatten[j]? = some v → ∃ c, css[j / n]? = some c ∧ c[j % n]? = some v
  | [], _, j, v, h => by simp at h
  | c :: css, hc, j, v, h => by
    have hcl := hc c (by simp)
    rw [List.flatten_cons] at h
    by_cases hj : j < n
    · rw [List.getElem?_append_left (by omega)] at h
      exact ⟨c, by rw [Nat.div_eq_of_lt hj]; rfl, by rw [Nat.mod_eq_of_lt hj]; exact h⟩
    · rw [List.getElem?_append_right (by omega), hcl] at h
      obtain ⟨c', h1, h2⟩ := flatten_get hn (fun c hc' => hc c (by simp [hc'])) (j - n) v h
      have e1 : j / n = (j - n) / n + 1 := by rw [Nat.div_eq_sub_div hn (by omega)]
      have e2 : j % n = (j - n) % n := Nat.mod_eq_sub_mod (by omega)
      exact ⟨c', by rw [e1]; simpa using h1, by rw [e2]; exact h2⟩

section
variable {P : Program} {W : World} {T : Type} {enc : TypeId × Value → T}

def Read (Pn : Nat → Prop) (W : World) (tc : TC) (cs : List Value) : Prop := ∀ (m : BMap) (H : Heap), RO m H W → ∃ m' news avs, Ext m m' ∧ RO m' (H ++ news) W ∧ VRels m' avs cs ∧ WF Pn (H ++ news) tc avs ∧ avs.length = tc.size

def Reads (Pn : Nat → Prop) (W : World) (l : List TC) (cs : List Value) : Prop := ∀ (m : BMap) (H : Heap), RO m H W → ∃ m' news avs, Ext m m' ∧ RO m' (H ++ news) W ∧ VRels m' avs cs ∧ WFs Pn (H ++ news) l avs ∧ avs.length = TC.sizes l

theorem read_elems {e : TC} {n : Nat} (hsz : e.size = n) : ∀ (css : List (List Value)), (∀ cs ∈ css, Read Pn W e cs) → ∀ (m : BMap) (H : Heap), RO m H W →
    ∃ (m' : BMap) (news : Heap) (avss : List (List AV)), Ext m m' ∧ RO m' (H ++ news) W ∧ avss.length = css.length ∧ (∀ (i : Nat) (a : List AV) (c : List Value), avss[i]? = some a → css[i]? = some c → VRels m' a c) ∧ (∀ a ∈ avss, WF Pn (H ++ news) e a ∧ a.length = n)
  | [], _, m, H, h => ⟨m, [], [], Ext.refl m, by simpa using h, rfl, fun i a c h => by simp at h, fun a h => by simp at h⟩
  | cs :: css, hr, m, H, h => by
    obtain ⟨m1, n1, a1, e1, r1, v1, w1, l1⟩ := hr cs (by simp) m H h
    obtain ⟨m2, n2, as, e2, r2, l2, v2, w2⟩ := read_elems hsz css (fun c hc => hr c (by simp [hc])) m1 (H ++ n1) r1
    refine ⟨m2, n1 ++ n2, a1 :: as, e1.trans e2, by rwa [List.append_assoc] at r2, by simp [l2], fun i a c ha hc => ?_, fun a ha => ?_⟩
    · cases i with
      | zero => simp only [List.getElem?_cons_zero, Option.some.injEq] at ha hc; subst ha; subst hc; exact v1.mono e2
      | succ i => exact v2 i a c (by simpa using ha) (by simpa using hc)
    · rw [← List.append_assoc]
      rcases List.mem_cons.1 ha with rfl | ha
      · exact ⟨w1.append n2, by rw [l1, hsz]⟩
      · exact w2 a ha

theorem read_slice {e : TC} {n : Nat} (hn : 0 < n) (hsz : e.size = n) {a : Addr} {len cap : Nat} (hlc : len ≤ cap) (hcap : cap ≤ maxLen) (hspot : 0 < cap → a.spot = none ∧ a.block < W.heap.size)
    {css : List (List Value)} (hlen : css.length = len) (hP : Pn len) (hcs : ∀ (i : Nat) (c : List Value), css[i]? = some c → c.length = n ∧ (∀ j, j < n → W.cell? ((a.add (i * n)).add j) = c[j]?) ∧ Read Pn W e c) : Read Pn W (.slice n e) [.slice (some a) len cap] := by
  intro m H h
  by_cases h0 : cap = 0
  · have : len = 0 := by omega
    subst this; subst h0
    refine ⟨m, [], [.empty], Ext.refl m, by simpa using h, ⟨⟨_, rfl⟩, trivial⟩, ?_, rfl⟩
    simp only [WF]
    exact ⟨.empty, [], rfl, ⟨fun c hc => by simp at hc, .inl ⟨rfl, rfl⟩⟩, by simp, hP, fun c hc => by simp at hc⟩
  · obtain ⟨hs, hb⟩ := hspot (by omega)
    obtain ⟨m1, n1, avss, e1, r1, l1, v1, w1⟩ := read_elems hsz css (fun c hc => by
      obtain ⟨i, hi⟩ := List.getElem?_of_mem hc
      exact (hcs i c hi).2.2) m H h
    have hall : ∀ c ∈ avss, c.length = n := fun c hc => (w1 c hc).2
    have hfl := flatten_len hall
    obtain ⟨ab, ao, asp⟩ := a
    simp only at hs hb; subst hs
    have hcell : CellsAt m1 W ⟨ab, ao, cap * n, n⟩ avss.flatten := fun j v hv => by
      obtain ⟨c, h1, h2⟩ := flatten_get hn hall j v hv
      have hi : j / n < css.length := by rw [← l1]; exact (List.getElem?_eq_some_iff.1 h1).1
      obtain ⟨cv, hcv⟩ : ∃ cv, css[j / n]? = some cv := ⟨_, List.getElem?_eq_getElem hi⟩
      obtain ⟨g1, g2, _⟩ := hcs _ _ hcv
      obtain ⟨x, x1, x2⟩ := (v1 _ _ _ h1 hcv).get _ _ h2
      refine ⟨x, ?_, x2⟩
      have := g2 (j % n) (Nat.mod_lt _ hn)
      rw [add_mk, add_mk, x1, show ao + j / n * n + j % n = ao + j by have := Nat.div_add_mod j n; rw [Nat.mul_comm] at this; omega] at this
      exact this
    obtain ⟨e2, r2⟩ := r1.push (k := { cells := avss.flatten, e := n }) (l := ⟨ab, ao, cap * n, n⟩) rfl rfl (by rw [hfl, l1, hlen]; exact Nat.mul_le_mul_right _ hlc) hcell hb
    refine ⟨_, n1 ++ [{ cells := avss.flatten, e := n }], [.slice (H ++ n1).length 0 len none], e1.trans e2, by rwa [List.append_assoc] at r2, ⟨⟨_, _, rfl, hlc, _, upd_same _ _ _, ?_, .inl (by simp)⟩, trivial⟩, ?_, rfl⟩
    · show 0 + cap * n = cap * n; omega
    · simp only [WF]
      rw [← List.append_assoc]
      refine ⟨_, avss, rfl, ⟨hall, .inr ⟨_, _, _, _, by rw [l1, hlen], rfl, by unfold Heap.blk; rw [List.getElem?_append_right (Nat.le_refl _)]; simp; rfl, rfl, by rw [hfl]; simp, ?_⟩⟩, by omega, by rw [l1, hlen]; exact hP, fun c hc => (w1 c hc).1.append _⟩
      rw [List.drop_zero, ← hfl, List.take_length]

/-- What is asked of a reading, and handed on to its parts. -/
structure Bd (Pn : Nat → Prop) (B : DataW T → Prop) : Prop where
  zero : Pn 0
  len : ∀ {e s : List (DataW T)}, B (.slice e s) → Pn e.length
  elem : ∀ {e s : List (DataW T)} {x : DataW T}, B (.slice e s) → x ∈ e ++ s → B x
  part : ∀ {l : List (DataW T)} {x : DataW T}, B (.agg l) → x ∈ l → B x
  str : ∀ {s : ByteArray}, B (.lit (.string s.data.toList)) → Pn s.size

variable {B : DataW T → Prop} (hB : Bd Pn B)
include hB

mutual
theorem read_tc : ∀ (tc : TC) (fuel : Nat) (t : TypeId) (cs : List Value) (x : DataW T × List MemPlace), tcOk P t tc = true → DataW.trod enc P W 0 (fun _ => true) true fuel t cs = some x → B x.1 → Read Pn W tc cs
  | .int k, fuel, t, cs, x, hk, h, hb => by
    simp only [tcOk] at hk
    split at hk
    · rename_i k' hu
      simp only [decide_eq_true_eq] at hk; subst hk
      intro m H hr
      have : ∃ n, cs = [.int k' n] ∧ (Lit.int k' n).wf = true := by
        cases fuel with
        | zero => simp [DataW.trod] at h
        | succ fuel =>
          unfold DataW.trod at h
          rw [hu] at h
          split at h <;> simp_all
      obtain ⟨n, rfl, hw⟩ := this
      refine ⟨m, [], [.int k' n], Ext.refl m, by simpa using hr, ⟨rfl, trivial⟩, ?_, rfl⟩
      simp only [WF]; exact ⟨n, rfl, hw⟩
    · simp at hk
  | .bool, fuel, t, cs, x, hk, h, hb => by
    simp only [tcOk] at hk
    split at hk
    · rename_i hu
      intro m H hr
      have : ∃ b, cs = [.bool b] := by
        cases fuel with
        | zero => simp [DataW.trod] at h
        | succ fuel =>
          unfold DataW.trod at h
          rw [hu] at h
          split at h <;> simp_all
      obtain ⟨b, rfl⟩ := this
      refine ⟨m, [], [.bool b], Ext.refl m, by simpa using hr, ⟨rfl, trivial⟩, ?_, rfl⟩
      simp only [WF]; exact ⟨b, rfl⟩
    · simp at hk
  | .str, fuel, t, cs, x, hk, h, hb => by
    simp only [tcOk] at hk
    split at hk
    · rename_i hu
      intro m H hr
      have : ∃ s, cs = [.string s] ∧ s.size ≤ maxLen ∧ (DataW.lit (.string s.data.toList), []) = x := by
        cases fuel with
        | zero => simp [DataW.trod] at h
        | succ fuel =>
          unfold DataW.trod at h
          rw [hu] at h
          split at h <;> simp_all
      obtain ⟨s, rfl, hs0, hxe⟩ := this
      have hs : s.size ≤ maxLen ∧ Pn s.size := ⟨hs0, hB.str (by rw [← hxe] at hb; exact hb)⟩
      refine ⟨m, [], [.str s], Ext.refl m, by simpa using hr, ⟨rfl, trivial⟩, ?_, rfl⟩
      simp only [WF]; exact ⟨s, rfl, hs⟩
    · simp at hk
  | .slice n e, fuel, t, cs, x, hk, h, hb => by
    simp only [tcOk] at hk
    split at hk
    · rename_i et hu
      simp only [Bool.and_eq_true, decide_eq_true_eq] at hk
      obtain ⟨⟨⟨hc, hn⟩, hsz⟩, he⟩ := hk
      rcases DataW.trod_slice hu h with ⟨rfl, _⟩ | ⟨a, len, cap, elems, rest, f, _, rfl, hx, _, hlc, hcap, hel, hels, hrest, _⟩
      · intro m H hr
        refine ⟨m, [], [.empty], Ext.refl m, by simpa using hr, ⟨⟨_, rfl⟩, trivial⟩, ?_, rfl⟩
        simp only [WF]
        exact ⟨.empty, [], rfl, ⟨fun c hc => by simp at hc, .inl ⟨rfl, rfl⟩⟩, by simp, hB.zero, fun c hc => by simp at hc⟩
      · obtain ⟨hrl, hrest⟩ := hrest rfl
        rw [hc] at hels hrest
        rw [hx] at hb
        have hbe : ∀ y ∈ elems ++ rest, B y.1 := fun y hy => hB.elem hb (by rw [← List.map_append]; exact List.mem_map_of_mem hy)
        have hPl : Pn len := by have := hB.len hb; rw [List.length_map, hel] at this; exact this
        have hone : ∀ i y, B y.1 → (W.cells? 0 (a.add (i * n)) n).bind (DataW.trod enc P W 0 (fun _ => true) true f et) = some y → ∃ c : List Value, c.length = n ∧ (∀ j, j < n → W.cell? ((a.add (i * n)).add j) = c[j]?) ∧ Read Pn W e c := fun i y hyb hy => by
          rw [Option.bind_eq_some_iff] at hy
          obtain ⟨c, h1, h2⟩ := hy
          obtain ⟨_, g1, g2⟩ := World.cells?_some h1
          exact ⟨c, g1, g2, read_tc e f et c y he h2 hyb⟩
        have hspot : 0 < cap → a.spot = none ∧ a.block < W.heap.size := fun h0 => by
          have : ∃ y, B y.1 ∧ (W.cells? 0 (a.add (0 * n)) n).bind (DataW.trod enc P W 0 (fun _ => true) true f et) = some y := by
            by_cases hl : 0 < len
            · exact ⟨elems[0], hbe _ (List.mem_append.2 (.inl (List.getElem_mem _))), by rw [hels 0 hl, List.getElem?_eq_getElem]⟩
            · have hl0 : len = 0 := by omega
              have := hrest 0 (by omega)
              rw [hl0, Nat.add_zero] at this
              exact ⟨rest[0], hbe _ (List.mem_append.2 (.inr (List.getElem_mem _))), by rw [this, List.getElem?_eq_getElem]⟩
          obtain ⟨y, hyb, hy⟩ := this
          obtain ⟨c, g1, g2, _⟩ := hone 0 y hyb hy
          have := g2 0 hn
          rw [Nat.zero_mul, List.getElem?_eq_getElem (by omega)] at this
          simp only [Addr.add, if_true] at this
          unfold World.cell? at this
          split at this
          · rename_i cc _ _ hb
            split at this
            · simp at this
            · rename_i hs
              refine ⟨by simpa using hs, ?_⟩
              rcases Nat.lt_or_ge a.block W.heap.size with h | h
              · exact h
              · rw [Array.getElem?_eq_none h] at hb; simp at hb
          · simp at this
        have hall : ∀ k, k ≤ len → ∃ css : List (List Value), css.length = k ∧ ∀ (i : Nat) (c : List Value), css[i]? = some c → c.length = n ∧ (∀ j, j < n → W.cell? ((a.add (i * n)).add j) = c[j]?) ∧ Read Pn W e c := by
          intro k
          induction k with
          | zero => intro _; exact ⟨[], rfl, fun i c h => by simp at h⟩
          | succ k ih =>
            intro hk
            obtain ⟨css, l1, h1⟩ := ih (by omega)
            obtain ⟨c, g⟩ := hone k elems[k] (hbe _ (List.mem_append.2 (.inl (List.getElem_mem _)))) (by rw [hels k (by omega), List.getElem?_eq_getElem])
            refine ⟨css ++ [c], by simp [l1], fun i c' hi => ?_⟩
            by_cases e : i < css.length
            · rw [List.getElem?_append_left e] at hi; exact h1 i c' hi
            · rw [List.getElem?_append_right (by omega)] at hi
              cases hq : i - css.length with
              | zero =>
                rw [hq] at hi; simp at hi; subst hi
                have : i = k := by omega
                subst this; exact g
              | succ q => rw [hq] at hi; simp at hi
        obtain ⟨css, l1, h1⟩ := hall len (Nat.le_refl _)
        exact read_slice hn hsz hlc hcap hspot l1 hPl h1
    · simp at hk
  | .struct l, fuel, t, cs, x, hk, h, hb => by
    simp only [tcOk] at hk
    split at hk
    · rename_i fs hu
      simp only [Bool.and_eq_true, decide_eq_true_eq] at hk
      obtain ⟨hc, hfs⟩ := hk
      obtain ⟨xs, n, _, hx, hlen, hxl, hf⟩ := DataW.trod_struct hu h
      rw [hx] at hb
      have := read_fs l n fs.toList 0 cs (by rw [hlen, hc]; omega) hfs fun i f hi => by
        have := hf i f (by simpa using hi)
        have hil : i < xs.length := by rw [hxl]; simpa using (List.getElem?_eq_some_iff.1 hi).1
        exact ⟨xs[i], by rw [this, List.getElem?_eq_getElem hil], hB.part hb (List.mem_map_of_mem (List.getElem_mem hil))⟩
      intro m H hr
      obtain ⟨m', news, avs, h1, h2, h3, h4, h5⟩ := this m H hr
      rw [List.drop_zero] at h3
      exact ⟨m', news, avs, h1, h2, h3, by simpa only [WF] using h4, by simpa only [TC.size] using h5⟩
    · simp at hk
theorem read_fs : ∀ (l : List TC) (fuel : Nat) (fs : List Field) (off : Nat) (cs : List Value), cs.length = off + TC.sizes l → fsOk P fs l off = true →
    (∀ (i : Nat) (f : Field), fs[i]? = some f → ∃ y, DataW.trod enc P W 0 (fun _ => true) true fuel f.type ((cs.drop f.offset).take (P.cellsOf f.type)) = some y ∧ B y.1) → Reads Pn W l (cs.drop off)
  | [], fuel, fs, off, cs, hl, hk, h => by
    intro m H hr
    refine ⟨m, [], [], Ext.refl m, by simpa using hr, ?_, ?_, rfl⟩
    · rw [List.drop_eq_nil_of_le (by rw [hl]; simp [TC.sizes])]; trivial
    · simp only [WFs]
  | c :: l, fuel, fs, off, cs, hl, hk, h => by
    cases fs with
    | nil => simp [fsOk] at hk
    | cons f fs =>
      simp only [fsOk, Bool.and_eq_true, decide_eq_true_eq] at hk
      obtain ⟨⟨⟨h1, h2⟩, h3⟩, h4⟩ := hk
      simp only [TC.sizes] at hl
      obtain ⟨y, hy, hyb⟩ := h 0 f rfl
      rw [h1, h2] at hy
      have r1 := read_tc c fuel f.type _ y h3 hy hyb
      have r2 := read_fs l fuel fs (off + c.size) cs (by omega) h4 fun i f hi => h (i + 1) f (by simpa using hi)
      intro m H hr
      obtain ⟨m1, n1, a1, e1, o1, v1, w1, l1⟩ := r1 m H hr
      obtain ⟨m2, n2, a2, e2, o2, v2, w2, l2⟩ := r2 m1 (H ++ n1) o1
      refine ⟨m2, n1 ++ n2, a1 ++ a2, e1.trans e2, by rwa [List.append_assoc] at o2, ?_, ?_, by simp [TC.sizes, l1, l2]⟩
      · have := VRels.append (v1.mono e2) v2
        have hs : (cs.drop off).take c.size ++ cs.drop (off + c.size) = cs.drop off := by
          rw [← List.drop_drop, List.take_append_drop]
        rwa [hs] at this
      · simp only [WFs]
        rw [← List.append_assoc]
        exact ⟨a1, a2, rfl, w1.append n2, w2⟩
end

/-! ### Arguments -/

def WFv (Pn : Nat → Prop) (H : Heap) (tc : TC) (v : AV) : Prop :=
  match tc with
  | .struct fs => ∃ cs, v = .agg cs ∧ WFs Pn H fs cs
  | tc => WF Pn H tc [v]

def WFvs (Pn : Nat → Prop) (H : Heap) : List TC → List AV → Prop
  | [], [] => True
  | tc :: tcs, v :: vs => WFv Pn H tc v ∧ WFvs Pn H tcs vs
  | _, _ => False

omit hB in
theorem WFv.append {H : Heap} {tc : TC} {v : AV} (h : WFv Pn H tc v) (news : Heap) : WFv Pn (H ++ news) tc v := by
  cases tc with
  | struct fs => obtain ⟨cs, h1, h2⟩ := h; exact ⟨cs, h1, h2.append news⟩
  | _ => exact WF.append h news

def tcsOk (P : Program) : List TypeId → List TC → Bool
  | [], [] => true
  | t :: ts, c :: cs => tcOk P t c && tcsOk P ts cs
  | _, _ => false

theorem read_arg {tc : TC} {t : TypeId} {v : Value} {x : DataW T} {ps : List MemPlace} {base : Nat} (hk : tcOk P t tc = true) (h : DataW.Trod enc P W 0 (fun _ => true) true t v x ps) (hok : Value.okWide P W .any base t v) (hb : B x) :
    ∀ (m : BMap) (H : Heap), RO m H W → ∃ m' news av, Ext m m' ∧ RO m' (H ++ news) W ∧ VRel m' av v ∧ WFv Pn (H ++ news) tc av := by
  intro m H hr
  obtain ⟨fuel, hf⟩ := h
  have key := read_tc hB tc fuel t _ _ hk hf hb
  cases tc with
  | struct l =>
    simp only [tcOk] at hk
    split at hk
    · rename_i fs hu
      obtain ⟨cs, rfl, _⟩ := okWide_struct hu hok
      obtain ⟨m', news, avs, h1, h2, h3, h4, h5⟩ := key m H hr
      exact ⟨m', news, .agg avs, h1, h2, ⟨cs.toList, rfl, h3⟩, avs, rfl, by simpa only [WF] using h4⟩
    · simp at hk
  | int k =>
    simp only [tcOk] at hk
    split at hk
    · rename_i k' hu
      obtain ⟨n, rfl⟩ := okWide_int hu hok
      obtain ⟨m', news, avs, h1, h2, h3, h4, h5⟩ := key m H hr
      obtain ⟨av, rfl⟩ : ∃ av, avs = [av] := List.length_eq_one_iff.1 h5
      exact ⟨m', news, av, h1, h2, h3.1, h4⟩
    · simp at hk
  | bool =>
    simp only [tcOk] at hk
    split at hk
    · rename_i hu
      obtain ⟨n, rfl⟩ := okWide_bool hu hok
      obtain ⟨m', news, avs, h1, h2, h3, h4, h5⟩ := key m H hr
      obtain ⟨av, rfl⟩ : ∃ av, avs = [av] := List.length_eq_one_iff.1 h5
      exact ⟨m', news, av, h1, h2, h3.1, h4⟩
    · simp at hk
  | str =>
    simp only [tcOk] at hk
    split at hk
    · rename_i hu
      obtain ⟨n, rfl⟩ := okWide_string hu hok
      obtain ⟨m', news, avs, h1, h2, h3, h4, h5⟩ := key m H hr
      obtain ⟨av, rfl⟩ : ∃ av, avs = [av] := List.length_eq_one_iff.1 h5
      exact ⟨m', news, av, h1, h2, h3.1, h4⟩
    · simp at hk
  | slice n e =>
    simp only [tcOk] at hk
    split at hk
    · rename_i et hu
      obtain ⟨a, len, cap, rfl⟩ := okWide_slice hu hok
      obtain ⟨m', news, avs, h1, h2, h3, h4, h5⟩ := key m H hr
      obtain ⟨av, rfl⟩ : ∃ av, avs = [av] := List.length_eq_one_iff.1 h5
      exact ⟨m', news, av, h1, h2, h3.1, h4⟩
    · simp at hk

omit hB in
theorem WFvs.append {H : Heap} : ∀ {tcs : List TC} {vs : List AV}, WFvs Pn H tcs vs → ∀ news, WFvs Pn (H ++ news) tcs vs
  | [], [], _, _ => trivial
  | _ :: _, _ :: _, ⟨h1, h2⟩, news => ⟨h1.append news, h2.append news⟩

theorem read_args {base : Nat} : ∀ {tcs : List TC} {ts : List TypeId} {vs : List Value} {ds : List (DataW T)} {ps : List MemPlace}, tcsOk P ts tcs = true → DataW.TrodAll enc P W 0 (fun _ => true) true ts vs ds ps →
    (∀ (j : Nat) t v, ts[j]? = some t → vs[j]? = some v → Value.okWide P W .any base t v) → (∀ d ∈ ds, B d) → ∀ (m : BMap) (H : Heap), RO m H W → ∃ m' news avs, Ext m m' ∧ RO m' (H ++ news) W ∧ VRels m' avs vs ∧ WFvs Pn (H ++ news) tcs avs
  | [], [], [], [], ps, _, _, _, _, m, H, hr => ⟨m, [], [], Ext.refl m, by simpa using hr, trivial, trivial⟩
  | tc :: tcs, t :: ts, v :: vs, d :: ds, ps, hk, h, hok, hbs, m, H, hr => by
    obtain ⟨p, q, h1, h2, _⟩ := h
    simp only [tcsOk, Bool.and_eq_true] at hk
    obtain ⟨m1, n1, a1, e1, o1, v1, w1⟩ := read_arg hB hk.1 h1 (hok 0 t v rfl rfl) (hbs d (by simp)) m H hr
    obtain ⟨m2, n2, a2, e2, o2, v2, w2⟩ := read_args hk.2 h2 (fun j t v ht hv => hok (j + 1) t v (by simpa using ht) (by simpa using hv)) (fun x hx => hbs x (by simp [hx])) m1 (H ++ n1) o1
    refine ⟨m2, n1 ++ n2, a1 :: a2, e1.trans e2, by rwa [List.append_assoc] at o2, ⟨v1.mono e2, v2⟩, ?_⟩
    rw [← List.append_assoc]
    exact ⟨w1.append n2, w2⟩
  | [], t :: ts, _, _, _, hk, _, _, _, _, _, _ => by simp [tcsOk] at hk
  | _ :: _, [], _, _, _, hk, _, _, _, _, _, _ => by simp [tcsOk] at hk
  | [], [], _ :: _, _, _, _, h, _, _, _, _, _ => h.elim
  | [], [], [], _ :: _, _, _, h, _, _, _, _, _ => h.elim
  | _ :: _, _ :: _, [], _, _, _, h, _, _, _, _, _ => h.elim
  | _ :: _, _ :: _, _ :: _, [], _, _, h, _, _, _, _, _ => h.elim

end

/-- WHAT A CALL WITH GIVEN ARGUMENTS DOES: where the abstract machine says 'true', the call returns true and turns nothing that was there. -/
theorem calls_true {P : Program} (hmix : P.follows .mixedOrders = true) {f : FuncId} {tcs : List TC} (hcore : ∀ (H : Heap) (avs : List AV), WFvs Pn H tcs avs → ∃ n H', rcall (table P) n H.length f avs H = some (.bool true, H'))
    {T : Type} {enc : TypeId × Value → T} {B : DataW T → Prop} (hB : Bd Pn B) {W : World} {base : Nat} {ts : List TypeId} {args : Array Value} {ds : List (DataW T)} {ps : List MemPlace} (hbs : ∀ d ∈ ds, B d) (hk : tcsOk P ts tcs = true) (h : DataW.TrodAll enc P W 0 (fun _ => true) true ts args.toList ds ps)
    (hok : ∀ (j : Nat) t v, ts[j]? = some t → args.toList[j]? = some v → Value.okWide P W .any base t v) : Calls P f args W fun e W' => e = .returned (.bool true) ∧ Below W.heap.size W W' := by
  obtain ⟨m, news, avs, _, hr, hv, hw⟩ := read_args hB hk h hok hbs _ [] (RO.nil W)
  rw [List.nil_append] at hr hw
  obtain ⟨n, H', hrun⟩ := hcore news avs hw
  obtain ⟨_, hs⟩ := call_sound hmix n _ _ _ _ _ _ hrun
  have := hs news.length W.heap.size m W args.toList (Nat.le_refl _) hr.sim hv fun b hb _ => by
    cases hm : m b with
    | none => rfl
    | some l => have := hr.dom b l hm; omega
  have ha : (⟨args.toList⟩ : Array Value) = args := by simp
  rw [ha] at this
  refine Calls.mono this fun e W' he => ?_
  obtain ⟨v', m', rfl, hv', hst⟩ := he
  cases hv'
  refine ⟨rfl, hst.os, hst.tape, hst.output, hst.size, fun k hk => hst.frame k hk ?_⟩
  rintro ⟨b, kb, l, h1, h2, _⟩
  have := act_lt h2; omega

end Go.RM

