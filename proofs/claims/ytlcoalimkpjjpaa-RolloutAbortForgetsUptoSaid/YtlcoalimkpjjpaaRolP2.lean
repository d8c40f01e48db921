import Derived.Test.YtlcoalimkpjjpaaRolC3
import Derived.Test.YtlcoalimkpjjpaaRmVc
/-
  Rollouts, plainly: every step does the same to both.
-/
namespace Go.RM
set_option linter.unusedSimpArgs false
set_option linter.unusedVariables false
open Rol

variable {n : Nat} {p : PP} {es : List Ent}

theorem RInv.setCnt (h : RInv n p es) {k : Nat} (hk : k < es.length) {x y : Int} (ho : okC x y) (hv : verdictI p.b1 p.b2 x y p.need p.pm ≠ 3) : RInv n p (es.set k { es[k] with c1 := x, c2 := y }) := by
  have hm : ∀ (j : Nat) (hj : j < (es.set k { es[k] with c1 := x, c2 := y }).length), (es.set k { es[k] with c1 := x, c2 := y })[j].v = (es[j]'(by simpa using hj)).v ∧ (es.set k { es[k] with c1 := x, c2 := y })[j].r = (es[j]'(by simpa using hj)).r := fun j hj => by
    rw [List.getElem_set]
    split
    · rename_i e; subst e; exact ⟨rfl, rfl⟩
    · exact ⟨rfl, rfl⟩
  refine ⟨?_, fun e he => ?_, fun e he => ?_, ?_, fun e he => ?_, fun e he hr => ?_⟩
  · rw [List.pairwise_iff_getElem]
    intro i j hi hj hij
    rw [(hm i hi).1, (hm j hj).1]
    exact List.pairwise_iff_getElem.1 h.inc i j _ _ hij
  · rcases List.mem_or_eq_of_mem_set he with he | rfl
    · exact h.pos e he
    · have := h.pos _ (List.getElem_mem hk); exact this
  · rcases List.mem_or_eq_of_mem_set he with he | rfl
    · exact h.re e he
    · have := h.re _ (List.getElem_mem hk); exact this
  · rw [List.pairwise_iff_getElem]
    intro i j hi hj hij
    rw [(hm i hi).2, (hm j hj).2]
    exact List.pairwise_iff_getElem.1 h.mon i j _ _ hij
  · rcases List.mem_or_eq_of_mem_set he with he | rfl
    · exact h.cs e he
    · exact ho
  · rcases List.mem_or_eq_of_mem_set he with he | rfl
    · exact h.ver e he hr
    · exact hv

theorem verdict0 (hp : OkP p) : verdictI p.b1 p.b2 0 0 p.need p.pm ≠ 3 := by
  unfold verdictI
  have h1 := ways_le hp.base okC00
  have hw : waysI p.b1 p.b2 0 0 = allI p.b1 p.b2 0 0 := by
    unfold waysI allI
    rw [show (0 : Int).toNat + (0 : Int).toNat = 0 from rfl, show (0 : Int).toNat + 1 = 0 + 1 from rfl]
    have := tl_all (p.b1.toNat + (0 : Int).toNat) (p.b2.toNat + (0 : Int).toNat) 0
    rw [show (p.b1.toNat + (0 : Int).toNat) = p.b1.toNat + (0 : Int).toNat from rfl] at this
    rw [show (0 : Nat) + 1 = 0 + 1 from rfl, this, Nat.add_comm]
  have hpm := hp.par
  unfold okP at hpm
  rw [hw]
  have hpos : 0 < allI p.b1 p.b2 0 0 := by omega
  have hlt : allI p.b1 p.b2 0 0 * p.pm < allI p.b1 p.b2 0 0 * 1000 := Int.mul_lt_mul_of_pos_left hpm.2.2.2 hpos
  rw [if_neg (by omega)]
  split <;> decide

/-- A version goes on to the next ring. -/
theorem set_adv (h : RInv n p es) {k : Nat} (hk : k < es.length) (hr : es[k].r < n) (hfree : es[k].r + 1 < n → ∀ e ∈ es, e.r ≠ es[k].r + 1) :
    (if es[k].r.toNat + 1 < (stateD n es).length then (stateD n es).set (es[k].r.toNat + 1) { rg (stateD n es) (es[k].r.toNat + 1) with act := es[k].v } else stateD n es).set es[k].r.toNat ⟨(rOf es es[k].r.toNat).conf ++ [es[k].v], 0, 0, 0⟩ = stateD n (es.set k { es[k] with r := es[k].r + 1, c1 := 0, c2 := 0 }) := by
  have hre := (h.re _ (List.getElem_mem hk)).1
  have er : ((es[k].r.toNat : Nat) : Int) = es[k].r := by omega
  rw [state_len]
  generalize hi : es[k].r.toNat = i at er
  have hin : i < n := by omega
  -- entries of ring i: only the one
  have huq := h.uq hin
  have hself : ∀ j, (hj : j < es.length) → es[j].r = (i : Int) → j = k := fun j hj e => by
    have := huq _ (List.getElem_mem hj) _ (List.getElem_mem hk) e er.symm
    exact h.vq hj hk (by rw [this])
  have hmem : ∀ z, z ∈ es.set k { es[k] with r := es[k].r + 1, c1 := 0, c2 := 0 } → z = { es[k] with r := es[k].r + 1, c1 := 0, c2 := 0 } ∨ (z ∈ es ∧ z.r ≠ (i : Int)) := fun z hz => by
    obtain ⟨j, hj, rfl⟩ := List.getElem_of_mem hz
    rw [List.length_set] at hj
    by_cases e : j = k
    · subst e; left; simp
    · right
      rw [List.getElem_set_ne (Ne.symm e)]
      exact ⟨List.getElem_mem hj, fun e2 => e (hself j hj e2)⟩
  have hnew : ({ es[k] with r := es[k].r + 1, c1 := 0, c2 := 0 } : Ent) ∈ es.set k { es[k] with r := es[k].r + 1, c1 := 0, c2 := 0 } := List.mem_iff_getElem.2 ⟨k, by simpa using hk, by simp⟩
  have confNe : ∀ j, j ≠ i → (rOf (es.set k { es[k] with r := es[k].r + 1, c1 := 0, c2 := 0 }) j).conf = (rOf es j).conf := fun j hj => by
    have e := map_set_same (f := fun e : Ent => (e.v, decide ((j : Int) < e.r))) hk (y := { es[k] with r := es[k].r + 1, c1 := 0, c2 := 0 }) (by
      simp only [Prod.mk.injEq, decide_eq_decide, true_and]; omega)
    rw [rOf_conf', rOf_conf', e]
  have confEq : (rOf (es.set k { es[k] with r := es[k].r + 1, c1 := 0, c2 := 0 }) i).conf = (rOf es i).conf ++ [es[k].v] := by
    rw [rOf_conf, rOf_conf, List.set_eq_take_append_cons_drop, if_pos hk]
    have hlate : (es.drop (k + 1)).filter (fun e => decide ((i : Int) < e.r)) = [] := by
      rw [List.filter_eq_nil_iff]
      intro x hx
      obtain ⟨j, hj, rfl⟩ := List.getElem_of_mem hx
      rw [List.length_drop] at hj
      rw [List.getElem_drop]
      have := (List.pairwise_iff_getElem.1 h.mon k (k + 1 + j) hk (by omega) (by omega)).1
      simp only [decide_eq_true_eq]; omega
    have hold : es.filter (fun e => decide ((i : Int) < e.r)) = (es.take k).filter (fun e => decide ((i : Int) < e.r)) := by
      have h0 := List.filter_append (p := fun e : Ent => decide ((i : Int) < e.r)) (es.take k) (es.drop k)
      rw [List.take_append_drop, List.drop_eq_getElem_cons hk, List.filter_cons, hlate, if_neg (by simp only [decide_eq_true_eq]; omega), List.append_nil] at h0
      exact h0
    rw [List.filter_append, List.filter_cons, hlate, hold]
    rw [if_pos (by simp only [decide_eq_true_eq]; omega)]
    simp
  have actI : (rOf (es.set k { es[k] with r := es[k].r + 1, c1 := 0, c2 := 0 }) i).act = 0 ∧ (rOf (es.set k { es[k] with r := es[k].r + 1, c1 := 0, c2 := 0 }) i).good = 0 ∧ (rOf (es.set k { es[k] with r := es[k].r + 1, c1 := 0, c2 := 0 }) i).bad = 0 := rOf_none fun e he => by
    rcases hmem e he with rfl | ⟨_, h2⟩
    · simp only; omega
    · exact h2
  have other : ∀ j, j < n → j ≠ i → (j ≠ i + 1) → rOf es j = rOf (es.set k { es[k] with r := es[k].r + 1, c1 := 0, c2 := 0 }) j := fun j hj h1 h2 => by
    obtain ⟨a1, a2, a3⟩ := rOf_same (es' := es.set k { es[k] with r := es[k].r + 1, c1 := 0, c2 := 0 }) (h.uq hj) fun z hz => by
      refine (set_mem hk (fun e => ?_) (fun e => ?_)).symm
      · rw [e] at hz; simp only at hz; omega
      · rw [e] at hz; omega
    exact RS.ext' (confNe j h1).symm a1 a2 a3
  by_cases hnx : i + 1 < n
  · rw [if_pos hnx, rg_state hnx]
    have hf := hfree (by omega)
    obtain ⟨z1, z2, z3⟩ := rOf_none (es := es) (k := i + 1) fun e he hr => hf e he (by omega)
    obtain ⟨b1, b2, b3⟩ := rOf_some (k := i + 1) hnew (by simp only; omega) fun z hz hzr => by
      rcases hmem z hz with h1 | ⟨h1, _⟩
      · exact h1
      · exact absurd (by omega) (hf z h1)
    have step1 : (stateD n es).set (i + 1) { rOf es (i + 1) with act := es[k].v } = (List.range n).map fun j => if j = i then rOf es i else rOf (es.set k { es[k] with r := es[k].r + 1, c1 := 0, c2 := 0 }) j := by
      unfold stateD
      refine range_set (fun j hj hne => ?_) ?_
      · by_cases e : j = i
        · rw [if_pos e, e]
        · rw [if_neg e]; exact other j hj e hne
      · rw [if_neg (by omega)]
        exact RS.ext' (confNe _ (by omega)) b1 (b2.trans z2.symm) (b3.trans z3.symm)
    rw [step1]
    unfold stateD
    refine range_set (fun j hj hne => by rw [if_neg hne]) ?_
    exact RS.ext' confEq actI.1 actI.2.1 actI.2.2
  · rw [if_neg hnx]
    unfold stateD
    refine range_set (fun j hj hne => other j hj hne (by omega)) ?_
    exact RS.ext' confEq actI.1 actI.2.1 actI.2.2

theorem RInv.adv (h : RInv n p es) (hp : OkP p) {k : Nat} (hk : k < es.length) (hr : es[k].r < n) (hfree : es[k].r + 1 < n → ∀ e ∈ es, e.r ≠ es[k].r + 1) : RInv n p (es.set k { es[k] with r := es[k].r + 1, c1 := 0, c2 := 0 }) := by
  have hre := (h.re _ (List.getElem_mem hk)).1
  refine ⟨?_, fun e he => ?_, fun e he => ?_, ?_, fun e he => ?_, fun e he hr' => ?_⟩
  · rw [List.pairwise_iff_getElem]
    intro i j hi hj hij
    have hm : ∀ (j : Nat) (hj : j < (es.set k { es[k] with r := es[k].r + 1, c1 := 0, c2 := 0 }).length), (es.set k { es[k] with r := es[k].r + 1, c1 := 0, c2 := 0 })[j].v = (es[j]'(by simpa using hj)).v := fun j hj => by
      rw [List.getElem_set]
      split
      · rename_i e; subst e; rfl
      · rfl
    rw [hm i hi, hm j hj]
    exact List.pairwise_iff_getElem.1 h.inc i j _ _ hij
  · rcases List.mem_or_eq_of_mem_set he with he | rfl
    · exact h.pos e he
    · have := h.pos _ (List.getElem_mem hk); exact this
  · rcases List.mem_or_eq_of_mem_set he with he | rfl
    · exact h.re e he
    · simp only; omega
  · rw [List.pairwise_iff_getElem]
    intro i j hi hj hij
    rw [List.length_set] at hi hj
    have hm := List.pairwise_iff_getElem.1 h.mon i j hi hj hij
    rw [List.getElem_set, List.getElem_set]
    by_cases e1 : k = i
    · subst e1
      rw [if_pos rfl, if_neg (by omega)]
      have hne : es[j].r ≠ es[k].r := fun e => by have := hm.2 e.symm; omega
      simp only; omega
    · rw [if_neg e1]
      by_cases e2 : k = j
      · subst e2
        rw [if_pos rfl]
        have hne : es[i].r ≠ es[k].r := fun e => by have := hm.2 e; omega
        simp only
        refine ⟨by omega, fun e => ?_⟩
        rw [e]
        rcases Nat.lt_or_ge (es[k].r.toNat + 1) n with h3 | h3
        · exact absurd e (hfree (by omega) _ (List.getElem_mem hi))
        · omega
      · rw [if_neg e2]; exact hm
  · rcases List.mem_or_eq_of_mem_set he with he | rfl
    · exact h.cs e he
    · exact okC00
  · rcases List.mem_or_eq_of_mem_set he with he | rfl
    · exact h.ver e he hr'
    · exact verdict0 hp

theorem RInv.start (h : RInv n p es) (hp : OkP p) (hn : 0 < n) {v : Int} (hv : 1 ≤ v) (hno : ∀ e ∈ es, e.r ≠ 0) (hst : ¬ (es ≠ [] ∧ v ≤ lastV es)) : RInv n p (es ++ [⟨v, 0, 0, 0⟩]) := by
  have hlast : ∀ e ∈ es, e.v < v := fun e he => by
    have hne : es ≠ [] := List.ne_nil_of_mem he
    have h1 : ¬ v ≤ lastV es := fun h => hst ⟨hne, h⟩
    have hl : es.length - 1 < es.length := by have := List.length_pos_iff.2 hne; omega
    have h2 : lastV es = es[es.length - 1].v := by
      unfold lastV lastI
      rw [List.getLast?_eq_getElem?, List.length_map, List.getElem?_eq_getElem (by simpa using hl)]; simp
    obtain ⟨i, hi, rfl⟩ := List.getElem_of_mem he
    rcases Nat.lt_or_eq_of_le (show i ≤ es.length - 1 by omega) with h3 | h3
    · have := List.pairwise_iff_getElem.1 h.inc i _ hi hl h3; omega
    · subst h3; omega
  refine ⟨?_, fun e he => ?_, fun e he => ?_, ?_, fun e he => ?_, fun e he hr' => ?_⟩
  · rw [List.pairwise_append]
    refine ⟨h.inc, List.pairwise_singleton _ _, fun a ha b hb => ?_⟩
    rw [List.mem_singleton] at hb; subst hb
    exact hlast a ha
  · rw [List.mem_append, List.mem_singleton] at he
    rcases he with he | rfl
    · exact h.pos e he
    · exact hv
  · rw [List.mem_append, List.mem_singleton] at he
    rcases he with he | rfl
    · exact h.re e he
    · simp only; omega
  · rw [List.pairwise_append]
    refine ⟨h.mon, List.pairwise_singleton _ _, fun a ha b hb => ?_⟩
    rw [List.mem_singleton] at hb; subst hb
    have h1 := (h.re a ha).1
    have h2 := hno a ha
    simp only; omega
  · rw [List.mem_append, List.mem_singleton] at he
    rcases he with he | rfl
    · exact h.cs e he
    · exact okC00
  · rw [List.mem_append, List.mem_singleton] at he
    rcases he with he | rfl
    · exact h.ver e he hr'
    · exact verdict0 hp

theorem state_start (h : RInv n p es) (hn : 0 < n) {v : Int} (hno : ∀ e ∈ es, e.r ≠ 0) : (stateD n es).set 0 { rOf es 0 with act := v } = stateD n (es ++ [⟨v, 0, 0, 0⟩]) := by
  unfold stateD
  obtain ⟨z1, z2, z3⟩ := rOf_none (es := es) (k := 0) fun e he => hno e he
  refine range_set (fun j hj hne => ?_) ?_
  · rw [rOf_app]; unfold put1
    rw [if_neg (by simp only; omega), if_neg (by simp only; omega)]
  · rw [rOf_app]; unfold put1
    rw [if_neg (by simp), if_pos (by simp)]
    exact RS.ext' rfl rfl z2.symm z3.symm

/-- All versions are confirmed in the first ring, but for the active one. -/
theorem conf0 (h : RInv n p es) (hno : ∀ e ∈ es, e.r ≠ 0) : (rOf es 0).conf = es.map (·.v) := by
  rw [rOf_conf]
  congr 1
  rw [List.filter_eq_self]
  intro e he
  have := (h.re e he).1
  have := hno e he
  simp only [decide_eq_true_eq]; omega

theorem mal_iff {e : Ev} : unusedB e = true ↔ (malB e ∨ (e.kind ≠ 2 ∧ (e.g ≠ 0 ∨ e.b ≠ 0))) := by
  unfold unusedB malB
  simp only [Bool.or_eq_true, Bool.and_eq_true, Bool.not_eq_true', beq_iff_eq, bne_iff_ne, Bool.and_true, Bool.or_eq_false_iff, Bool.and_eq_false_iff, beq_eq_false_iff_ne]
  constructor
  · rintro ((⟨h1, h2⟩ | ⟨h1, h2⟩) | ⟨h1, h2⟩)
    · exact .inl (.inl ⟨h1, h2⟩)
    · exact .inl (.inr ⟨by omega, h2⟩)
    · exact .inr ⟨h1, h2⟩
  · rintro ((⟨h1, h2⟩ | ⟨h1, h2⟩) | ⟨h1, h2⟩)
    · exact .inl (.inl ⟨h1, h2⟩)
    · exact .inl (.inr ⟨by omega, h2⟩)
    · exact .inr ⟨h1, h2⟩

/-- Every step does the same to both. -/
theorem sim (h : RInv n p es) (hp : OkP p) (hn : 0 < n) (e : Ev) : (stepR p (stateD n es) e).1 = (stepD p n es e).1 ∧ ((stepR p (stateD n es) e).1 = 0 → (stepR p (stateD n es) e).2 = stateD n (stepD p n es e).2 ∧ RInv n p (stepD p n es e).2) := by
  have same : ∀ c : Int, c ≠ 0 → ((c, stateD n es) : Int × List RS).1 = ((c, es) : Int × List Ent).1 ∧ (((c, stateD n es) : Int × List RS).1 = 0 → ((c, stateD n es) : Int × List RS).2 = stateD n ((c, es) : Int × List Ent).2 ∧ RInv n p ((c, es) : Int × List Ent).2) := fun c hc => ⟨rfl, fun h => absurd h hc⟩
  unfold stepR stepD
  by_cases hk : e.kind < 1 ∨ e.kind > 4
  · rw [if_pos hk, if_pos hk]; exact same 4 (by decide)
  rw [if_neg hk, if_neg hk]
  by_cases hu : unusedB e = true
  · rw [if_pos hu]
    rcases mal_iff.1 hu with h1 | h1
    · rw [if_pos h1]; exact same 5 (by decide)
    · rw [if_pos h1]
      split <;> exact same 5 (by decide)
  rw [if_neg hu, if_neg fun h => hu (mal_iff.2 (.inl h)), if_neg fun h => hu (mal_iff.2 (.inr h)), state_len]
  by_cases hr : e.ring < 0 ∨ e.ring ≥ (n : Int)
  · rw [if_pos hr, if_pos hr]; exact same 3 (by decide)
  rw [if_neg hr, if_neg hr]
  have hmal : ¬ malB e := fun h => hu (mal_iff.2 (.inl h))
  have er : ((e.ring.toNat : Nat) : Int) = e.ring := by omega
  have hri : e.ring.toNat < n := by omega
  by_cases k1 : e.kind = 1
  · rw [if_pos k1, if_neg (by omega), if_pos k1]
    have hr0 : e.ring = 0 := Decidable.byContradiction fun h => hmal (.inl ⟨.inl k1, h⟩)
    unfold startR
    by_cases hv : e.ver < 1 ∨ e.ver > 1000000000
    · rw [if_pos hv, if_pos hv]; exact same 3 (by decide)
    rw [if_neg hv, if_neg hv, rg_state hn]
    have ha := act_iff h (r := 0) (by omega) (by omega)
    rw [hr0]
    rcases ha with ⟨a1, a2, _, _, a5⟩ | ⟨hk, a1, a2, a3, a4, a5, a6⟩
    · rw [if_neg (by rw [show (0 : Int).toNat = 0 from rfl] at a2; rw [a2]; decide), if_neg (by omega : ¬ actD es 0 ≥ 0)]
      rw [conf0 h a5]
      have hs : (e.ver ≤ lastI (es.map (·.v))) ↔ (es ≠ [] ∧ e.ver ≤ lastV es) := by
        unfold lastV
        constructor
        · intro hle
          refine ⟨fun hnil => ?_, hle⟩
          subst hnil
          have : lastI (([] : List Ent).map (·.v)) = 0 := rfl
          omega
        · exact fun h => h.2
      by_cases hst : e.ver ≤ lastI (es.map (·.v))
      · rw [if_pos hst, if_pos (hs.1 hst)]; exact same 16 (by decide)
      · rw [if_neg hst, if_neg fun h => hst (hs.2 h)]
        refine ⟨rfl, fun _ => ⟨?_, ?_⟩⟩
        · have := state_start (v := e.ver) h hn a5
          exact this
        · exact h.start hp hn (by omega) a5 fun h => hst (hs.2 h)
    · have a6 : (rOf es 0).act ≠ 0 := a6
      rw [if_pos a6, if_pos a1]; exact same 15 (by decide)
  rw [if_neg k1]
  by_cases k4 : e.kind = 4
  · rw [if_neg (by omega), if_neg (by omega), if_pos k4]
    by_cases hany : es.any (fun x => x.v == e.ver) = true
    · obtain ⟨x, hx, hxv⟩ := List.any_eq_true.1 hany
      have hxv : x.v = e.ver := by simpa using hxv
      have hit : (stateD n es).any (hit e.ver) = true := (hit_iff h hn e.ver).2 ⟨x, hx, hxv⟩
      rw [if_pos hit, if_pos hany]
      have hfi : es.findIdx (fun x => x.v == e.ver) < es.length := List.findIdx_lt_length_of_exists ⟨x, hx, by simpa using hxv⟩
      have hfv : es[es.findIdx (fun x => x.v == e.ver)].v = e.ver := by
        have := List.findIdx_getElem (w := hfi)
        simpa using this
      have hpos := h.pos x hx
      rw [erase_dropV h hfi, hfv]
      exact ⟨rfl, fun _ => ⟨abort_state h (by omega), h.drop _⟩⟩
    · have hit : ¬ (stateD n es).any (hit e.ver) = true := fun hh => by
        obtain ⟨x, hx, hxv⟩ := (hit_iff h hn e.ver).1 hh
        exact hany (List.any_eq_true.2 ⟨x, hx, by simpa using hxv⟩)
      rw [if_neg hit, if_neg hany]; exact same 6 (by decide)
  rw [if_neg k4, if_neg k1]
  have k3' : e.kind ≠ 2 → e.kind = 3 := fun h => by omega
  have ha := act_iff h (r := e.ring) (by omega) (by omega)
  by_cases k2 : e.kind = 2
  · rw [if_pos k2, if_pos k2]
    unfold reportR
    rw [rg_state hri]
    by_cases ho : okC e.g e.b
    · rw [if_neg (show ¬ ¬ okC e.g e.b from fun h => h ho), if_neg (show ¬ (e.kind = 2 ∧ ¬ okC e.g e.b) from fun h => h.2 ho)]
      rcases ha with ⟨a1, a2, _, _, a5⟩ | ⟨hk, a1, a2, a3, a4, a5, a6⟩
      · rw [if_pos a2, if_pos a1]; exact same 11 (by decide)
      · rw [if_neg a6, if_neg (show ¬ actD es e.ring < 0 by omega), eg_eq hk, a4, a5, a3]
        generalize hkk : (actD es e.ring).toNat = k at hk a2 a3 a4 a5 ⊢
        have hrk : es[k].r < n := by omega
        by_cases hs : okC (es[k].c1 + e.g) (es[k].c2 + e.b)
        · rw [if_neg (show ¬ ¬ okC (es[k].c1 + e.g) (es[k].c2 + e.b) from fun h => h hs), if_neg (show ¬ ¬ okC (es[k].c1 + e.g) (es[k].c2 + e.b) from fun h => h hs)]
          by_cases hv : verdictI p.b1 p.b2 (es[k].c1 + e.g) (es[k].c2 + e.b) p.need p.pm = 3
          · rw [if_pos hv, if_pos hv, erase_dropV h hk]
            refine ⟨rfl, fun _ => ⟨?_, h.drop _⟩⟩
            have hpos := h.pos _ (List.getElem_mem hk)
            rw [← abort_state h (by omega)]
            simp only
            rw [List.map_set]
            have hget : ((stateD n es).map (abort1 es[k].v))[e.ring.toNat]? = some (abort1 es[k].v (rOf es e.ring.toNat)) := by
              unfold stateD; simp [hri]
            have hsame : abort1 es[k].v { rOf es e.ring.toNat with good := es[k].c1 + e.g, bad := es[k].c2 + e.b } = abort1 es[k].v (rOf es e.ring.toNat) := by
              have hA : hitA es[k].v (rOf es e.ring.toNat) = true := by unfold hitA; exact decide_eq_true ⟨by omega, a3⟩
              have hA2 : hitA es[k].v { rOf es e.ring.toNat with good := es[k].c1 + e.g, bad := es[k].c2 + e.b } = true := hA
              unfold abort1
              simp only [hA, hA2, if_true]
            apply List.ext_getElem?
            intro j
            rw [List.getElem?_set]
            split
            · rename_i e1; subst e1
              rw [if_pos (by simp [state_len, hri]), hget]
              exact congrArg some hsame
            · rfl
          · rw [if_neg hv, if_neg hv]
            refine ⟨rfl, fun _ => ⟨?_, h.setCnt hk hs hv⟩⟩
            have := set_cnt h hk hrk (es[k].c1 + e.g) (es[k].c2 + e.b)
            rw [a2] at this
            exact this
        · rw [if_pos hs, if_pos hs]; exact same 10 (by decide)
    · rw [if_pos ho, if_pos ⟨k2, ho⟩]; exact same 3 (by decide)
  rw [if_neg k2, if_neg (show ¬ (e.kind = 2 ∧ ¬ okC e.g e.b) from fun h => k2 h.1), if_pos (k3' k2), if_neg k2]
  unfold advanceR
  rw [rg_state hri]
  rcases ha with ⟨a1, a2, _, _, a5⟩ | ⟨hk, a1, a2, a3, a4, a5, a6⟩
  · rw [if_pos a2, if_pos a1]; exact same 11 (by decide)
  rw [if_neg a6, if_neg (show ¬ actD es e.ring < 0 by omega), eg_eq hk, a4, a5]
  generalize hkk : (actD es e.ring).toNat = k at hk a2 a3 a4 a5 ⊢
  have hrk : es[k].r < n := by omega
  by_cases hv : verdictI p.b1 p.b2 es[k].c1 es[k].c2 p.need p.pm ≠ 2
  · rw [if_pos hv, if_pos hv]; exact same 11 (by decide)
  rw [if_neg hv, if_neg hv, state_len]
  have hnext : ¬ (e.ring.toNat + 1 < n ∧ (rg (stateD n es) (e.ring.toNat + 1)).act ≠ 0) → ¬ (e.ring + 1 < n ∧ actD es (e.ring + 1) ≥ 0) → (0, (if e.ring.toNat + 1 < n then (stateD n es).set (e.ring.toNat + 1) { rg (stateD n es) (e.ring.toNat + 1) with act := (rOf es e.ring.toNat).act } else stateD n es).set e.ring.toNat ⟨(rOf es e.ring.toNat).conf ++ [(rOf es e.ring.toNat).act], 0, 0, 0⟩).2 = stateD n (es.set k { es[k] with r := e.ring + 1, c1 := 0, c2 := 0 }) ∧ RInv n p (es.set k { es[k] with r := e.ring + 1, c1 := 0, c2 := 0 }) := fun _ hf => by
    have hfree : es[k].r + 1 < n → ∀ x ∈ es, x.r ≠ es[k].r + 1 := fun hlt x hx hxr => by
      rw [a2] at hlt hxr
      rcases act_iff h (r := e.ring + 1) (by omega) (by omega) with ⟨_, _, _, _, b5⟩ | ⟨_, b1, _⟩
      · exact b5 x hx hxr
      · exact hf ⟨hlt, b1⟩
    have h1 := set_adv h hk hrk hfree
    have h2 := h.adv hp hk hrk hfree
    rw [state_len] at h1
    simp only [a2] at h1 h2
    rw [a3]
    exact ⟨h1, h2⟩
  by_cases hlt : e.ring + 1 < n
  · rw [rg_state (by omega : e.ring.toNat + 1 < n)] at hnext ⊢
    rcases act_iff h (r := e.ring + 1) (by omega) (by omega) with ⟨b1, b2, _, _, b5⟩ | ⟨hk2, b1, _, _, _, _, b6⟩
    · rw [show (e.ring + 1).toNat = e.ring.toNat + 1 by omega] at b2
      have c1 : ¬ (e.ring.toNat + 1 < n ∧ (rOf es (e.ring.toNat + 1)).act ≠ 0) := fun h => h.2 b2
      have c2 : ¬ (e.ring + 1 < n ∧ actD es (e.ring + 1) ≥ 0) := fun h => by omega
      rw [if_neg c1, if_neg c2]
      exact ⟨rfl, fun _ => hnext c1 c2⟩
    · rw [show (e.ring + 1).toNat = e.ring.toNat + 1 by omega] at b6
      rw [if_pos ⟨by omega, b6⟩, if_pos ⟨hlt, b1⟩]; exact same 15 (by decide)
  · have c1 : ¬ (e.ring.toNat + 1 < n ∧ (rg (stateD n es) (e.ring.toNat + 1)).act ≠ 0) := fun h => by omega
    have c2 : ¬ (e.ring + 1 < n ∧ actD es (e.ring + 1) ≥ 0) := fun h => hlt h.1
    rw [if_neg c1, if_neg c2]
    exact ⟨rfl, fun _ => hnext c1 c2⟩

end Go.RM

/-
  Functions of the program as the abstract machine runs them, and what must be shown of a run: printed by RmPrint.
-/
namespace Go.RM
set_option linter.unusedVariables false
set_option maxRecDepth 4000
def rf_LRolloutFunctionsMatchSpec (nrollout_Run nrollout_Versions nLrolloutExample nFFault nFCountsValid nFDeployment_Step nFDeployment_State nFEqualRings nFEqualInts : Nat) : RFunc := ⟨5, 29, [.var 5],
 ((.seq (.ops [⟨.tomb 1 (.var 1), none, (some 6), true⟩, ⟨.move (.k (.bool false)), none, (some 5), true⟩])
 ((.seq (.ops [⟨.move (.var 0), none, none, true⟩, ⟨.field 0 (some 2) (.var 6), none, none, true⟩, ⟨.move (.var 2), none, none, true⟩, ⟨.move (.var 3), none, none, true⟩, ⟨.move (.var 4), none, none, true⟩, ⟨.callS nrollout_Run [(.loc 0), (.loc 1), (.loc 2), (.loc 3), (.loc 4)], none, none, true⟩, ⟨.move (.loc 5), none, none, true⟩, ⟨.extract (.loc 6) 0, none, none, true⟩, ⟨.extract (.loc 6) 1, none, none, true⟩, ⟨.tomb 1 (.k (.agg [.int .i64 0, .int .i64 0])), none, (some 19), true⟩, ⟨.move (.loc 7), none, (some 21), true⟩, ⟨.upd 2 0 (.loc 9) (.loc 8), none, (some 19), true⟩])
 ((.seq (.ops [⟨.move (.var 0), none, none, true⟩, ⟨.field 0 (some 2) (.var 6), none, none, true⟩, ⟨.move (.var 2), none, none, true⟩, ⟨.move (.var 3), none, none, true⟩, ⟨.move (.var 4), none, none, true⟩, ⟨.callS nrollout_Versions [(.loc 0), (.loc 1), (.loc 2), (.loc 3), (.loc 4)], none, none, true⟩, ⟨.move (.loc 5), none, none, true⟩, ⟨.extract (.loc 6) 0, none, none, true⟩, ⟨.extract (.loc 6) 1, none, none, true⟩, ⟨.tomb 1 (.k (.agg [.int .i64 0, .int .i64 0])), none, (some 20), true⟩, ⟨.move (.loc 7), none, (some 22), true⟩, ⟨.upd 2 0 (.loc 9) (.loc 8), none, (some 20), true⟩])
 ((.seq ((.seq (.ops [⟨.callS nLrolloutExample [], none, none, true⟩, ⟨.un .not (.loc 0), none, (some 7), true⟩])
 (.cond (.var 7) ((.seq (.ops [⟨.move (.k (.bool false)), none, (some 5), true⟩])
 (.ret))) (.skip))))
 ((.seq (.ops [⟨.build [.int .i64 0, .int .i64 0] [], none, none, true⟩, ⟨.tomb 1 (.k (.agg [.int .i64 0, .int .i64 0])), none, (some 9), true⟩, ⟨.upd 2 0 (.loc 1) (.loc 0), none, (some 9), true⟩])
 ((.seq ((.seq (.ops [⟨.move (.var 0), none, none, true⟩, ⟨.bin .lss .no (.loc 0) (.k (.int .i64 1)), none, none, true⟩, ⟨.move (.loc 1), none, none, true⟩, ⟨.move (.var 0), none, none, true⟩, ⟨.bin .gtr .no (.loc 3) (.k (.int .i64 5)), none, none, true⟩, ⟨.pick (.loc 2) (.k (.bool true)) (.loc 4), none, (some 8), true⟩])
 (.cond (.var 8) (.ops [⟨.callS nFFault [(.k (.int .i64 3)), (.k (.int .i64 (-2)))], none, none, true⟩, ⟨.upd 2 0 (.var 9) (.loc 0), none, (some 9), true⟩]) ((.seq (.ops [⟨.field 0 (some 2) (.var 6), none, none, true⟩, ⟨.callS nFCountsValid [(.loc 0)], none, none, true⟩, ⟨.un .not (.loc 1), none, none, true⟩, ⟨.move (.loc 2), none, none, true⟩, ⟨.move (.var 2), none, none, true⟩, ⟨.bin .lss .no (.loc 4) (.k (.int .i64 0)), none, none, true⟩, ⟨.pick (.loc 3) (.k (.bool true)) (.loc 5), none, none, true⟩, ⟨.move (.loc 6), none, none, true⟩, ⟨.move (.var 2), none, none, true⟩, ⟨.bin .gtr .no (.loc 8) (.k (.int .i64 25)), none, none, true⟩, ⟨.pick (.loc 7) (.k (.bool true)) (.loc 9), none, none, true⟩, ⟨.move (.loc 10), none, none, true⟩, ⟨.move (.var 3), none, none, true⟩, ⟨.bin .lss .no (.loc 12) (.k (.int .i64 0)), none, none, true⟩, ⟨.pick (.loc 11) (.k (.bool true)) (.loc 13), none, none, true⟩, ⟨.move (.loc 14), none, none, true⟩, ⟨.move (.var 3), none, none, true⟩, ⟨.bin .geq .no (.loc 16) (.k (.int .i64 1000)), none, none, true⟩, ⟨.pick (.loc 15) (.k (.bool true)) (.loc 17), none, (some 10), true⟩])
 (.cond (.var 10) (.ops [⟨.callS nFFault [(.k (.int .i64 3)), (.k (.int .i64 (-3)))], none, none, true⟩, ⟨.upd 2 0 (.var 9) (.loc 0), none, (some 9), true⟩]) ((.seq (.ops [⟨.move (.var 4), none, none, true⟩, ⟨.len (.loc 0), none, none, true⟩, ⟨.bin .gtr .no (.loc 1) (.k (.int .i64 40)), none, (some 11), true⟩])
 (.cond (.var 11) (.ops [⟨.callS nFFault [(.k (.int .i64 2)), (.k (.int .i64 (-1)))], none, none, true⟩, ⟨.upd 2 0 (.var 9) (.loc 0), none, (some 9), true⟩]) (.skip))))))))))
 ((.seq (.ops [⟨.move (.var 0), none, none, true⟩, ⟨.field 0 (some 2) (.var 6), none, none, true⟩, ⟨.move (.var 2), none, none, true⟩, ⟨.move (.var 3), none, none, true⟩, ⟨.build [.int .i64 0, .int .i64 0, .int .i64 0, .int .i64 0, .int .i64 0, .empty, .empty, .empty] [(0, 1, (.loc 0)), (1, 2, (.loc 1)), (3, 1, (.loc 2)), (4, 1, (.loc 3))], none, none, true⟩, ⟨.tomb 1 (.k (.agg [.int .i64 0, .int .i64 0, .int .i64 0, .int .i64 0, .int .i64 0, .empty, .empty, .empty])), none, (some 14), true⟩, ⟨.upd 8 0 (.loc 5) (.loc 4), none, (some 14), true⟩])
 ((.seq ((.seq (.ops [⟨.move (.k (.int .i64 0)), none, (some 12), true⟩])
 (.block 0 (.loop ((.seq ((.seq (.ops [⟨.move (.var 12), none, none, true⟩, ⟨.move (.var 4), none, none, true⟩, ⟨.len (.loc 1), none, none, true⟩, ⟨.bin .lss .no (.loc 0) (.loc 2), none, none, true⟩, ⟨.move (.loc 3), none, none, true⟩, ⟨.field 0 none (.var 9), none, none, true⟩, ⟨.field 0 none (.var 9), none, none, true⟩, ⟨.bin .eql .no (.loc 6) (.k (.int .i64 0)), none, none, true⟩, ⟨.pick (.loc 4) (.loc 7) (.k (.bool false)), none, (some 13), true⟩])
 (.cond (.var 13) (.skip) (.exit 0))))
 ((.seq (.block 1 ((.seq (.ops [⟨.field 0 (some 8) (.var 14), none, none, false⟩, ⟨.move (.var 4), none, none, false⟩, ⟨.move (.var 12), none, none, false⟩, ⟨.indexAddr 5 (.loc 1) (.loc 2), none, none, false⟩, ⟨.load (some 5) (.loc 3), none, none, false⟩, ⟨.callS nFDeployment_Step [(.loc 0), (.loc 4)], none, none, false⟩, ⟨.move (.loc 5), none, none, false⟩, ⟨.extract (.loc 6) 0, none, none, false⟩, ⟨.extract (.loc 6) 1, none, none, false⟩, ⟨.tomb 1 (.k (.agg [.int .i64 0, .int .i64 0, .int .i64 0, .int .i64 0, .int .i64 0, .empty, .empty, .empty])), none, (some 15), false⟩, ⟨.upd 8 0 (.loc 9) (.loc 7), none, (some 15), true⟩, ⟨.move (.loc 8), none, (some 16), true⟩])
 ((.seq (.ops [⟨.field 0 (some 8) (.var 15), none, none, true⟩, ⟨.upd 8 0 (.var 14) (.loc 0), none, (some 14), true⟩])
 ((.seq (.ops [⟨.move (.var 16), none, none, true⟩, ⟨.bin .neq .no (.loc 0) (.k (.int .i64 0)), none, (some 17), true⟩])
 (.cond (.var 17) (.ops [⟨.move (.var 16), none, none, true⟩, ⟨.move (.var 12), none, none, true⟩, ⟨.callS nFFault [(.loc 0), (.loc 1)], none, none, true⟩, ⟨.upd 2 0 (.var 9) (.loc 2), none, (some 9), true⟩]) (.skip)))))))))
 (.ops [⟨.move (.var 12), none, none, true⟩, ⟨.bin .add .no (.loc 0) (.k (.int .i64 1)), none, none, true⟩, ⟨.move (.loc 1), none, (some 12), true⟩])))))))))
 ((.seq ((.seq (.ops [⟨.field 0 none (.var 9), none, none, true⟩, ⟨.field 0 none (.var 9), none, none, true⟩, ⟨.bin .neq .no (.loc 1) (.k (.int .i64 0)), none, (some 18), true⟩])
 (.cond (.var 18) ((.seq (.ops [⟨.field 0 (some 2) (.var 19), none, none, true⟩, ⟨.field 0 (some 2) (.var 9), none, none, true⟩, ⟨.bin .eql (.agg [.int, .int]) (.loc 0) (.loc 1), none, none, true⟩, ⟨.move (.loc 2), none, none, true⟩, ⟨.field 0 (some 2) (.var 20), none, none, true⟩, ⟨.field 0 (some 2) (.var 9), none, none, true⟩, ⟨.bin .eql (.agg [.int, .int]) (.loc 4) (.loc 5), none, none, true⟩, ⟨.pick (.loc 3) (.loc 6) (.k (.bool false)), none, none, true⟩, ⟨.move (.loc 7), none, none, true⟩, ⟨.move (.var 21), none, none, true⟩, ⟨.len (.loc 9), none, none, true⟩, ⟨.bin .eql .no (.loc 10) (.k (.int .i64 0)), none, none, true⟩, ⟨.pick (.loc 8) (.loc 11) (.k (.bool false)), none, none, true⟩, ⟨.move (.loc 12), none, none, true⟩, ⟨.move (.var 22), none, none, true⟩, ⟨.len (.loc 14), none, none, true⟩, ⟨.bin .eql .no (.loc 15) (.k (.int .i64 0)), none, none, true⟩, ⟨.pick (.loc 13) (.loc 16) (.k (.bool false)), none, none, true⟩, ⟨.move (.loc 17), none, (some 5), true⟩])
 (.ret))) (.skip))))
 ((.seq (.ops [⟨.move (.k (.empty)), none, (some 28), true⟩])
 ((.seq (.ops [⟨.field 0 (some 8) (.var 14), none, none, true⟩, ⟨.callS nFDeployment_State [(.loc 0)], none, none, true⟩, ⟨.move (.loc 1), none, (some 24), true⟩])
 ((.seq ((.seq (.ops [⟨.move (.k (.int .i64 0)), none, (some 23), true⟩])
 (.block 2 (.loop ((.seq ((.seq (.ops [⟨.move (.var 23), none, none, true⟩, ⟨.move (.var 24), none, none, true⟩, ⟨.len (.loc 1), none, none, true⟩, ⟨.bin .lss .no (.loc 0) (.loc 2), none, (some 25), true⟩])
 (.cond (.var 25) (.skip) (.exit 2))))
 ((.seq (.block 3 ((.seq (.ops [⟨.move (.var 24), none, none, true⟩, ⟨.move (.var 23), none, none, true⟩, ⟨.indexAddr 4 (.loc 0) (.loc 1), none, none, true⟩, ⟨.fieldAddr 1 (.loc 2), none, none, true⟩, ⟨.load none (.loc 3), none, none, true⟩, ⟨.move (.loc 4), none, (some 26), true⟩])
 ((.seq ((.seq (.ops [⟨.move (.var 26), none, none, true⟩, ⟨.bin .eql .no (.loc 0) (.k (.int .i64 0)), none, none, true⟩, ⟨.move (.loc 1), none, none, true⟩, ⟨.move (.var 24), none, none, true⟩, ⟨.move (.var 23), none, none, true⟩, ⟨.indexAddr 4 (.loc 3) (.loc 4), (some (2, true)), none, true⟩, ⟨.fieldAddr 0 (.loc 5), (some (2, true)), none, true⟩, ⟨.load none (.loc 6), (some (2, true)), none, true⟩, ⟨.len (.loc 7), (some (2, true)), none, true⟩, ⟨.bin .gtr .no (.loc 8) (.k (.int .i64 0)), (some (2, true)), none, true⟩, ⟨.pick (.loc 2) (.loc 9) (.k (.bool false)), none, (some 27), true⟩])
 (.cond (.var 27) (.ops [⟨.move (.var 24), none, none, false⟩, ⟨.move (.var 23), none, none, false⟩, ⟨.indexAddr 4 (.loc 0) (.loc 1), none, none, false⟩, ⟨.fieldAddr 0 (.loc 2), none, none, false⟩, ⟨.load none (.loc 3), none, none, false⟩, ⟨.move (.var 24), none, none, false⟩, ⟨.move (.var 23), none, none, false⟩, ⟨.indexAddr 4 (.loc 5) (.loc 6), none, none, false⟩, ⟨.fieldAddr 0 (.loc 7), none, none, false⟩, ⟨.load none (.loc 8), none, none, false⟩, ⟨.len (.loc 9), none, none, false⟩, ⟨.bin .sub .no (.loc 10) (.k (.int .i64 1)), none, none, false⟩, ⟨.indexAddr 1 (.loc 4) (.loc 11), none, none, true⟩, ⟨.load none (.loc 12), none, none, true⟩, ⟨.move (.loc 13), none, (some 26), true⟩]) (.skip))))
 (.ops [⟨.move (.var 28), none, none, true⟩, ⟨.move (.var 26), none, none, true⟩, ⟨.buildSlice 1 [.int .i64 0] [(0, 1, (.loc 1))] 1, none, none, true⟩, ⟨.append 1 8 (.loc 0) (.loc 2), none, none, true⟩, ⟨.move (.loc 3), none, (some 28), true⟩]))))))
 (.ops [⟨.move (.var 23), none, none, true⟩, ⟨.bin .add .no (.loc 0) (.k (.int .i64 1)), none, none, true⟩, ⟨.move (.loc 1), none, (some 23), true⟩])))))))))
 ((.seq (.ops [⟨.field 0 none (.var 19), none, none, true⟩, ⟨.field 0 none (.var 19), none, none, true⟩, ⟨.bin .eql .no (.loc 1) (.k (.int .i64 0)), none, none, true⟩, ⟨.move (.loc 2), none, none, true⟩, ⟨.field 0 none (.var 20), none, none, true⟩, ⟨.field 0 none (.var 20), none, none, true⟩, ⟨.bin .eql .no (.loc 5) (.k (.int .i64 0)), none, none, true⟩, ⟨.pick (.loc 3) (.loc 6) (.k (.bool false)), none, none, true⟩, ⟨.move (.loc 7), none, none, true⟩, ⟨.move (.var 21), none, none, true⟩, ⟨.move (.var 24), none, none, true⟩, ⟨.callS nFEqualRings [(.loc 9), (.loc 10)], (some (8, true)), none, true⟩, ⟨.pick (.loc 8) (.loc 11) (.k (.bool false)), none, none, true⟩, ⟨.move (.loc 12), none, none, true⟩, ⟨.move (.var 22), none, none, true⟩, ⟨.move (.var 28), none, none, true⟩, ⟨.callS nFEqualInts [(.loc 14), (.loc 15)], (some (13, true)), none, true⟩, ⟨.pick (.loc 13) (.loc 16) (.k (.bool false)), none, none, true⟩, ⟨.move (.loc 17), none, (some 5), true⟩])
 (.ret)))))))))))))))))))))))))))⟩
def rf_LRolloutAbortForgets (nrollout_Run nLrolloutExample nFFault nFWithout nFEqualRings : Nat) : RFunc := ⟨6, 23, [.var 6],
 ((.seq (.ops [⟨.tomb 1 (.var 1), none, (some 7), true⟩, ⟨.move (.k (.bool false)), none, (some 6), true⟩])
 ((.seq (.ops [⟨.move (.var 5), none, none, true⟩, ⟨.build [.int .i64 0, .int .i64 0, .int .i64 0, .int .i64 0, .int .i64 0] [(0, 1, (.k (.int .i64 4))), (1, 1, (.loc 0))], none, none, true⟩, ⟨.tomb 1 (.k (.agg [.int .i64 0, .int .i64 0, .int .i64 0, .int .i64 0, .int .i64 0])), none, (some 8), true⟩, ⟨.upd 5 0 (.loc 2) (.loc 1), none, (some 8), true⟩])
 ((.seq (.ops [⟨.move (.var 0), none, none, true⟩, ⟨.field 0 (some 2) (.var 7), none, none, true⟩, ⟨.move (.var 2), none, none, true⟩, ⟨.move (.var 3), none, none, true⟩, ⟨.move (.var 4), none, none, true⟩, ⟨.callS nrollout_Run [(.loc 0), (.loc 1), (.loc 2), (.loc 3), (.loc 4)], none, none, true⟩, ⟨.move (.loc 5), none, none, true⟩, ⟨.extract (.loc 6) 0, none, none, true⟩, ⟨.extract (.loc 6) 1, none, none, true⟩, ⟨.tomb 1 (.k (.agg [.int .i64 0, .int .i64 0])), none, (some 11), true⟩, ⟨.move (.loc 7), none, (some 14), true⟩, ⟨.upd 2 0 (.loc 9) (.loc 8), none, (some 11), true⟩])
 ((.seq (.ops [⟨.move (.var 4), none, none, false⟩, ⟨.append 5 40 (.k (.empty)) (.loc 0), none, none, false⟩, ⟨.field 0 (some 5) (.var 8), none, none, false⟩, ⟨.buildSlice 5 [.int .i64 0, .int .i64 0, .int .i64 0, .int .i64 0, .int .i64 0] [(0, 5, (.loc 2))] 1, none, none, false⟩, ⟨.append 5 40 (.loc 1) (.loc 3), none, none, true⟩, ⟨.move (.loc 4), none, (some 9), true⟩])
 ((.seq (.ops [⟨.move (.var 0), none, none, true⟩, ⟨.field 0 (some 2) (.var 7), none, none, true⟩, ⟨.move (.var 2), none, none, true⟩, ⟨.move (.var 3), none, none, true⟩, ⟨.move (.var 9), none, none, true⟩, ⟨.callS nrollout_Run [(.loc 0), (.loc 1), (.loc 2), (.loc 3), (.loc 4)], none, none, true⟩, ⟨.move (.loc 5), none, none, true⟩, ⟨.extract (.loc 6) 0, none, none, true⟩, ⟨.extract (.loc 6) 1, none, none, true⟩, ⟨.tomb 1 (.k (.agg [.int .i64 0, .int .i64 0])), none, (some 12), true⟩, ⟨.move (.loc 7), none, (some 15), true⟩, ⟨.upd 2 0 (.loc 9) (.loc 8), none, (some 12), true⟩])
 ((.seq (.ops [⟨.move (.var 0), none, none, false⟩, ⟨.field 0 (some 2) (.var 7), none, none, false⟩, ⟨.move (.var 2), none, none, false⟩, ⟨.move (.var 3), none, none, false⟩, ⟨.move (.var 9), none, none, false⟩, ⟨.field 0 (some 5) (.var 8), none, none, false⟩, ⟨.buildSlice 5 [.int .i64 0, .int .i64 0, .int .i64 0, .int .i64 0, .int .i64 0] [(0, 5, (.loc 5))] 1, none, none, false⟩, ⟨.append 5 40 (.loc 4) (.loc 6), none, none, false⟩, ⟨.callS nrollout_Run [(.loc 0), (.loc 1), (.loc 2), (.loc 3), (.loc 7)], none, none, false⟩, ⟨.move (.loc 8), none, none, false⟩, ⟨.extract (.loc 9) 0, none, none, false⟩, ⟨.extract (.loc 9) 1, none, none, false⟩, ⟨.tomb 1 (.k (.agg [.int .i64 0, .int .i64 0])), none, (some 16), false⟩, ⟨.move (.loc 10), none, none, true⟩, ⟨.upd 2 0 (.loc 12) (.loc 11), none, (some 16), true⟩])
 ((.seq ((.seq (.ops [⟨.callS nLrolloutExample [], none, none, true⟩, ⟨.un .not (.loc 0), none, (some 10), true⟩])
 (.cond (.var 10) ((.seq (.ops [⟨.move (.k (.bool false)), none, (some 6), true⟩])
 (.ret))) (.skip))))
 ((.seq ((.seq (.ops [⟨.field 0 none (.var 11), none, none, true⟩, ⟨.field 0 none (.var 11), none, none, true⟩, ⟨.bin .neq .no (.loc 1) (.k (.int .i64 0)), none, none, true⟩, ⟨.move (.loc 2), none, none, true⟩, ⟨.field 0 none (.var 12), none, none, true⟩, ⟨.field 0 none (.var 12), none, none, true⟩, ⟨.bin .neq .no (.loc 5) (.k (.int .i64 0)), none, none, true⟩, ⟨.pick (.loc 3) (.k (.bool true)) (.loc 6), none, (some 13), true⟩])
 (.cond (.var 13) ((.seq (.ops [⟨.move (.k (.bool true)), none, (some 6), true⟩])
 (.ret))) (.skip))))
 ((.seq ((.seq (.ops [⟨.move (.var 14), none, none, true⟩, ⟨.len (.loc 0), none, none, true⟩, ⟨.move (.var 15), none, none, true⟩, ⟨.len (.loc 2), none, none, true⟩, ⟨.bin .neq .no (.loc 1) (.loc 3), none, none, true⟩, ⟨.move (.loc 4), none, none, true⟩, ⟨.move (.var 9), (some (5, false)), none, true⟩, ⟨.len (.loc 6), (some (5, false)), none, true⟩, ⟨.bin .lss .no (.loc 7) (.k (.int .i64 40)), (some (5, false)), none, true⟩, ⟨.move (.loc 8), (some (5, false)), none, true⟩, ⟨.field 0 (some 2) (.var 16), (some (9, true)), none, false⟩, ⟨.move (.var 9), (some (9, true)), none, false⟩, ⟨.len (.loc 11), (some (9, true)), none, false⟩, ⟨.callS nFFault [(.k (.int .i64 6)), (.loc 12)], (some (9, true)), none, false⟩, ⟨.bin .neq (.agg [.int, .int]) (.loc 10) (.loc 13), (some (9, true)), none, true⟩, ⟨.pick (.loc 9) (.loc 14) (.k (.bool false)), (some (5, false)), none, true⟩, ⟨.pick (.loc 5) (.k (.bool true)) (.loc 15), none, (some 17), true⟩])
 (.cond (.var 17) ((.seq (.ops [⟨.move (.k (.bool false)), none, (some 6), true⟩])
 (.ret))) (.skip))))
 ((.seq ((.seq (.ops [⟨.move (.k (.int .i64 0)), none, (some 18), true⟩])
 (.block 0 (.loop ((.seq ((.seq (.ops [⟨.move (.var 18), none, none, true⟩, ⟨.move (.var 14), none, none, true⟩, ⟨.len (.loc 1), none, none, true⟩, ⟨.bin .lss .no (.loc 0) (.loc 2), none, (some 19), true⟩])
 (.cond (.var 19) (.skip) (.exit 0))))
 ((.seq (.block 1 ((.seq (.ops [⟨.move (.var 14), none, none, false⟩, ⟨.move (.var 18), none, none, false⟩, ⟨.indexAddr 4 (.loc 0) (.loc 1), none, none, false⟩, ⟨.fieldAddr 0 (.loc 2), none, none, false⟩, ⟨.load none (.loc 3), none, none, false⟩, ⟨.move (.var 5), none, none, false⟩, ⟨.callS nFWithout [(.loc 4), (.loc 5)], none, none, false⟩, ⟨.move (.var 14), none, none, false⟩, ⟨.move (.var 18), none, none, false⟩, ⟨.indexAddr 4 (.loc 7) (.loc 8), none, none, false⟩, ⟨.fieldAddr 1 (.loc 9), none, none, false⟩, ⟨.load none (.loc 10), none, none, false⟩, ⟨.move (.var 14), none, none, false⟩, ⟨.move (.var 18), none, none, false⟩, ⟨.indexAddr 4 (.loc 12) (.loc 13), none, none, false⟩, ⟨.fieldAddr 2 (.loc 14), none, none, false⟩, ⟨.load (some 2) (.loc 15), none, none, false⟩, ⟨.build [.empty, .int .i64 0, .int .i64 0, .int .i64 0] [(0, 1, (.loc 6)), (1, 1, (.loc 11)), (2, 2, (.loc 16))], none, none, false⟩, ⟨.tomb 1 (.k (.agg [.empty, .int .i64 0, .int .i64 0, .int .i64 0])), none, (some 20), false⟩, ⟨.upd 4 0 (.loc 18) (.loc 17), none, (some 20), true⟩])
 ((.seq ((.seq (.ops [⟨.field 0 none (.var 20), none, none, true⟩, ⟨.field 1 none (.var 20), none, none, true⟩, ⟨.move (.var 5), none, none, true⟩, ⟨.bin .eql .no (.loc 1) (.loc 2), none, (some 21), true⟩])
 (.cond (.var 21) ((.seq (.ops [⟨.field 0 none (.var 20), none, none, true⟩, ⟨.upd 1 1 (.var 20) (.k (.int .i64 0)), none, (some 20), true⟩])
 (.ops [⟨.build [.int .i64 0, .int .i64 0] [], none, none, true⟩, ⟨.field 0 none (.var 20), none, none, true⟩, ⟨.upd 2 2 (.var 20) (.loc 0), none, (some 20), true⟩]))) (.skip))))
 ((.seq (.ops [⟨.move (.var 15), none, none, false⟩, ⟨.move (.var 18), none, none, false⟩, ⟨.indexAddr 4 (.loc 0) (.loc 1), none, none, false⟩, ⟨.load (some 4) (.loc 2), none, none, false⟩, ⟨.buildSlice 4 [.empty, .int .i64 0, .int .i64 0, .int .i64 0] [(0, 4, (.loc 3))] 1, none, none, false⟩, ⟨.field 0 (some 4) (.var 20), none, none, false⟩, ⟨.buildSlice 4 [.empty, .int .i64 0, .int .i64 0, .int .i64 0] [(0, 4, (.loc 5))] 1, none, none, false⟩, ⟨.callS nFEqualRings [(.loc 4), (.loc 6)], none, none, true⟩, ⟨.un .not (.loc 7), none, (some 22), true⟩])
 (.cond (.var 22) ((.seq (.ops [⟨.move (.k (.bool false)), none, (some 6), true⟩])
 (.ret))) (.skip)))))))))
 (.ops [⟨.move (.var 18), none, none, true⟩, ⟨.bin .add .no (.loc 0) (.k (.int .i64 1)), none, none, true⟩, ⟨.move (.loc 1), none, (some 18), true⟩])))))))))
 ((.seq (.ops [⟨.move (.k (.bool true)), none, (some 6), true⟩])
 (.ret)))))))))))))))))))))))⟩
theorem v_LRolloutAbortForgets {F : Nat → Option RFunc} {me nrollout_Run nLrolloutExample nFFault nFWithout nFEqualRings : Nat} (hF : F me = some (rf_LRolloutAbortForgets nrollout_Run nLrolloutExample nFFault nFWithout nFEqualRings)) {fl : Nat} {H : Heap} {Q : AV → Heap → Prop} (rings0 : Int) (base1 : Int) (base2 : Int) (need3 : Int) (perMille4 : Int) (events5 : AV) (version6 : Int)
  (h : ∀ (H7 : Heap), Dead1 H 1 H7 → ∀ (H8 : Heap), Dead1 H7 1 H8 → Ret F fl nrollout_Run [(.int .i64 rings0), (.agg [(.int .i64 base1), (.int .i64 base2)]), (.int .i64 need3), (.int .i64 perMille4), events5] H8 (fun v13 H12 => ∃ (r9 : AV) (r10 : Int) (r11 : Int), v13 = (.tuple [r9, (.agg [(.int .i64 r10), (.int .i64 r11)])]) ∧ ∀ (H14 : Heap), Dead1 H12 1 H14 → ∃ (a15 : AV) (H16 : Heap), appA fl false 5 40 H14 .empty events5 = some (a15, H16) ∧ ∀ (b17 : Nat) (H18 : Heap), NewB H16 5 [(.int .i64 4), (.int .i64 version6), (.int .i64 0), (.int .i64 0), (.int .i64 0)] b17 H18 → ∃ (a19 : AV) (H20 : Heap), appA fl true 5 40 H18 a15 (.slice b17 0 1 (some 1)) = some (a19, H20) ∧ Ret F fl nrollout_Run [(.int .i64 rings0), (.agg [(.int .i64 base1), (.int .i64 base2)]), (.int .i64 need3), (.int .i64 perMille4), a19] H20 (fun v25 H24 => ∃ (r21 : AV) (r22 : Int) (r23 : Int), v25 = (.tuple [r21, (.agg [(.int .i64 r22), (.int .i64 r23)])]) ∧ ∀ (H26 : Heap), Dead1 H24 1 H26 → ∀ (b27 : Nat) (H28 : Heap), NewB H26 5 [(.int .i64 4), (.int .i64 version6), (.int .i64 0), (.int .i64 0), (.int .i64 0)] b27 H28 → ∃ (a29 : AV) (H30 : Heap), appA fl false 5 40 H28 a19 (.slice b27 0 1 (some 1)) = some (a29, H30) ∧ Ret F H30.length nrollout_Run [(.int .i64 rings0), (.agg [(.int .i64 base1), (.int .i64 base2)]), (.int .i64 need3), (.int .i64 perMille4), a29] H30 (fun v35 H34 => ∃ (r31 : AV) (r32 : Int) (r33 : Int), v35 = (.tuple [r31, (.agg [(.int .i64 r32), (.int .i64 r33)])]) ∧ ∀ (H36 : Heap), Dead1 H34 1 H36 → Ret F fl nLrolloutExample [] H36 (fun v39 H38 => ∃ (r37 : Bool), v39 = (.bool r37) ∧ ((¬(r37 = true)) → Q (.bool false) H38) ∧ (¬(¬(r37 = true)) → ((((r10 ≠ 0) ∨ (r22 ≠ 0))) → Q (.bool true) H38) ∧ (¬(((r10 ≠ 0) ∨ (r22 ≠ 0))) → ∃ (R40 : Heap → Prop), (∃ len44 : Nat, lenA r9 = some len44 ∧ ∃ len45 : Nat, lenA r21 = some len45 ∧ (((len44 : Int) ≠ (len45 : Int)) → Q (.bool false) H38) ∧ (¬((len44 : Int) ≠ (len45 : Int)) → ∃ len46 : Nat, lenA a19 = some len46 ∧ (((len46 : Int) < 40) → ∃ len47 : Nat, lenA a19 = some len47 ∧ Ret F H38.length nFFault [(.int .i64 6), (.int .i64 (len47 : Int))] H38 (fun v51 H50 => ∃ (r48 : Int) (r49 : Int), v51 = (.agg [(.int .i64 r48), (.int .i64 r49)]) ∧ ((¬(((r32 = r48) ∧ (((r33 = r49) ∧ (True)))))) → Q (.bool false) H50) ∧ (¬(¬(((r32 = r48) ∧ (((r33 = r49) ∧ (True)))))) → R40 H50))) ∧ (¬((len46 : Int) < 40) → R40 H38))) ∧ (∀ (H43 : Heap), R40 H43 → ∃ (J52 : Nat → Int → Heap → Prop) (k53 : Nat), J52 k53 0 H43 ∧ (∀ (m54 : Nat) (i56 : Int) (H61 : Heap), J52 m54 i56 H61 → ∃ len62 : Nat, lenA r9 = some len62 ∧ ((i56 < (len62 : Int)) → ∃ (e63 : AV), getA H61 4 none r9 i56 0 = some e63 ∧ Ret F H61.length nFWithout [e63, (.int .i64 version6)] H61 (fun r65 H66 => ∃ (e68 : Int), getA H66 4 none r9 i56 1 = some (.int .i64 e68) ∧ ∃ (e70 : Int) (e71 : Int), getA H66 4 (some 2) r9 i56 2 = some (.agg [(.int .i64 e70), (.int .i64 e71)]) ∧ Scal r65 ∧ ∀ (H74 : Heap), Dead1 H66 1 H74 → ((e68 = version6) → ∃ (e75 : AV) (e76 : Int) (e77 : Int) (e78 : Int), getA H74 4 (some 4) r21 i56 0 = some (.agg [e75, (.int .i64 e76), (.int .i64 e77), (.int .i64 e78)]) ∧ ∀ (b80 : Nat) (H81 : Heap), NewB H74 4 [e75, (.int .i64 e76), (.int .i64 e77), (.int .i64 e78)] b80 H81 → ∀ (b82 : Nat) (H83 : Heap), NewB H81 4 [r65, (.int .i64 0), (.int .i64 0), (.int .i64 0)] b82 H83 → Ret F fl nFEqualRings [(.slice b80 0 1 (some 1)), (.slice b82 0 1 (some 1))] H83 (fun v86 H85 => ∃ (r84 : Bool), v86 = (.bool r84) ∧ ((¬(r84 = true)) → Q (.bool false) H85) ∧ (¬(¬(r84 = true)) → ∃ m87 : Nat, m87 < m54 ∧ J52 m87 (IntKind.wrap .i64 (i56 + 1)) H85))) ∧ (¬(e68 = version6) → ∃ (e88 : AV) (e89 : Int) (e90 : Int) (e91 : Int), getA H74 4 (some 4) r21 i56 0 = some (.agg [e88, (.int .i64 e89), (.int .i64 e90), (.int .i64 e91)]) ∧ ∀ (b93 : Nat) (H94 : Heap), NewB H74 4 [e88, (.int .i64 e89), (.int .i64 e90), (.int .i64 e91)] b93 H94 → ∀ (b95 : Nat) (H96 : Heap), NewB H94 4 [r65, (.int .i64 e68), (.int .i64 e70), (.int .i64 e71)] b95 H96 → Ret F fl nFEqualRings [(.slice b93 0 1 (some 1)), (.slice b95 0 1 (some 1))] H96 (fun v99 H98 => ∃ (r97 : Bool), v99 = (.bool r97) ∧ ((¬(r97 = true)) → Q (.bool false) H98) ∧ (¬(¬(r97 = true)) → ∃ m100 : Nat, m100 < m54 ∧ J52 m100 (IntKind.wrap .i64 (i56 + 1)) H98))))) ∧ (¬(i56 < (len62 : Int)) → Q (.bool true) H61)))))))))) : Ret F fl me [(.int .i64 rings0), (.agg [(.int .i64 base1), (.int .i64 base2)]), (.int .i64 need3), (.int .i64 perMille4), events5, (.int .i64 version6)] H Q := by
  refine ret_intro hF rfl ?_
  refine w_seq ?_
  refine w_run [1, 0] ?_
  obtain ⟨H7, hb⟩ : ∃ H', Dead1 H 1 H' := ⟨_, ⟨rfl⟩⟩
  replace h := h H7 hb
  refine t_tomb true 1 (.agg [(.int .i64 base1), (.int .i64 base2)]) [(.int .i64 base1), (.int .i64 base2)] H7 H (by kernel_rfl) rfl hb ?_
  refine t_done [(.int .i64 rings0), (.agg [(.int .i64 base1), (.int .i64 base2)]), (.int .i64 need3), (.int .i64 perMille4), events5, (.int .i64 version6), (.bool false), (.agg [(.int .i64 base1), (.int .i64 base2)]), .undef, .undef, .undef, .undef, .undef, .undef, .undef, .undef, .undef, .undef, .undef, .undef, .undef, .undef, .undef] H7 (by kernel_rfl) ?_
  refine then_norm ?_
  refine w_seq ?_
  refine w_run [0, 1, 1, 1] ?_
  refine t_build true [(.int .i64 0), (.int .i64 0), (.int .i64 0), (.int .i64 0), (.int .i64 0)] [(0, 1, .loc 0), (1, 1, .loc 1)] [(.int .i64 4), (.int .i64 version6)] [(.int .i64 4), (.int .i64 version6), (.int .i64 0), (.int .i64 0), (.int .i64 0)] H7 (by kernel_rfl) (fill_c (vs := [(.int .i64 4)]) (size := 1) rfl (by kernel_rfl) (by kernel_rfl) (fill_c (vs := [(.int .i64 version6)]) (size := 1) rfl (by kernel_rfl) (by kernel_rfl) (by kernel_rfl))) ?_
  obtain ⟨H8, hb⟩ : ∃ H', Dead1 H7 1 H' := ⟨_, ⟨rfl⟩⟩
  replace h := h H8 hb
  refine t_tomb true 1 (.agg [(.int .i64 0), (.int .i64 0), (.int .i64 0), (.int .i64 0), (.int .i64 0)]) [(.int .i64 0), (.int .i64 0), (.int .i64 0), (.int .i64 0), (.int .i64 0)] H8 H7 (by kernel_rfl) rfl hb ?_
  refine t_upd true 5 0 [(.int .i64 0), (.int .i64 0), (.int .i64 0), (.int .i64 0), (.int .i64 0)] (.agg [(.int .i64 4), (.int .i64 version6), (.int .i64 0), (.int .i64 0), (.int .i64 0)]) [(.int .i64 4), (.int .i64 version6), (.int .i64 0), (.int .i64 0), (.int .i64 0)] [(.int .i64 4), (.int .i64 version6), (.int .i64 0), (.int .i64 0), (.int .i64 0)] H8 (by kernel_rfl) rfl (all_c rfl (all_c rfl (all_c rfl (all_c rfl (all_c rfl all_n))))) ⟨rfl, Nat.le_of_ble_eq_true (by kernel_rfl), rfl⟩ ?_
  refine t_done [(.int .i64 rings0), (.agg [(.int .i64 base1), (.int .i64 base2)]), (.int .i64 need3), (.int .i64 perMille4), events5, (.int .i64 version6), (.bool false), (.agg [(.int .i64 base1), (.int .i64 base2)]), (.agg [(.int .i64 4), (.int .i64 version6), (.int .i64 0), (.int .i64 0), (.int .i64 0)]), .undef, .undef, .undef, .undef, .undef, .undef, .undef, .undef, .undef, .undef, .undef, .undef, .undef, .undef] H8 (by kernel_rfl) ?_
  refine then_norm ?_
  refine w_seq ?_
  refine w_run [0, 0, 0, 0, 0, 1, 0, 0, 0, 1, 0, 1] ?_
  refine t_call true nrollout_Run [(.int .i64 rings0), (.agg [(.int .i64 base1), (.int .i64 base2)]), (.int .i64 need3), (.int .i64 perMille4), events5] H8 (by kernel_rfl) h ?_
  clear h
  rintro _ H12 ⟨r9, r10, r11, rfl, h⟩
  obtain ⟨H14, hb⟩ : ∃ H', Dead1 H12 1 H' := ⟨_, ⟨rfl⟩⟩
  replace h := h H14 hb
  refine t_tomb true 1 (.agg [(.int .i64 0), (.int .i64 0)]) [(.int .i64 0), (.int .i64 0)] H14 H12 (by kernel_rfl) rfl hb ?_
  refine t_upd true 2 0 [(.int .i64 0), (.int .i64 0)] (.agg [(.int .i64 r10), (.int .i64 r11)]) [(.int .i64 r10), (.int .i64 r11)] [(.int .i64 r10), (.int .i64 r11)] H14 (by kernel_rfl) rfl (all_c rfl (all_c rfl all_n)) ⟨rfl, Nat.le_of_ble_eq_true (by kernel_rfl), rfl⟩ ?_
  refine t_done [(.int .i64 rings0), (.agg [(.int .i64 base1), (.int .i64 base2)]), (.int .i64 need3), (.int .i64 perMille4), events5, (.int .i64 version6), (.bool false), (.agg [(.int .i64 base1), (.int .i64 base2)]), (.agg [(.int .i64 4), (.int .i64 version6), (.int .i64 0), (.int .i64 0), (.int .i64 0)]), .undef, .undef, (.agg [(.int .i64 r10), (.int .i64 r11)]), .undef, .undef, r9, .undef, .undef, .undef, .undef, .undef, .undef, .undef, .undef] H14 (by kernel_rfl) ?_
  refine then_norm ?_
  refine w_seq ?_
  refine w_run [0, 1, 0, 1, 1, 0] ?_
  obtain ⟨a15, H16, ha, h⟩ := h
  refine t_app false 5 40 .empty events5 a15 H16 H14 (by kernel_rfl) ha ?_
  obtain ⟨b17, H18, hb⟩ : ∃ b H', NewB H16 5 [(.int .i64 4), (.int .i64 version6), (.int .i64 0), (.int .i64 0), (.int .i64 0)] b H' := ⟨_, _, rfl, rfl⟩
  replace h := h b17 H18 hb
  refine t_bs false 5 [(.int .i64 0), (.int .i64 0), (.int .i64 0), (.int .i64 0), (.int .i64 0)] [(0, 5, .loc 0)] 1 [(.agg [(.int .i64 4), (.int .i64 version6), (.int .i64 0), (.int .i64 0), (.int .i64 0)])] [(.int .i64 4), (.int .i64 version6), (.int .i64 0), (.int .i64 0), (.int .i64 0)] b17 H18 H16 (by kernel_rfl) (fill_c (vs := [(.int .i64 4), (.int .i64 version6), (.int .i64 0), (.int .i64 0), (.int .i64 0)]) (size := 5) rfl (by kernel_rfl) (by kernel_rfl) (by kernel_rfl)) hb ?_
  obtain ⟨a19, H20, ha, h⟩ := h
  refine t_app true 5 40 a15 (.slice b17 0 1 (some 1)) a19 H20 H18 (by kernel_rfl) ha ?_
  refine t_done [(.int .i64 rings0), (.agg [(.int .i64 base1), (.int .i64 base2)]), (.int .i64 need3), (.int .i64 perMille4), events5, (.int .i64 version6), (.bool false), (.agg [(.int .i64 base1), (.int .i64 base2)]), (.agg [(.int .i64 4), (.int .i64 version6), (.int .i64 0), (.int .i64 0), (.int .i64 0)]), a19, .undef, (.agg [(.int .i64 r10), (.int .i64 r11)]), .undef, .undef, r9, .undef, .undef, .undef, .undef, .undef, .undef, .undef, .undef] H20 (by kernel_rfl) ?_
  refine then_norm ?_
  refine w_seq ?_
  refine w_run [0, 0, 0, 0, 0, 1, 0, 0, 0, 1, 0, 1] ?_
  refine t_call true nrollout_Run [(.int .i64 rings0), (.agg [(.int .i64 base1), (.int .i64 base2)]), (.int .i64 need3), (.int .i64 perMille4), a19] H20 (by kernel_rfl) h ?_
  clear h
  rintro _ H24 ⟨r21, r22, r23, rfl, h⟩
  obtain ⟨H26, hb⟩ : ∃ H', Dead1 H24 1 H' := ⟨_, ⟨rfl⟩⟩
  replace h := h H26 hb
  refine t_tomb true 1 (.agg [(.int .i64 0), (.int .i64 0)]) [(.int .i64 0), (.int .i64 0)] H26 H24 (by kernel_rfl) rfl hb ?_
  refine t_upd true 2 0 [(.int .i64 0), (.int .i64 0)] (.agg [(.int .i64 r22), (.int .i64 r23)]) [(.int .i64 r22), (.int .i64 r23)] [(.int .i64 r22), (.int .i64 r23)] H26 (by kernel_rfl) rfl (all_c rfl (all_c rfl all_n)) ⟨rfl, Nat.le_of_ble_eq_true (by kernel_rfl), rfl⟩ ?_
  refine t_done [(.int .i64 rings0), (.agg [(.int .i64 base1), (.int .i64 base2)]), (.int .i64 need3), (.int .i64 perMille4), events5, (.int .i64 version6), (.bool false), (.agg [(.int .i64 base1), (.int .i64 base2)]), (.agg [(.int .i64 4), (.int .i64 version6), (.int .i64 0), (.int .i64 0), (.int .i64 0)]), a19, .undef, (.agg [(.int .i64 r10), (.int .i64 r11)]), (.agg [(.int .i64 r22), (.int .i64 r23)]), .undef, r9, r21, .undef, .undef, .undef, .undef, .undef, .undef, .undef] H26 (by kernel_rfl) ?_
  refine then_norm ?_
  refine w_seq ?_
  refine w_run [0, 0, 0, 0, 0, 0, 1, 1, 1, 0, 0, 0, 1, 0, 1] ?_
  obtain ⟨b27, H28, hb⟩ : ∃ b H', NewB H26 5 [(.int .i64 4), (.int .i64 version6), (.int .i64 0), (.int .i64 0), (.int .i64 0)] b H' := ⟨_, _, rfl, rfl⟩
  replace h := h b27 H28 hb
  refine t_bs false 5 [(.int .i64 0), (.int .i64 0), (.int .i64 0), (.int .i64 0), (.int .i64 0)] [(0, 5, .loc 0)] 1 [(.agg [(.int .i64 4), (.int .i64 version6), (.int .i64 0), (.int .i64 0), (.int .i64 0)])] [(.int .i64 4), (.int .i64 version6), (.int .i64 0), (.int .i64 0), (.int .i64 0)] b27 H28 H26 (by kernel_rfl) (fill_c (vs := [(.int .i64 4), (.int .i64 version6), (.int .i64 0), (.int .i64 0), (.int .i64 0)]) (size := 5) rfl (by kernel_rfl) (by kernel_rfl) (by kernel_rfl)) hb ?_
  obtain ⟨a29, H30, ha, h⟩ := h
  refine t_app false 5 40 a19 (.slice b27 0 1 (some 1)) a29 H30 H28 (by kernel_rfl) ha ?_
  refine t_call false nrollout_Run [(.int .i64 rings0), (.agg [(.int .i64 base1), (.int .i64 base2)]), (.int .i64 need3), (.int .i64 perMille4), a29] H30 (by kernel_rfl) h ?_
  clear h
  rintro _ H34 ⟨r31, r32, r33, rfl, h⟩
  obtain ⟨H36, hb⟩ : ∃ H', Dead1 H34 1 H' := ⟨_, ⟨rfl⟩⟩
  replace h := h H36 hb
  refine t_tomb false 1 (.agg [(.int .i64 0), (.int .i64 0)]) [(.int .i64 0), (.int .i64 0)] H36 H34 (by kernel_rfl) rfl hb ?_
  refine t_upd true 2 0 [(.int .i64 0), (.int .i64 0)] (.agg [(.int .i64 r32), (.int .i64 r33)]) [(.int .i64 r32), (.int .i64 r33)] [(.int .i64 r32), (.int .i64 r33)] H36 (by kernel_rfl) rfl (all_c rfl (all_c rfl all_n)) ⟨rfl, Nat.le_of_ble_eq_true (by kernel_rfl), rfl⟩ ?_
  refine t_done [(.int .i64 rings0), (.agg [(.int .i64 base1), (.int .i64 base2)]), (.int .i64 need3), (.int .i64 perMille4), events5, (.int .i64 version6), (.bool false), (.agg [(.int .i64 base1), (.int .i64 base2)]), (.agg [(.int .i64 4), (.int .i64 version6), (.int .i64 0), (.int .i64 0), (.int .i64 0)]), a19, .undef, (.agg [(.int .i64 r10), (.int .i64 r11)]), (.agg [(.int .i64 r22), (.int .i64 r23)]), .undef, r9, r21, (.agg [(.int .i64 r32), (.int .i64 r33)]), .undef, .undef, .undef, .undef, .undef, .undef] H36 (by kernel_rfl) ?_
  refine then_norm ?_
  refine w_seq ?_
  refine w_seq ?_
  refine w_run [1, 0] ?_
  refine t_call true nLrolloutExample [] H36 (by kernel_rfl) h ?_
  clear h
  rintro _ H38 ⟨r37, rfl, h⟩
  refine t_done [(.int .i64 rings0), (.agg [(.int .i64 base1), (.int .i64 base2)]), (.int .i64 need3), (.int .i64 perMille4), events5, (.int .i64 version6), (.bool false), (.agg [(.int .i64 base1), (.int .i64 base2)]), (.agg [(.int .i64 4), (.int .i64 version6), (.int .i64 0), (.int .i64 0), (.int .i64 0)]), a19, (.bool (!r37)), (.agg [(.int .i64 r10), (.int .i64 r11)]), (.agg [(.int .i64 r22), (.int .i64 r23)]), .undef, r9, r21, (.agg [(.int .i64 r32), (.int .i64 r33)]), .undef, .undef, .undef, .undef, .undef, .undef] H38 (by kernel_rfl) ?_
  refine then_norm ?_
  refine w_cond (t := (!r37)) rfl (fun hc => ?_) (fun hc => ?_)
  · replace h := h.1 ((is_not is_raw).t hc)
    refine w_seq ?_
    refine w_run [0] ?_
    refine t_done [(.int .i64 rings0), (.agg [(.int .i64 base1), (.int .i64 base2)]), (.int .i64 need3), (.int .i64 perMille4), events5, (.int .i64 version6), (.bool false), (.agg [(.int .i64 base1), (.int .i64 base2)]), (.agg [(.int .i64 4), (.int .i64 version6), (.int .i64 0), (.int .i64 0), (.int .i64 0)]), a19, (.bool (!r37)), (.agg [(.int .i64 r10), (.int .i64 r11)]), (.agg [(.int .i64 r22), (.int .i64 r23)]), .undef, r9, r21, (.agg [(.int .i64 r32), (.int .i64 r33)]), .undef, .undef, .undef, .undef, .undef, .undef] H38 (by kernel_rfl) ?_
    refine then_norm ?_
    refine w_ret ?_
    refine then_ret ?_
    exact body_ret (vs := [(.bool false)]) _ (by kernel_rfl) rfl h
  · replace h := h.2 ((is_not is_raw).f hc)
    refine w_skip ?_
    refine then_norm ?_
    refine w_seq ?_
    refine w_seq ?_
    refine w_run [0, 0, 0, 0, 0, 0, 0, 0] ?_
    refine t_done [(.int .i64 rings0), (.agg [(.int .i64 base1), (.int .i64 base2)]), (.int .i64 need3), (.int .i64 perMille4), events5, (.int .i64 version6), (.bool false), (.agg [(.int .i64 base1), (.int .i64 base2)]), (.agg [(.int .i64 4), (.int .i64 version6), (.int .i64 0), (.int .i64 0), (.int .i64 0)]), a19, (.bool (!r37)), (.agg [(.int .i64 r10), (.int .i64 r11)]), (.agg [(.int .i64 r22), (.int .i64 r23)]), (.bool (((r10) != 0) || ((r22) != 0))), r9, r21, (.agg [(.int .i64 r32), (.int .i64 r33)]), .undef, .undef, .undef, .undef, .undef, .undef] H38 (by kernel_rfl) ?_
    refine then_norm ?_
    refine w_cond (t := (((r10) != 0) || ((r22) != 0))) rfl (fun hc => ?_) (fun hc => ?_)
    · replace h := h.1 ((is_or is_ne is_ne).t hc)
      refine w_seq ?_
      refine w_run [0] ?_
      refine t_done [(.int .i64 rings0), (.agg [(.int .i64 base1), (.int .i64 base2)]), (.int .i64 need3), (.int .i64 perMille4), events5, (.int .i64 version6), (.bool true), (.agg [(.int .i64 base1), (.int .i64 base2)]), (.agg [(.int .i64 4), (.int .i64 version6), (.int .i64 0), (.int .i64 0), (.int .i64 0)]), a19, (.bool (!r37)), (.agg [(.int .i64 r10), (.int .i64 r11)]), (.agg [(.int .i64 r22), (.int .i64 r23)]), (.bool (((r10) != 0) || ((r22) != 0))), r9, r21, (.agg [(.int .i64 r32), (.int .i64 r33)]), .undef, .undef, .undef, .undef, .undef, .undef] H38 (by kernel_rfl) ?_
      refine then_norm ?_
      refine w_ret ?_
      refine then_ret ?_
      exact body_ret (vs := [(.bool true)]) _ (by kernel_rfl) rfl h
    · replace h := h.2 ((is_or is_ne is_ne).f hc)
      refine w_skip ?_
      refine then_norm ?_
      refine w_seq ?_
      obtain ⟨R40, h, hK⟩ := h
      refine w_join (fun EI HI => ∃ (d41 : AV) (d42 : AV), EI = [(.int .i64 rings0), (.agg [(.int .i64 base1), (.int .i64 base2)]), (.int .i64 need3), (.int .i64 perMille4), events5, (.int .i64 version6), d41, (.agg [(.int .i64 base1), (.int .i64 base2)]), (.agg [(.int .i64 4), (.int .i64 version6), (.int .i64 0), (.int .i64 0), (.int .i64 0)]), a19, (.bool (!r37)), (.agg [(.int .i64 r10), (.int .i64 r11)]), (.agg [(.int .i64 r22), (.int .i64 r23)]), (.bool (((r10) != 0) || ((r22) != 0))), r9, r21, (.agg [(.int .i64 r32), (.int .i64 r33)]), d42, .undef, .undef, .undef, .undef, .undef] ∧ R40  HI) ?_ ?_
      · clear hK
        refine w_seq ?_
        refine w_run [0, 1, 0, 1, 0, 0, 2, 3, 2, 2, 2, 2, 3, 3, 2, 2, 0] ?_
        obtain ⟨len44, hl, h⟩ := h
        refine t_len true r9 len44 H38 (by kernel_rfl) hl ?_
        obtain ⟨len45, hl, h⟩ := h
        refine t_len true r21 len45 H38 (by kernel_rfl) hl ?_
        refine t_gd (((len44 : Int)) != (len45 : Int)) false (by kernel_rfl) (fun hc => ?_) (fun hc => ?_)
        · replace h := h.2 (is_ne.f hc)
          refine t_gd false false (by kernel_rfl) (fun _ => ?_) (fun hn => by cases hn)
          obtain ⟨len46, hl, h⟩ := h
          refine t_len true a19 len46 H38 (by kernel_rfl) hl ?_
          refine t_gd false false (by kernel_rfl) (fun _ => ?_) (fun hn => by cases hn)
          refine t_gd false false (by kernel_rfl) (fun _ => ?_) (fun hn => by cases hn)
          refine t_gd (decide ((len46 : Int) < 40)) true (by kernel_rfl) (fun hc => ?_) (fun hc => ?_)
          · replace h := h.1 (is_dec.t hc)
            refine t_gd true true (by kernel_rfl) (fun _ => ?_) (fun hn => by cases hn)
            refine t_gd true true (by kernel_rfl) (fun _ => ?_) (fun hn => by cases hn)
            obtain ⟨len47, hl, h⟩ := h
            refine t_len false a19 len47 H38 (by kernel_rfl) hl ?_
            refine t_gd true true (by kernel_rfl) (fun _ => ?_) (fun hn => by cases hn)
            refine t_call false nFFault [(.int .i64 6), (.int .i64 (len47 : Int))] H38 (by kernel_rfl) h ?_
            clear h
            rintro _ H50 ⟨r48, r49, rfl, h⟩
            refine t_gd true true (by kernel_rfl) (fun _ => ?_) (fun hn => by cases hn)
            refine t_gd false false (by kernel_rfl) (fun _ => ?_) (fun hn => by cases hn)
            refine t_done [(.int .i64 rings0), (.agg [(.int .i64 base1), (.int .i64 base2)]), (.int .i64 need3), (.int .i64 perMille4), events5, (.int .i64 version6), (.bool false), (.agg [(.int .i64 base1), (.int .i64 base2)]), (.agg [(.int .i64 4), (.int .i64 version6), (.int .i64 0), (.int .i64 0), (.int .i64 0)]), a19, (.bool (!r37)), (.agg [(.int .i64 r10), (.int .i64 r11)]), (.agg [(.int .i64 r22), (.int .i64 r23)]), (.bool (((r10) != 0) || ((r22) != 0))), r9, r21, (.agg [(.int .i64 r32), (.int .i64 r33)]), (.bool (!(((r32) == r48) && (((r33) == r49) && true)))), .undef, .undef, .undef, .undef, .undef] H50 (by kernel_rfl) ?_
            refine then_norm ?_
            refine w_cond (t := (!(((r32) == r48) && (((r33) == r49) && true)))) rfl (fun hc => ?_) (fun hc => ?_)
            · replace h := h.1 ((is_not (is_and is_eq (is_and is_eq is_true))).t hc)
              refine w_seq ?_
              refine w_run [0] ?_
              refine t_done [(.int .i64 rings0), (.agg [(.int .i64 base1), (.int .i64 base2)]), (.int .i64 need3), (.int .i64 perMille4), events5, (.int .i64 version6), (.bool false), (.agg [(.int .i64 base1), (.int .i64 base2)]), (.agg [(.int .i64 4), (.int .i64 version6), (.int .i64 0), (.int .i64 0), (.int .i64 0)]), a19, (.bool (!r37)), (.agg [(.int .i64 r10), (.int .i64 r11)]), (.agg [(.int .i64 r22), (.int .i64 r23)]), (.bool (((r10) != 0) || ((r22) != 0))), r9, r21, (.agg [(.int .i64 r32), (.int .i64 r33)]), (.bool (!(((r32) == r48) && (((r33) == r49) && true)))), .undef, .undef, .undef, .undef, .undef] H50 (by kernel_rfl) ?_
              refine then_norm ?_
              refine w_ret ?_
              refine join_ret ?_
              refine then_ret ?_
              exact body_ret (vs := [(.bool false)]) _ (by kernel_rfl) rfl h
            · replace h := h.2 ((is_not (is_and is_eq (is_and is_eq is_true))).f hc)
              refine w_skip ?_
              refine join_norm ⟨_, _, rfl, h⟩
          · replace h := h.2 (is_dec.f hc)
            refine t_gd false true (by kernel_rfl) (fun hn => by cases hn) (fun _ => ?_)
            refine t_gd false true (by kernel_rfl) (fun hn => by cases hn) (fun _ => ?_)
            refine t_gd false true (by kernel_rfl) (fun hn => by cases hn) (fun _ => ?_)
            refine t_gd false true (by kernel_rfl) (fun hn => by cases hn) (fun _ => ?_)
            refine t_gd false false (by kernel_rfl) (fun _ => ?_) (fun hn => by cases hn)
            refine t_done [(.int .i64 rings0), (.agg [(.int .i64 base1), (.int .i64 base2)]), (.int .i64 need3), (.int .i64 perMille4), events5, (.int .i64 version6), (.bool false), (.agg [(.int .i64 base1), (.int .i64 base2)]), (.agg [(.int .i64 4), (.int .i64 version6), (.int .i64 0), (.int .i64 0), (.int .i64 0)]), a19, (.bool (!r37)), (.agg [(.int .i64 r10), (.int .i64 r11)]), (.agg [(.int .i64 r22), (.int .i64 r23)]), (.bool (((r10) != 0) || ((r22) != 0))), r9, r21, (.agg [(.int .i64 r32), (.int .i64 r33)]), (.bool false), .undef, .undef, .undef, .undef, .undef] H38 (by kernel_rfl) ?_
            refine then_norm ?_
            refine w_cond (t := false) rfl (fun hc => by cases hc) (fun _ => ?_)
            refine w_skip ?_
            refine join_norm ⟨_, _, rfl, h⟩
        · replace h := h.1 (is_ne.t hc)
          refine t_gd true false (by kernel_rfl) (fun hn => by cases hn) (fun _ => ?_)
          refine t_gd true false (by kernel_rfl) (fun hn => by cases hn) (fun _ => ?_)
          refine t_gd true false (by kernel_rfl) (fun hn => by cases hn) (fun _ => ?_)
          refine t_gdU true (by kernel_rfl) ?_
          refine t_gdU true (by kernel_rfl) ?_
          refine t_gdU true (by kernel_rfl) ?_
          refine t_gdU true (by kernel_rfl) ?_
          refine t_gdU true (by kernel_rfl) ?_
          refine t_gd true false (by kernel_rfl) (fun hn => by cases hn) (fun _ => ?_)
          refine t_done [(.int .i64 rings0), (.agg [(.int .i64 base1), (.int .i64 base2)]), (.int .i64 need3), (.int .i64 perMille4), events5, (.int .i64 version6), (.bool false), (.agg [(.int .i64 base1), (.int .i64 base2)]), (.agg [(.int .i64 4), (.int .i64 version6), (.int .i64 0), (.int .i64 0), (.int .i64 0)]), a19, (.bool (!r37)), (.agg [(.int .i64 r10), (.int .i64 r11)]), (.agg [(.int .i64 r22), (.int .i64 r23)]), (.bool (((r10) != 0) || ((r22) != 0))), r9, r21, (.agg [(.int .i64 r32), (.int .i64 r33)]), (.bool true), .undef, .undef, .undef, .undef, .undef] H38 (by kernel_rfl) ?_
          refine then_norm ?_
          refine w_cond (t := true) rfl (fun _ => ?_) (fun hc => by cases hc)
          refine w_seq ?_
          refine w_run [0] ?_
          refine t_done [(.int .i64 rings0), (.agg [(.int .i64 base1), (.int .i64 base2)]), (.int .i64 need3), (.int .i64 perMille4), events5, (.int .i64 version6), (.bool false), (.agg [(.int .i64 base1), (.int .i64 base2)]), (.agg [(.int .i64 4), (.int .i64 version6), (.int .i64 0), (.int .i64 0), (.int .i64 0)]), a19, (.bool (!r37)), (.agg [(.int .i64 r10), (.int .i64 r11)]), (.agg [(.int .i64 r22), (.int .i64 r23)]), (.bool (((r10) != 0) || ((r22) != 0))), r9, r21, (.agg [(.int .i64 r32), (.int .i64 r33)]), (.bool true), .undef, .undef, .undef, .undef, .undef] H38 (by kernel_rfl) ?_
          refine then_norm ?_
          refine w_ret ?_
          refine join_ret ?_
          refine then_ret ?_
          exact body_ret (vs := [(.bool false)]) _ (by kernel_rfl) rfl h
      · clear h
        rintro EI H43 ⟨d41, d42, rfl, hJ⟩
        have h := hK H43 hJ
        clear hJ hK
        refine then_norm ?_
        refine w_seq ?_
        refine w_seq ?_
        refine w_run [0] ?_
        refine t_done [(.int .i64 rings0), (.agg [(.int .i64 base1), (.int .i64 base2)]), (.int .i64 need3), (.int .i64 perMille4), events5, (.int .i64 version6), d41, (.agg [(.int .i64 base1), (.int .i64 base2)]), (.agg [(.int .i64 4), (.int .i64 version6), (.int .i64 0), (.int .i64 0), (.int .i64 0)]), a19, (.bool (!r37)), (.agg [(.int .i64 r10), (.int .i64 r11)]), (.agg [(.int .i64 r22), (.int .i64 r23)]), (.bool (((r10) != 0) || ((r22) != 0))), r9, r21, (.agg [(.int .i64 r32), (.int .i64 r33)]), d42, (.int .i64 0), .undef, .undef, .undef, .undef] H43 (by kernel_rfl) ?_
        refine then_norm ?_
        refine w_block ?_
        obtain ⟨J52, k53, h0, h⟩ := h
        refine w_loop (I := fun mI EI HI => ∃ (d55 : AV) (i56 : Int) (d57 : AV) (d58 : AV) (d59 : AV) (d60 : AV), EI = [(.int .i64 rings0), (.agg [(.int .i64 base1), (.int .i64 base2)]), (.int .i64 need3), (.int .i64 perMille4), events5, (.int .i64 version6), d55, (.agg [(.int .i64 base1), (.int .i64 base2)]), (.agg [(.int .i64 4), (.int .i64 version6), (.int .i64 0), (.int .i64 0), (.int .i64 0)]), a19, (.bool (!r37)), (.agg [(.int .i64 r10), (.int .i64 r11)]), (.agg [(.int .i64 r22), (.int .i64 r23)]), (.bool (((r10) != 0) || ((r22) != 0))), r9, r21, (.agg [(.int .i64 r32), (.int .i64 r33)]), d42, (.int .i64 i56), d57, d58, d59, d60] ∧ J52 mI i56 HI) ?_ k53 ⟨_, _, _, _, _, _, rfl, h0⟩
        clear h0
        rintro m54 EI H61 ⟨d55, i56, d57, d58, d59, d60, rfl, hJ⟩
        replace h := h m54 i56 H61 hJ
        clear hJ
        refine w_seq ?_
        refine w_seq ?_
        refine w_run [0, 0, 1, 0] ?_
        obtain ⟨len62, hl, h⟩ := h
        refine t_len true r9 len62 H61 (by kernel_rfl) hl ?_
        refine t_done [(.int .i64 rings0), (.agg [(.int .i64 base1), (.int .i64 base2)]), (.int .i64 need3), (.int .i64 perMille4), events5, (.int .i64 version6), d55, (.agg [(.int .i64 base1), (.int .i64 base2)]), (.agg [(.int .i64 4), (.int .i64 version6), (.int .i64 0), (.int .i64 0), (.int .i64 0)]), a19, (.bool (!r37)), (.agg [(.int .i64 r10), (.int .i64 r11)]), (.agg [(.int .i64 r22), (.int .i64 r23)]), (.bool (((r10) != 0) || ((r22) != 0))), r9, r21, (.agg [(.int .i64 r32), (.int .i64 r33)]), d42, (.int .i64 i56), (.bool (decide (i56 < (len62 : Int)))), d58, d59, d60] H61 (by kernel_rfl) ?_
        refine then_norm ?_
        refine w_cond (t := (decide (i56 < (len62 : Int)))) rfl (fun hc => ?_) (fun hc => ?_)
        · replace h := h.1 (is_dec.t hc)
          refine w_skip ?_
          refine then_norm ?_
          refine w_seq ?_
          refine w_block ?_
          refine w_seq ?_
          refine w_run [0, 0, 1, 1, 1, 0, 1, 0, 0, 1, 1, 1, 0, 0, 1, 1, 1, 1, 1, 1] ?_
          obtain ⟨e63, hg64, h⟩ := h
          refine t_idxG false 4 r9 .i64 i56 H61 (by kernel_rfl) hg64 ?_
          refine t_fldG false 0 4 r9 i56 0 H61 (by kernel_rfl) hg64 ?_
          refine t_loadG false none 4 r9 i56 0 e63 H61 (by kernel_rfl) hg64 ?_
          refine t_call false nFWithout [e63, (.int .i64 version6)] H61 (by kernel_rfl) h ?_
          clear h
          rintro r65 H66 h
          obtain ⟨e68, hg69, h⟩ := h
          refine t_idxG false 4 r9 .i64 i56 H66 (by kernel_rfl) hg69 ?_
          refine t_fldG false 1 4 r9 i56 0 H66 (by kernel_rfl) hg69 ?_
          refine t_loadG false none 4 r9 i56 1 (.int .i64 e68) H66 (by kernel_rfl) hg69 ?_
          obtain ⟨e70, e71, hg72, h⟩ := h
          refine t_idxG false 4 r9 .i64 i56 H66 (by kernel_rfl) hg72 ?_
          refine t_fldG false 2 4 r9 i56 0 H66 (by kernel_rfl) hg72 ?_
          refine t_loadG false (some 2) 4 r9 i56 2 (.agg [(.int .i64 e70), (.int .i64 e71)]) H66 (by kernel_rfl) hg72 ?_
          obtain ⟨hs73, h⟩ := h
          refine t_build false [.empty, (.int .i64 0), (.int .i64 0), (.int .i64 0)] [(0, 1, .loc 0), (1, 1, .loc 1), (2, 2, .loc 2)] [r65, (.int .i64 e68), (.agg [(.int .i64 e70), (.int .i64 e71)])] [r65, (.int .i64 e68), (.int .i64 e70), (.int .i64 e71)] H66 (by kernel_rfl) (fill_c (vs := [r65]) (size := 1) hs73.1 (by kernel_rfl) (by kernel_rfl) (fill_c (vs := [(.int .i64 e68)]) (size := 1) rfl (by kernel_rfl) (by kernel_rfl) (fill_c (vs := [(.int .i64 e70), (.int .i64 e71)]) (size := 2) rfl (by kernel_rfl) (by kernel_rfl) (by kernel_rfl)))) ?_
          obtain ⟨H74, hb⟩ : ∃ H', Dead1 H66 1 H' := ⟨_, ⟨rfl⟩⟩
          replace h := h H74 hb
          refine t_tomb false 1 (.agg [.empty, (.int .i64 0), (.int .i64 0), (.int .i64 0)]) [.empty, (.int .i64 0), (.int .i64 0), (.int .i64 0)] H74 H66 (by kernel_rfl) rfl hb ?_
          refine t_upd true 4 0 [.empty, (.int .i64 0), (.int .i64 0), (.int .i64 0)] (.agg [r65, (.int .i64 e68), (.int .i64 e70), (.int .i64 e71)]) [r65, (.int .i64 e68), (.int .i64 e70), (.int .i64 e71)] [r65, (.int .i64 e68), (.int .i64 e70), (.int .i64 e71)] H74 (by kernel_rfl) rfl (all_c hs73.2 (all_c rfl (all_c rfl (all_c rfl all_n)))) ⟨rfl, Nat.le_of_ble_eq_true (by kernel_rfl), rfl⟩ ?_
          refine t_done [(.int .i64 rings0), (.agg [(.int .i64 base1), (.int .i64 base2)]), (.int .i64 need3), (.int .i64 perMille4), events5, (.int .i64 version6), d55, (.agg [(.int .i64 base1), (.int .i64 base2)]), (.agg [(.int .i64 4), (.int .i64 version6), (.int .i64 0), (.int .i64 0), (.int .i64 0)]), a19, (.bool (!r37)), (.agg [(.int .i64 r10), (.int .i64 r11)]), (.agg [(.int .i64 r22), (.int .i64 r23)]), (.bool (((r10) != 0) || ((r22) != 0))), r9, r21, (.agg [(.int .i64 r32), (.int .i64 r33)]), d42, (.int .i64 i56), (.bool (decide (i56 < (len62 : Int)))), (.agg [r65, (.int .i64 e68), (.int .i64 e70), (.int .i64 e71)]), d59, d60] H74 (by kernel_rfl) ?_
          refine then_norm ?_
          refine w_seq ?_
          refine w_seq ?_
          refine w_run [0, 0, 0, 0] ?_
          refine t_done [(.int .i64 rings0), (.agg [(.int .i64 base1), (.int .i64 base2)]), (.int .i64 need3), (.int .i64 perMille4), events5, (.int .i64 version6), d55, (.agg [(.int .i64 base1), (.int .i64 base2)]), (.agg [(.int .i64 4), (.int .i64 version6), (.int .i64 0), (.int .i64 0), (.int .i64 0)]), a19, (.bool (!r37)), (.agg [(.int .i64 r10), (.int .i64 r11)]), (.agg [(.int .i64 r22), (.int .i64 r23)]), (.bool (((r10) != 0) || ((r22) != 0))), r9, r21, (.agg [(.int .i64 r32), (.int .i64 r33)]), d42, (.int .i64 i56), (.bool (decide (i56 < (len62 : Int)))), (.agg [r65, (.int .i64 e68), (.int .i64 e70), (.int .i64 e71)]), (.bool ((e68) == version6)), d60] H74 (by kernel_rfl) ?_
          refine then_norm ?_
          refine w_cond (t := ((e68) == version6)) rfl (fun hc => ?_) (fun hc => ?_)
          · replace h := h.1 (is_eq.t hc)
            refine w_seq ?_
            refine w_run [0, 1] ?_
            refine t_upd true 1 1 [r65, (.int .i64 e68), (.int .i64 e70), (.int .i64 e71)] (.int .i64 0) [(.int .i64 0)] [r65, (.int .i64 0), (.int .i64 e70), (.int .i64 e71)] H74 (by kernel_rfl) rfl (all_c rfl all_n) ⟨rfl, Nat.le_of_ble_eq_true (by kernel_rfl), rfl⟩ ?_
            refine t_done [(.int .i64 rings0), (.agg [(.int .i64 base1), (.int .i64 base2)]), (.int .i64 need3), (.int .i64 perMille4), events5, (.int .i64 version6), d55, (.agg [(.int .i64 base1), (.int .i64 base2)]), (.agg [(.int .i64 4), (.int .i64 version6), (.int .i64 0), (.int .i64 0), (.int .i64 0)]), a19, (.bool (!r37)), (.agg [(.int .i64 r10), (.int .i64 r11)]), (.agg [(.int .i64 r22), (.int .i64 r23)]), (.bool (((r10) != 0) || ((r22) != 0))), r9, r21, (.agg [(.int .i64 r32), (.int .i64 r33)]), d42, (.int .i64 i56), (.bool (decide (i56 < (len62 : Int)))), (.agg [r65, (.int .i64 0), (.int .i64 e70), (.int .i64 e71)]), (.bool ((e68) == version6)), d60] H74 (by kernel_rfl) ?_
            refine then_norm ?_
            refine w_run [1, 0, 1] ?_
            refine t_build true [(.int .i64 0), (.int .i64 0)] [] [] [(.int .i64 0), (.int .i64 0)] H74 (by kernel_rfl) (by kernel_rfl) ?_
            refine t_upd true 2 2 [r65, (.int .i64 0), (.int .i64 e70), (.int .i64 e71)] (.agg [(.int .i64 0), (.int .i64 0)]) [(.int .i64 0), (.int .i64 0)] [r65, (.int .i64 0), (.int .i64 0), (.int .i64 0)] H74 (by kernel_rfl) rfl (all_c rfl (all_c rfl all_n)) ⟨rfl, Nat.le_of_ble_eq_true (by kernel_rfl), rfl⟩ ?_
            refine t_done [(.int .i64 rings0), (.agg [(.int .i64 base1), (.int .i64 base2)]), (.int .i64 need3), (.int .i64 perMille4), events5, (.int .i64 version6), d55, (.agg [(.int .i64 base1), (.int .i64 base2)]), (.agg [(.int .i64 4), (.int .i64 version6), (.int .i64 0), (.int .i64 0), (.int .i64 0)]), a19, (.bool (!r37)), (.agg [(.int .i64 r10), (.int .i64 r11)]), (.agg [(.int .i64 r22), (.int .i64 r23)]), (.bool (((r10) != 0) || ((r22) != 0))), r9, r21, (.agg [(.int .i64 r32), (.int .i64 r33)]), d42, (.int .i64 i56), (.bool (decide (i56 < (len62 : Int)))), (.agg [r65, (.int .i64 0), (.int .i64 0), (.int .i64 0)]), (.bool ((e68) == version6)), d60] H74 (by kernel_rfl) ?_
            refine then_norm ?_
            refine w_seq ?_
            refine w_run [0, 0, 1, 1, 1, 0, 1, 1, 0] ?_
            obtain ⟨e75, e76, e77, e78, hg79, h⟩ := h
            refine t_idxG false 4 r21 .i64 i56 H74 (by kernel_rfl) hg79 ?_
            refine t_loadG false (some 4) 4 r21 i56 0 (.agg [e75, (.int .i64 e76), (.int .i64 e77), (.int .i64 e78)]) H74 (by kernel_rfl) hg79 ?_
            obtain ⟨b80, H81, hb⟩ : ∃ b H', NewB H74 4 [e75, (.int .i64 e76), (.int .i64 e77), (.int .i64 e78)] b H' := ⟨_, _, rfl, rfl⟩
            replace h := h b80 H81 hb
            refine t_bs false 4 [.empty, (.int .i64 0), (.int .i64 0), (.int .i64 0)] [(0, 4, .loc 0)] 1 [(.agg [e75, (.int .i64 e76), (.int .i64 e77), (.int .i64 e78)])] [e75, (.int .i64 e76), (.int .i64 e77), (.int .i64 e78)] b80 H81 H74 (by kernel_rfl) (fill_c (vs := [e75, (.int .i64 e76), (.int .i64 e77), (.int .i64 e78)]) (size := 4) rfl (by kernel_rfl) (by kernel_rfl) (by kernel_rfl)) hb ?_
            obtain ⟨b82, H83, hb⟩ : ∃ b H', NewB H81 4 [r65, (.int .i64 0), (.int .i64 0), (.int .i64 0)] b H' := ⟨_, _, rfl, rfl⟩
            replace h := h b82 H83 hb
            refine t_bs false 4 [.empty, (.int .i64 0), (.int .i64 0), (.int .i64 0)] [(0, 4, .loc 0)] 1 [(.agg [r65, (.int .i64 0), (.int .i64 0), (.int .i64 0)])] [r65, (.int .i64 0), (.int .i64 0), (.int .i64 0)] b82 H83 H81 (by kernel_rfl) (fill_c (vs := [r65, (.int .i64 0), (.int .i64 0), (.int .i64 0)]) (size := 4) rfl (by kernel_rfl) (by kernel_rfl) (by kernel_rfl)) hb ?_
            refine t_call true nFEqualRings [(.slice b80 0 1 (some 1)), (.slice b82 0 1 (some 1))] H83 (by kernel_rfl) h ?_
            clear h
            rintro _ H85 ⟨r84, rfl, h⟩
            refine t_done [(.int .i64 rings0), (.agg [(.int .i64 base1), (.int .i64 base2)]), (.int .i64 need3), (.int .i64 perMille4), events5, (.int .i64 version6), d55, (.agg [(.int .i64 base1), (.int .i64 base2)]), (.agg [(.int .i64 4), (.int .i64 version6), (.int .i64 0), (.int .i64 0), (.int .i64 0)]), a19, (.bool (!r37)), (.agg [(.int .i64 r10), (.int .i64 r11)]), (.agg [(.int .i64 r22), (.int .i64 r23)]), (.bool (((r10) != 0) || ((r22) != 0))), r9, r21, (.agg [(.int .i64 r32), (.int .i64 r33)]), d42, (.int .i64 i56), (.bool (decide (i56 < (len62 : Int)))), (.agg [r65, (.int .i64 0), (.int .i64 0), (.int .i64 0)]), (.bool ((e68) == version6)), (.bool (!r84))] H85 (by kernel_rfl) ?_
            refine then_norm ?_
            refine w_cond (t := (!r84)) rfl (fun hc => ?_) (fun hc => ?_)
            · replace h := h.1 ((is_not is_raw).t hc)
              refine w_seq ?_
              refine w_run [0] ?_
              refine t_done [(.int .i64 rings0), (.agg [(.int .i64 base1), (.int .i64 base2)]), (.int .i64 need3), (.int .i64 perMille4), events5, (.int .i64 version6), (.bool false), (.agg [(.int .i64 base1), (.int .i64 base2)]), (.agg [(.int .i64 4), (.int .i64 version6), (.int .i64 0), (.int .i64 0), (.int .i64 0)]), a19, (.bool (!r37)), (.agg [(.int .i64 r10), (.int .i64 r11)]), (.agg [(.int .i64 r22), (.int .i64 r23)]), (.bool (((r10) != 0) || ((r22) != 0))), r9, r21, (.agg [(.int .i64 r32), (.int .i64 r33)]), d42, (.int .i64 i56), (.bool (decide (i56 < (len62 : Int)))), (.agg [r65, (.int .i64 0), (.int .i64 0), (.int .i64 0)]), (.bool ((e68) == version6)), (.bool (!r84))] H85 (by kernel_rfl) ?_
              refine then_norm ?_
              refine w_ret ?_
              refine block_ret ?_
              refine then_ret ?_
              refine loop_ret ?_
              refine block_ret ?_
              refine then_ret ?_
              exact body_ret (vs := [(.bool false)]) _ (by kernel_rfl) rfl h
            · replace h := h.2 ((is_not is_raw).f hc)
              refine w_skip ?_
              refine block_norm ?_
              refine then_norm ?_
              refine w_run [0, 0, 0] ?_
              refine t_done [(.int .i64 rings0), (.agg [(.int .i64 base1), (.int .i64 base2)]), (.int .i64 need3), (.int .i64 perMille4), events5, (.int .i64 version6), d55, (.agg [(.int .i64 base1), (.int .i64 base2)]), (.agg [(.int .i64 4), (.int .i64 version6), (.int .i64 0), (.int .i64 0), (.int .i64 0)]), a19, (.bool (!r37)), (.agg [(.int .i64 r10), (.int .i64 r11)]), (.agg [(.int .i64 r22), (.int .i64 r23)]), (.bool (((r10) != 0) || ((r22) != 0))), r9, r21, (.agg [(.int .i64 r32), (.int .i64 r33)]), d42, (.int .i64 (IntKind.wrap .i64 (i56 + 1))), (.bool (decide (i56 < (len62 : Int)))), (.agg [r65, (.int .i64 0), (.int .i64 0), (.int .i64 0)]), (.bool ((e68) == version6)), (.bool (!r84))] H85 (by kernel_rfl) ?_
              obtain ⟨m', hm, h⟩ := h
              refine loop_norm ⟨m', hm, _, _, _, _, _, _, rfl, h⟩
          · replace h := h.2 (is_eq.f hc)
            refine w_skip ?_
            refine then_norm ?_
            refine w_seq ?_
            refine w_run [0, 0, 1, 1, 1, 0, 1, 1, 0] ?_
            obtain ⟨e88, e89, e90, e91, hg92, h⟩ := h
            refine t_idxG false 4 r21 .i64 i56 H74 (by kernel_rfl) hg92 ?_
            refine t_loadG false (some 4) 4 r21 i56 0 (.agg [e88, (.int .i64 e89), (.int .i64 e90), (.int .i64 e91)]) H74 (by kernel_rfl) hg92 ?_
            obtain ⟨b93, H94, hb⟩ : ∃ b H', NewB H74 4 [e88, (.int .i64 e89), (.int .i64 e90), (.int .i64 e91)] b H' := ⟨_, _, rfl, rfl⟩
            replace h := h b93 H94 hb
            refine t_bs false 4 [.empty, (.int .i64 0), (.int .i64 0), (.int .i64 0)] [(0, 4, .loc 0)] 1 [(.agg [e88, (.int .i64 e89), (.int .i64 e90), (.int .i64 e91)])] [e88, (.int .i64 e89), (.int .i64 e90), (.int .i64 e91)] b93 H94 H74 (by kernel_rfl) (fill_c (vs := [e88, (.int .i64 e89), (.int .i64 e90), (.int .i64 e91)]) (size := 4) rfl (by kernel_rfl) (by kernel_rfl) (by kernel_rfl)) hb ?_
            obtain ⟨b95, H96, hb⟩ : ∃ b H', NewB H94 4 [r65, (.int .i64 e68), (.int .i64 e70), (.int .i64 e71)] b H' := ⟨_, _, rfl, rfl⟩
            replace h := h b95 H96 hb
            refine t_bs false 4 [.empty, (.int .i64 0), (.int .i64 0), (.int .i64 0)] [(0, 4, .loc 0)] 1 [(.agg [r65, (.int .i64 e68), (.int .i64 e70), (.int .i64 e71)])] [r65, (.int .i64 e68), (.int .i64 e70), (.int .i64 e71)] b95 H96 H94 (by kernel_rfl) (fill_c (vs := [r65, (.int .i64 e68), (.int .i64 e70), (.int .i64 e71)]) (size := 4) rfl (by kernel_rfl) (by kernel_rfl) (by kernel_rfl)) hb ?_
            refine t_call true nFEqualRings [(.slice b93 0 1 (some 1)), (.slice b95 0 1 (some 1))] H96 (by kernel_rfl) h ?_
            clear h
            rintro _ H98 ⟨r97, rfl, h⟩
            refine t_done [(.int .i64 rings0), (.agg [(.int .i64 base1), (.int .i64 base2)]), (.int .i64 need3), (.int .i64 perMille4), events5, (.int .i64 version6), d55, (.agg [(.int .i64 base1), (.int .i64 base2)]), (.agg [(.int .i64 4), (.int .i64 version6), (.int .i64 0), (.int .i64 0), (.int .i64 0)]), a19, (.bool (!r37)), (.agg [(.int .i64 r10), (.int .i64 r11)]), (.agg [(.int .i64 r22), (.int .i64 r23)]), (.bool (((r10) != 0) || ((r22) != 0))), r9, r21, (.agg [(.int .i64 r32), (.int .i64 r33)]), d42, (.int .i64 i56), (.bool (decide (i56 < (len62 : Int)))), (.agg [r65, (.int .i64 e68), (.int .i64 e70), (.int .i64 e71)]), (.bool ((e68) == version6)), (.bool (!r97))] H98 (by kernel_rfl) ?_
            refine then_norm ?_
            refine w_cond (t := (!r97)) rfl (fun hc => ?_) (fun hc => ?_)
            · replace h := h.1 ((is_not is_raw).t hc)
              refine w_seq ?_
              refine w_run [0] ?_
              refine t_done [(.int .i64 rings0), (.agg [(.int .i64 base1), (.int .i64 base2)]), (.int .i64 need3), (.int .i64 perMille4), events5, (.int .i64 version6), (.bool false), (.agg [(.int .i64 base1), (.int .i64 base2)]), (.agg [(.int .i64 4), (.int .i64 version6), (.int .i64 0), (.int .i64 0), (.int .i64 0)]), a19, (.bool (!r37)), (.agg [(.int .i64 r10), (.int .i64 r11)]), (.agg [(.int .i64 r22), (.int .i64 r23)]), (.bool (((r10) != 0) || ((r22) != 0))), r9, r21, (.agg [(.int .i64 r32), (.int .i64 r33)]), d42, (.int .i64 i56), (.bool (decide (i56 < (len62 : Int)))), (.agg [r65, (.int .i64 e68), (.int .i64 e70), (.int .i64 e71)]), (.bool ((e68) == version6)), (.bool (!r97))] H98 (by kernel_rfl) ?_
              refine then_norm ?_
              refine w_ret ?_
              refine block_ret ?_
              refine then_ret ?_
              refine loop_ret ?_
              refine block_ret ?_
              refine then_ret ?_
              exact body_ret (vs := [(.bool false)]) _ (by kernel_rfl) rfl h
            · replace h := h.2 ((is_not is_raw).f hc)
              refine w_skip ?_
              refine block_norm ?_
              refine then_norm ?_
              refine w_run [0, 0, 0] ?_
              refine t_done [(.int .i64 rings0), (.agg [(.int .i64 base1), (.int .i64 base2)]), (.int .i64 need3), (.int .i64 perMille4), events5, (.int .i64 version6), d55, (.agg [(.int .i64 base1), (.int .i64 base2)]), (.agg [(.int .i64 4), (.int .i64 version6), (.int .i64 0), (.int .i64 0), (.int .i64 0)]), a19, (.bool (!r37)), (.agg [(.int .i64 r10), (.int .i64 r11)]), (.agg [(.int .i64 r22), (.int .i64 r23)]), (.bool (((r10) != 0) || ((r22) != 0))), r9, r21, (.agg [(.int .i64 r32), (.int .i64 r33)]), d42, (.int .i64 (IntKind.wrap .i64 (i56 + 1))), (.bool (decide (i56 < (len62 : Int)))), (.agg [r65, (.int .i64 e68), (.int .i64 e70), (.int .i64 e71)]), (.bool ((e68) == version6)), (.bool (!r97))] H98 (by kernel_rfl) ?_
              obtain ⟨m', hm, h⟩ := h
              refine loop_norm ⟨m', hm, _, _, _, _, _, _, rfl, h⟩
        · replace h := h.2 (is_dec.f hc)
          refine w_exit ?_
          refine then_exit ?_
          refine loop_exit ?_
          refine block_exit ?_
          refine then_norm ?_
          refine w_seq ?_
          refine w_run [0] ?_
          refine t_done [(.int .i64 rings0), (.agg [(.int .i64 base1), (.int .i64 base2)]), (.int .i64 need3), (.int .i64 perMille4), events5, (.int .i64 version6), (.bool true), (.agg [(.int .i64 base1), (.int .i64 base2)]), (.agg [(.int .i64 4), (.int .i64 version6), (.int .i64 0), (.int .i64 0), (.int .i64 0)]), a19, (.bool (!r37)), (.agg [(.int .i64 r10), (.int .i64 r11)]), (.agg [(.int .i64 r22), (.int .i64 r23)]), (.bool (((r10) != 0) || ((r22) != 0))), r9, r21, (.agg [(.int .i64 r32), (.int .i64 r33)]), d42, (.int .i64 i56), (.bool (decide (i56 < (len62 : Int)))), d58, d59, d60] H61 (by kernel_rfl) ?_
          refine then_norm ?_
          refine w_ret ?_
          exact body_ret (vs := [(.bool true)]) _ (by kernel_rfl) rfl h

end Go.RM

