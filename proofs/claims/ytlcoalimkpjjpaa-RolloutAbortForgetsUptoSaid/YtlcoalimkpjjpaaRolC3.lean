import Derived.Test.YtlcoalimkpjjpaaRefW
import Derived.Test.YtlcoalimkpjjpaaRmVc
/-
  Package rollout: Run and Versions.
-/
namespace Go.RM
set_option linter.unusedSimpArgs false
set_option linter.unusedVariables false
set_option maxRecDepth 4000

open Rol

/-- Rings, as they are read. -/
def tRing : Ty RS where
  e := 4
  rel H c r := ∃ v, c = ringC (v, r) ∧ Ints H v r.conf
  pos := by decide
  len h := by obtain ⟨v, rfl, _⟩ := h; rfl
  scal h := by obtain ⟨v, rfl, h⟩ := h; rw [List.all_cons, h.scal.2]; rfl
  keep k h := by obtain ⟨v, rfl, h⟩ := h; exact ⟨v, rfl, h.keep k⟩

variable {F : Nat → Option RFunc}
variable {n : Nat} {H H' : Heap} {pb b : Nat} {p : PP} {l : List (AV × RS)}

theorem Arr.ring {H : Heap} {v : AV} {l : List RS} (h : Arr tRing H v l) {i : Nat} (hi : i < l.length) : ∃ w, Ints H w l[i].conf ∧ getA H 4 (some 4) v (i : Int) 0 = some (.agg [w, i64 l[i].act, i64 l[i].good, i64 l[i].bad]) ∧ getA H 4 none v (i : Int) 0 = some w ∧ getA H 4 none v (i : Int) 1 = some (i64 l[i].act) ∧ getA H 4 none v (i : Int) 2 = some (i64 l[i].good) ∧ getA H 4 none v (i : Int) 3 = some (i64 l[i].bad) := by
  obtain ⟨c, ⟨w, rfl, hw⟩, h3, h4⟩ := h.get hi
  exact ⟨w, hw, h3, h4 0 _ rfl, h4 1 _ rfl, h4 2 _ rfl, h4 3 _ rfl⟩
/-- A part of an element. -/
theorem Sl.part {H : Heap} {v : AV} {e n : Nat} {cs : List AV} (h : Sl H e v n cs) {i o k : Nat} (hi : i < n) (ho : o + k ≤ e) {c : List AV} (hc : (cs.drop (i * e)).take e = c) : getA H e (some k) v i o = some (.agg ((c.drop o).take k)) := by
  rcases h.out with ⟨rfl, rfl, _⟩ | ⟨b, off, lim, kb, rfl, h2, h3, h4, h6, h5⟩
  · omega
  · have hm : i * e + e ≤ n * e := by
      have : (i + 1) * e ≤ n * e := Nat.mul_le_mul_right e hi
      rw [Nat.succ_mul] at this; omega
    show (if (0 : Int) ≤ i ∧ (i : Int) < n then rload H (some k) b (off + (i : Int).toNat * e + o) else none) = _
    rw [if_pos (by omega), Int.toNat_natCast]
    unfold rload
    rw [h2]
    simp only
    rw [if_pos (by omega)]
    congr 2
    rw [← hc, h5, List.drop_take, List.take_take, List.drop_drop, List.drop_take, List.drop_drop, List.take_take, Nat.add_assoc]
    congr 1
    omega
theorem Arr.ringCnt {H : Heap} {v : AV} {l : List RS} (h : Arr tRing H v l) {i : Nat} (hi : i < l.length) : getA H 4 (some 2) v (i : Int) 2 = some (.agg [i64 l[i].good, i64 l[i].bad]) := by
  obtain ⟨css, h1, h2⟩ := h
  obtain ⟨c, h3, w, rfl, h4⟩ := h1.get hi
  exact h2.part (o := 2) (k := 2) hi (by show 2 + 2 ≤ 4; decide) (flat_seg h1.lens h3)

theorem All2.map {α β γ : Type} {R : β → γ → Prop} {f : α → β} {g : α → γ} : ∀ {l : List α}, (∀ x ∈ l, R (f x) (g x)) → All2 R (l.map f) (l.map g)
  | [], _ => trivial
  | x :: l, h => ⟨h x (by simp), All2.map fun y hy => h y (by simp [hy])⟩

theorem rings_arr {H : Heap} {b : Nat} {l : List (AV × RS)} (row : MRow H b 4 (l.map ringC)) (own : ∀ x ∈ l, Ints H x.1 x.2.conf) (hsm : l.length ≤ 5) : Arr tRing H (.slice b 0 l.length (some l.length)) (rs l) := by
  obtain ⟨k, h1, h2, h3, h4⟩ := row.out
  have hfl := flat_len row.lens
  refine ⟨l.map ringC, All2.map fun x hx => ⟨x.1, rfl, own x hx⟩, ?_⟩
  rw [List.length_map] at hfl
  have e1 : (rs l).length = l.length := by simp
  rw [e1]
  refine ⟨by omega, .inr ⟨b, 0, some l.length, k, rfl, act_live h1 h2, h3, ?_, ?_, ?_⟩⟩
  · rw [h4, hfl]; show 0 + l.length * 4 ≤ _; omega
  · exact Nat.le_refl _
  · show _ = (k.cells.drop 0).take (l.length * 4)
    rw [h4, List.drop_zero, ← hfl, List.take_length]
theorem St.arr (h : St n H pb b p l) : Arr tRing H (.slice b 0 l.length (some l.length)) (rs l) := rings_arr h.row (fun x hx => (h.own x hx).ints) h.small

/-- Rings of blocks from n on. -/
def FreshR (n : Nat) (H : Heap) (w : AV) (R : List RS) : Prop := ∀ H2 : Heap, (∀ b, n ≤ b → b < H.length → H2[b]? = H[b]?) → Arr tRing H2 w R
theorem St.fresh (h : St n H pb b p l) : FreshR n H (.slice b 0 l.length (some l.length)) (rs l) := fun H2 hf =>
  rings_arr (h.row.frame (hf b h.lo h.row.lt)) (fun x hx => ((h.own x hx).frame fun c hc => hf c ((h.own x hx).at_lt hc).1 ((h.own x hx).at_lt hc).2).ints) h.small
theorem FreshR.nil {n : Nat} {H : Heap} : FreshR n H .empty [] := fun _ _ => Arr.nil

namespace Rol
def runL (p : PP) : List RS → Nat → List Ev → List RS × (Int × Int)
  | l, _, [] => (l, (0, 0))
  | l, i, e :: r => if (stepR p l e).1 ≠ 0 then ([], ((stepR p l e).1, (i : Int))) else runL p (stepR p l e).2 (i + 1) r
def zeroR : RS := ⟨[], 0, 0, 0⟩
def pre (rings : Int) (p : PP) (n : Nat) : Int × Int :=
  if rings < 1 ∨ rings > 5 then (3, -2) else if (decideR p.b1 p.b2 0 0 p.need p.pm).2.1 ≠ 0 then ((decideR p.b1 p.b2 0 0 p.need p.pm).2.1, -3) else if n > 40 then (2, -1) else (0, 0)
def runR (rings : Int) (p : PP) (es : List Ev) : List RS × (Int × Int) :=
  if (pre rings p es.length).1 ≠ 0 then ([], pre rings p es.length) else runL p (List.replicate rings.toNat zeroR) 0 es
def OkR (l : List RS) : Prop := ∀ r ∈ l, okC r.good r.bad
def lenLe (k : Nat) (l : List RS) : Prop := ∀ r ∈ l, r.conf.length ≤ k
end Rol

theorem mem_set_or {α : Type} {l : List α} {i : Nat} {x y : α} (h : y ∈ l.set i x) : y ∈ l ∨ y = x := List.mem_or_eq_of_mem_set h
theorem rg_mem {l : List RS} {i : Nat} (h : i < l.length) : rg l i ∈ l := by
  unfold rg; simp [List.getD, h]
theorem rm_len (v : Int) (l : List Int) : (rm v l).length ≤ l.length := by unfold rm; rw [List.length_eraseIdx]; split <;> omega

theorem okC00 : okC 0 0 := by unfold okC; omega
theorem rg_ok {l : List RS} (h : OkR l) (i : Nat) : okC (rg l i).good (rg l i).bad := by
  by_cases hi : i < l.length
  · exact h _ (rg_mem hi)
  · unfold rg; simp [List.getD, Nat.le_of_not_lt hi]; exact okC00
theorem rg_len {l : List RS} {k : Nat} (h : lenLe k l) (i : Nat) : (rg l i).conf.length ≤ k := by
  by_cases hi : i < l.length
  · exact h _ (rg_mem hi)
  · unfold rg; simp [List.getD, Nat.le_of_not_lt hi]
theorem abort_ok {l : List RS} {k : Nat} {v : Int} (h : OkR l) (h2 : lenLe k l) : OkR (l.map (abort1 v)) ∧ lenLe k (l.map (abort1 v)) ∧ (l.map (abort1 v)).length = l.length := by
  refine ⟨fun r hr => ?_, fun r hr => ?_, by simp⟩
  · obtain ⟨s, hs, rfl⟩ := List.mem_map.1 hr
    unfold abort1
    cases hitA v s with
    | true => exact okC00
    | false => exact h s hs
  · obtain ⟨s, hs, rfl⟩ := List.mem_map.1 hr
    exact Nat.le_trans (rm_len _ _) (h2 s hs)

theorem step_ok {l : List RS} {k : Nat} {e : Ev} (h : OkR l) (h2 : lenLe k l) : OkR (stepR p l e).2 ∧ lenLe (k + 1) (stepR p l e).2 ∧ (stepR p l e).2.length = l.length := by
  have h3 : lenLe (k + 1) l := fun r hr => Nat.le_succ_of_le (h2 r hr)
  have same : OkR l ∧ lenLe (k + 1) l ∧ l.length = l.length := ⟨h, h3, rfl⟩
  unfold stepR
  repeat' split
  all_goals try exact same
  · unfold startR
    repeat' split
    all_goals try exact same
    refine ⟨fun r hr => ?_, fun r hr => ?_, by simp⟩
    · rcases mem_set_or hr with hr | rfl
      · exact h r hr
      · exact rg_ok h 0
    · rcases mem_set_or hr with hr | rfl
      · exact h3 r hr
      · exact rg_len h3 0
  · unfold reportR
    have hset : okC ((rg l e.ring.toNat).good + e.g) ((rg l e.ring.toNat).bad + e.b) → OkR (l.set e.ring.toNat { rg l e.ring.toNat with good := (rg l e.ring.toNat).good + e.g, bad := (rg l e.ring.toNat).bad + e.b }) ∧ lenLe (k + 1) (l.set e.ring.toNat { rg l e.ring.toNat with good := (rg l e.ring.toNat).good + e.g, bad := (rg l e.ring.toNat).bad + e.b }) := fun hs => by
      refine ⟨fun r hr => ?_, fun r hr => ?_⟩
      · rcases mem_set_or hr with hr | rfl
        · exact h r hr
        · exact hs
      · rcases mem_set_or hr with hr | rfl
        · exact h3 r hr
        · exact rg_len h3 _
    split
    · exact same
    split
    · exact same
    split
    · exact same
    rename_i hs
    obtain ⟨g1, g2⟩ := hset (Decidable.not_not.1 hs)
    split
    · obtain ⟨x1, x2, x3⟩ := abort_ok (v := (rg l e.ring.toNat).act) g1 g2
      exact ⟨x1, x2, by rw [x3]; simp⟩
    · exact ⟨g1, g2, by simp⟩
  · unfold advanceR
    repeat' split
    all_goals try exact same
    · refine ⟨fun r hr => ?_, fun r hr => ?_, by simp⟩
      · rcases mem_set_or hr with hr | rfl
        · rcases mem_set_or hr with hr | rfl
          · exact h r hr
          · exact rg_ok h _
        · exact okC00
      · rcases mem_set_or hr with hr | rfl
        · rcases mem_set_or hr with hr | rfl
          · exact h3 r hr
          · exact rg_len h3 _
        · have := rg_len h2 e.ring.toNat
          simp only [List.length_append, List.length_singleton]; omega
    · refine ⟨fun r hr => ?_, fun r hr => ?_, by simp⟩
      · rcases mem_set_or hr with hr | rfl
        · exact h r hr
        · exact okC00
      · rcases mem_set_or hr with hr | rfl
        · exact h3 r hr
        · have := rg_len h2 e.ring.toNat
          simp only [List.length_append, List.length_singleton]; omega
  · exact ⟨(abort_ok h h3).1, (abort_ok h h3).2.1, by simp⟩

def tEv : Ty Ev := tEnc 5 evC (by decide) (fun _ => rfl) (fun _ => rfl)
theorem Arr.ev {H : Heap} {v : AV} {l : List Ev} (h : Arr tEv H v l) {i : Nat} (hi : i < l.length) : getA H 5 (some 5) v (i : Int) 0 = some (.agg (evC l[i])) := Arr.enc h hi

abbrev RunC (F : Nat → Option RFunc) (f : Nat) : Prop := ∀ {fl H Q v rings} {p : PP} {es : List Ev}, Arr tEv H v es → fl ≤ H.length → (∀ w H', Keep H.length H H' → Arr tRing H' w (runR rings p es).1 → Q (.tuple [w, fp (runR rings p es).2]) H') → Ret F fl f [i64 rings, cnt p.b1 p.b2, i64 p.need, i64 p.pm, v] H Q

theorem pre_ok {rings : Int} {p : PP} {n : Nat} (h : (pre rings p n).1 = 0) : 1 ≤ rings ∧ rings ≤ 5 ∧ n ≤ 40 ∧ OkP p := by
  unfold pre at h
  split at h
  · cases h
  · split at h
    · rename_i h1 h2; exact absurd h h2
    · rename_i h1 h2
      split at h
      · cases h
      · have h2 := Decidable.not_not.1 h2
        unfold decideR at h2
        split at h2
        · rename_i h3
          split at h2
          · rename_i h4
            unfold twoR at h3
            split at h3
            · rename_i h5; exact ⟨by omega, by omega, by omega, h5, h4⟩
            · cases h3
          · cases h2
        · rename_i h3; exact absurd h2 h3

abbrev RunFC (F : Nat → Option RFunc) (f : Nat) : Prop := ∀ {fl H Q v rings} {p : PP} {es : List Ev}, Arr tEv H v es → fl ≤ H.length → (∀ w H', Keep H.length H H' → FreshR H.length H' w (runR rings p es).1 → Q (.tuple [w, fp (runR rings p es).2]) H') → Ret F fl f [i64 rings, cnt p.b1 p.b2, i64 p.need, i64 p.pm, v] H Q
theorem runF_c {f n1 n2 : Nat} (hF : F f = some (rf_rollout_Run n1 n2)) (h1 : DecideC F n1) (h2 : StepC F n2) : RunFC F f := fun {fl H Q v rings p es} hv hfl hq => by
  refine v_rollout_Run hF _ _ _ _ _ _ ?_
  intro H6 d6 H7 d7
  have k7 := d6.keep.call d7.keep
  unfold runR at hq
  have hs := hv.small
  refine ⟨fun hb => ?_, fun hb => ?_⟩
  · have : pre rings p es.length = (3, -2) := by unfold pre; rw [if_pos hb]
    rw [this, if_pos (by decide)] at hq
    exact hq .empty H7 k7 FreshR.nil
  refine h1 (k7.fl hfl) fun H11 k11 => ⟨_, _, _, rfl, fun H13 d13 => ?_⟩
  have k13 := (k7.call k11).call d13.keep
  have hdi : ((decideR p.b1 p.b2 0 0 p.need p.pm).2.1 = 0 ∧ (decideR p.b1 p.b2 0 0 p.need p.pm).2.2 = 0 ∧ True) ↔ (decideR p.b1 p.b2 0 0 p.need p.pm).2.1 = 0 := ⟨fun h => h.1, fun h => ⟨h, by
    unfold decideR at h ⊢
    split at h
    · rename_i h3
      rw [if_pos h3]
      split at h
      · rename_i h4; rw [if_pos h4]
      · cases h
    · rename_i h3; exact absurd h h3, trivial⟩⟩
  rw [hdi]
  refine ⟨fun hd => ?_, fun hd => ⟨_, hv.len, fun hl => ?_, fun hl => ?_⟩⟩
  · have : pre rings p es.length = ((decideR p.b1 p.b2 0 0 p.need p.pm).2.1, -3) := by unfold pre; rw [if_neg hb, if_pos hd]
    rw [this, if_pos hd] at hq
    exact hq .empty H13 k13 FreshR.nil
  · have : pre rings p es.length = (2, -1) := by unfold pre; rw [if_neg hb, if_neg hd, if_pos (by omega)]
    rw [this, if_pos (by decide)] at hq
    exact hq .empty H13 k13 FreshR.nil
  have hpre : pre rings p es.length = (0, 0) := by unfold pre; rw [if_neg hb, if_neg hd, if_neg (by omega)]
  rw [hpre, if_neg (by decide)] at hq
  obtain ⟨p1, p2, p3, hP⟩ := pre_ok (rings := rings) (p := p) (n := es.length) (by rw [hpre])
  refine ⟨⟨by omega, Int.le_refl _, by omega, by omega⟩, fun b15 H16 hb15 b17 H18 hb17 => ?_⟩
  have k18 := (k13.call hb15.keep).call hb17.keep
  have b15e := hb15.b_eq
  have b17e := hb17.b_eq
  have k13l := k13.len
  have h16 := hb15.lt
  have hfl17 : fl ≤ b17 := by have := hb15.keep.len; omega
  obtain ⟨H19, a1, a2, a3⟩ := hb17.box.put (fl := fl) (o := 0) (n := 5) (v := .agg [i64 p.b1, i64 p.b2, i64 p.need, i64 p.pm, .slice b15 0 rings.toNat (some rings.toNat)]) rfl (by decide) rfl hfl17
  have k19 := k18.tr (a3.keep (n := H.length) (by have := hb15.keep.len; omega) (by have := k18.len; omega))
  refine ⟨H19, a1, _, hv.len, ?_⟩
  have st0 : St H.length H19 b17 b15 p (List.replicate rings.toNat (.empty, zeroR)) := by
    have hmem : ∀ x ∈ List.replicate rings.toNat (AV.empty, zeroR), x = (AV.empty, zeroR) := fun x hx => List.eq_of_mem_replicate hx
    refine { row := ?_, lo := by omega, own := ?_, sep := ?_, offb := ?_, ne := by omega, small := by rw [List.length_replicate]; omega, box := ?_ }
    · rw [List.map_replicate]
      have hm : MRow H16 b15 4 (List.replicate rings.toNat (ringC (AV.empty, zeroR))) := hb15.mrow _ rfl fun c hc => by rw [List.eq_of_mem_replicate hc]; rfl
      exact (hm.keep hb17.keep).frame (a3.get b15 (by omega))
    · intro x hx; rw [hmem x hx]; exact Own.nil
    · intro i j hi hj _ c hc
      rw [List.getElem_replicate] at hc
      exact absurd hc at_empty
    · intro x hx; rw [hmem x hx]; exact ⟨at_empty, at_empty⟩
    · rw [List.length_replicate]; exact a2
  refine ⟨fun m x y i H' => ∃ (j : Nat) (l : List (AV × RS)), i = j ∧ j + m = es.length ∧ x = 0 ∧ y = 0 ∧ Keep H.length H H' ∧ St H.length H' b17 b15 p l ∧ OkR (rs l) ∧ lenLe j (rs l) ∧ l.length = rings.toNat ∧ runL p (List.replicate rings.toNat zeroR) 0 es = runL p (rs l) j (es.drop j), es.length, ⟨0, _, rfl, by omega, rfl, rfl, k19, st0, ?_, ?_, by simp, by simp [rs]⟩, ?_⟩
  · intro r hr
    simp only [rs, List.map_replicate] at hr
    rw [List.eq_of_mem_replicate hr]; exact okC00
  · intro r hr
    simp only [rs, List.map_replicate] at hr
    rw [List.eq_of_mem_replicate hr]; exact Nat.le_refl _
  rintro m _ _ _ H' ⟨j, l, rfl, hm, rfl, rfl, hk, hst, hok, hln, hll, hrun⟩
  refine ⟨fun hlt => ?_, fun hge => ?_⟩
  · have hil : j < es.length := by omega
    rw [List.drop_eq_getElem_cons hil, runL] at hrun
    refine ⟨_, _, _, _, _, (hv.keep hk).ev hil, fun H40 d40 => ?_⟩
    have k40 := hk.call d40.keep
    have hok' : ∀ x ∈ l, okC x.2.good x.2.bad := fun x hx => hok _ (List.mem_map.2 ⟨x, hx, rfl⟩)
    have hln' : ∀ x ∈ l, x.2.conf.length ≤ 2 ^ 29 := fun x hx => by have := hln _ (List.mem_map.2 ⟨x, hx, rfl⟩); omega
    refine h2 (hst.keep d40.keep) hfl hP hok' hln' fun l' H42 k42 hd => ⟨_, rfl, fun hc => ?_, fun hc => ?_⟩
    · rw [if_pos hc] at hrun
      rw [hrun] at hq
      exact hq .empty H42 (k40.tr k42) FreshR.nil
    · rw [if_neg hc] at hrun
      obtain ⟨s', hl'⟩ := hd (Decidable.not_not.1 hc)
      obtain ⟨o1, o2, o3⟩ := step_ok (p := p) (e := es[j]) hok hln
      rw [← hl'] at o1 o2 o3 hrun
      refine ⟨m - 1, by omega, j + 1, l', wsucc hil hs, by omega, rfl, rfl, k40.tr k42, s', o1, o2, by simpa [hll] using o3, hrun⟩
  · rw [List.drop_eq_nil_of_le (by omega), runL] at hrun
    rw [hrun] at hq
    exact ⟨_, hst.rings, hq _ H' hk hst.fresh⟩

theorem run_of {f : Nat} (h : RunFC F f) : RunC F f := fun hv hfl hq => h hv hfl fun w H' k hw => hq w H' k (hw H' fun _ _ _ => rfl)
theorem run_c {f n1 n2 : Nat} (hF : F f = some (rf_rollout_Run n1 n2)) (h1 : DecideC F n1) (h2 : StepC F n2) : RunC F f := run_of (runF_c hF h1 h2)

/-! ### Versions -/

namespace Rol
def verR (r : RS) : Int := if r.act = 0 then lastI r.conf else r.act
end Rol

abbrev VersC (F : Nat → Option RFunc) (f : Nat) : Prop := ∀ {fl H Q v rings} {p : PP} {es : List Ev}, Arr tEv H v es → fl ≤ H.length → (∀ w H', Keep H.length H H' → Acc H tInt H' w ((runR rings p es).1.map verR) → Q (.tuple [w, fp (runR rings p es).2]) H') → Ret F fl f [i64 rings, cnt p.b1 p.b2, i64 p.need, i64 p.pm, v] H Q

theorem step_len {p : PP} {l : List RS} {e : Ev} : (stepR p l e).2.length = l.length := by
  unfold stepR
  split
  · rfl
  split
  · rfl
  split
  · rfl
  split
  · unfold startR; repeat' split
    all_goals simp
  split
  · unfold reportR; repeat' split
    all_goals simp
  split
  · unfold advanceR; repeat' split
    all_goals simp
  split <;> simp
theorem runL_len {p : PP} : ∀ {es : List Ev} {l : List RS} {i : Nat}, (runL p l i es).1.length ≤ l.length
  | [], l, i => Nat.le_refl _
  | e :: r, l, i => by
    rw [runL]
    split
    · simp
    · have h := runL_len (p := p) (es := r) (l := (stepR p l e).2) (i := i + 1)
      rw [step_len] at h; exact h
theorem runR_len {rings : Int} {p : PP} {es : List Ev} : (runR rings p es).1.length ≤ 5 := by
  unfold runR
  split
  · simp
  · rename_i h
    obtain ⟨h1, h2, _⟩ := pre_ok (Decidable.not_not.1 h)
    have := runL_len (p := p) (es := es) (l := List.replicate rings.toNat zeroR) (i := 0)
    rw [List.length_replicate] at this; omega

theorem vers_c {f n1 n2 : Nat} (hF : F f = some (rf_rollout_Versions n1 n2)) (h1 : RunC F n1) (h2 : LastC F n2) : VersC F f := fun {fl H Q v rings p es} hv hfl hq => by
  refine v_rollout_Versions hF _ _ _ _ _ _ ?_
  intro H6 d6 H7 d7
  have k7 := d6.keep.call d7.keep
  refine h1 (hv.keep k7) (k7.fl hfl) fun w H11 k11 hw => ⟨_, _, _, rfl, fun H13 d13 => ?_⟩
  have k13 := (k7.call k11).call d13.keep
  have hw := hw.keep d13.keep
  have hs := hw.small
  have hlen := runR_len (rings := rings) (p := p) (es := es)
  generalize hR : (runR rings p es).1 = R at hw hq hs hlen
  have fl13 := k13.fl hfl
  refine ⟨_, hw.len, fun m i out H' => ∃ j : Nat, i = j ∧ j + m = R.length ∧ Keep H13.length H13 H' ∧ Acc H13 tInt H' out ((R.take j).map verR), R.length, ⟨0, rfl, by omega, Keep.refl _, Acc.nil⟩, ?_⟩
  rintro m _ out H' ⟨j, rfl, hm, hk, hout⟩
  refine ⟨fun hlt => ?_, fun hge => ?_⟩
  · have hil : j < R.length := by omega
    have hlj : ((R.take j).map verR).length + 1 ≤ 2 ^ 30 := by rw [List.length_map, List.length_take]; omega
    have hnext : (R.take (j + 1)).map verR = (R.take j).map verR ++ [verR R[j]] := by rw [List.take_succ_eq_append_getElem hil, List.map_append]; rfl
    obtain ⟨w', hw', g1, _⟩ := (hw.keep hk).ring hil
    refine ⟨_, _, _, _, g1, fun H30 d30 => ⟨hw'.scal, fun hz => ?_, fun hz => ?_⟩⟩
    · refine h2 (hw'.keep d30.keep) fun H33 k33 => ⟨_, rfl, fun b35 H36 hb36 => ?_⟩
      have k33' := d30.keep.call k33
      obtain ⟨r', H38, a1, a2, a3, _⟩ := (hout.keep k33').push (fl := fl) (free := true) (bytes := 8) (a := lastI R[j].conf) rfl hb36 (hk.call k33') fl13 hlj (by decide)
      refine ⟨r', H38, a1, m - 1, by omega, j + 1, wsucc hil hs, by omega, a3, ?_⟩
      rw [hnext]; unfold verR at a2 ⊢; rw [if_pos hz]; exact a2
    · intro b40 H41 hb41
      obtain ⟨r', H43, a1, a2, a3, _⟩ := (hout.keep d30.keep).push (fl := fl) (free := true) (bytes := 8) (a := R[j].act) rfl hb41 (hk.call d30.keep) fl13 hlj (by decide)
      refine ⟨r', H43, a1, m - 1, by omega, j + 1, wsucc hil hs, by omega, a3, ?_⟩
      rw [hnext]; unfold verR at a2 ⊢; rw [if_neg hz]; exact a2
  · rw [List.take_of_length_le (by omega)] at hout
    exact hq out H' (k13.call hk) (hout.of tInt.plain k13.len)

end Go.RM

/-
  Functions of the program as the abstract machine runs them, and what must be shown of a run: printed by RmPrint.
-/
namespace Go.RM
set_option linter.unusedVariables false
set_option maxRecDepth 4000
def rf_FEqualRings (nFEqualInts : Nat) : RFunc := ⟨2, 7, [.var 2],
 ((.seq (.ops [⟨.move (.k (.bool false)), none, (some 2), true⟩])
 ((.seq ((.seq (.ops [⟨.move (.var 0), none, none, true⟩, ⟨.len (.loc 0), none, none, true⟩, ⟨.move (.var 1), none, none, true⟩, ⟨.len (.loc 2), none, none, true⟩, ⟨.bin .neq .no (.loc 1) (.loc 3), none, (some 3), true⟩])
 (.cond (.var 3) ((.seq (.ops [⟨.move (.k (.bool false)), none, (some 2), true⟩])
 (.ret))) (.skip))))
 ((.seq ((.seq (.ops [⟨.move (.k (.int .i64 0)), none, (some 4), true⟩])
 (.block 0 (.loop ((.seq ((.seq (.ops [⟨.move (.var 4), none, none, true⟩, ⟨.move (.var 0), none, none, true⟩, ⟨.len (.loc 1), none, none, true⟩, ⟨.bin .lss .no (.loc 0) (.loc 2), none, (some 5), true⟩])
 (.cond (.var 5) (.skip) (.exit 0))))
 ((.seq (.block 1 ((.seq (.ops [⟨.move (.var 0), none, none, false⟩, ⟨.move (.var 4), none, none, false⟩, ⟨.indexAddr 4 (.loc 0) (.loc 1), none, none, false⟩, ⟨.fieldAddr 0 (.loc 2), none, none, false⟩, ⟨.load none (.loc 3), none, none, false⟩, ⟨.move (.var 1), none, none, false⟩, ⟨.move (.var 4), none, none, false⟩, ⟨.indexAddr 4 (.loc 5) (.loc 6), none, none, false⟩, ⟨.fieldAddr 0 (.loc 7), none, none, false⟩, ⟨.load none (.loc 8), none, none, false⟩, ⟨.callS nFEqualInts [(.loc 4), (.loc 9)], none, none, true⟩, ⟨.un .not (.loc 10), none, none, true⟩, ⟨.move (.loc 11), none, none, true⟩, ⟨.move (.var 0), none, none, false⟩, ⟨.move (.var 4), none, none, false⟩, ⟨.indexAddr 4 (.loc 13) (.loc 14), (some (12, false)), none, false⟩, ⟨.fieldAddr 1 (.loc 15), (some (12, false)), none, false⟩, ⟨.load none (.loc 16), (some (12, false)), none, false⟩, ⟨.move (.var 1), none, none, false⟩, ⟨.move (.var 4), none, none, false⟩, ⟨.indexAddr 4 (.loc 18) (.loc 19), (some (12, false)), none, false⟩, ⟨.fieldAddr 1 (.loc 20), (some (12, false)), none, false⟩, ⟨.load none (.loc 21), (some (12, false)), none, false⟩, ⟨.bin .neq .no (.loc 17) (.loc 22), (some (12, false)), none, true⟩, ⟨.pick (.loc 12) (.k (.bool true)) (.loc 23), none, none, true⟩, ⟨.move (.loc 24), none, none, true⟩, ⟨.move (.var 0), none, none, false⟩, ⟨.move (.var 4), none, none, false⟩, ⟨.indexAddr 4 (.loc 26) (.loc 27), (some (25, false)), none, false⟩, ⟨.fieldAddr 2 (.loc 28), (some (25, false)), none, false⟩, ⟨.load (some 2) (.loc 29), (some (25, false)), none, false⟩, ⟨.move (.var 1), none, none, false⟩, ⟨.move (.var 4), none, none, false⟩, ⟨.indexAddr 4 (.loc 31) (.loc 32), (some (25, false)), none, false⟩, ⟨.fieldAddr 2 (.loc 33), (some (25, false)), none, false⟩, ⟨.load (some 2) (.loc 34), (some (25, false)), none, false⟩, ⟨.bin .neq (.agg [.int, .int]) (.loc 30) (.loc 35), (some (25, false)), none, true⟩, ⟨.pick (.loc 25) (.k (.bool true)) (.loc 36), none, (some 6), true⟩])
 (.cond (.var 6) ((.seq (.ops [⟨.move (.k (.bool false)), none, (some 2), true⟩])
 (.ret))) (.skip)))))
 (.ops [⟨.move (.var 4), none, none, true⟩, ⟨.bin .add .no (.loc 0) (.k (.int .i64 1)), none, none, true⟩, ⟨.move (.loc 1), none, (some 4), true⟩])))))))))
 ((.seq (.ops [⟨.move (.k (.bool true)), none, (some 2), true⟩])
 (.ret)))))))))⟩
theorem v_FEqualRings {F : Nat → Option RFunc} {me nFEqualInts : Nat} (hF : F me = some (rf_FEqualRings nFEqualInts)) {fl : Nat} {H : Heap} {Q : AV → Heap → Prop} (a0 : AV) (b1 : AV)
  (h : ∃ len2 : Nat, lenA a0 = some len2 ∧ ∃ len3 : Nat, lenA b1 = some len3 ∧ (((len2 : Int) ≠ (len3 : Int)) → Q (.bool false) H) ∧ (¬((len2 : Int) ≠ (len3 : Int)) → ∃ (J4 : Nat → Int → Heap → Prop) (k5 : Nat), J4 k5 0 H ∧ (∀ (m6 : Nat) (i8 : Int) (H11 : Heap), J4 m6 i8 H11 → ∃ len12 : Nat, lenA a0 = some len12 ∧ ((i8 < (len12 : Int)) → ∃ (e13 : AV), getA H11 4 none a0 i8 0 = some e13 ∧ ∃ (e15 : AV), getA H11 4 none b1 i8 0 = some e15 ∧ Ret F fl nFEqualInts [e13, e15] H11 (fun v19 H18 => ∃ (r17 : Bool), v19 = (.bool r17) ∧ ((¬(r17 = true)) → Q (.bool false) H18) ∧ (¬(¬(r17 = true)) → ∃ (e20 : Int), getA H18 4 none a0 i8 1 = some (.int .i64 e20) ∧ ∃ (e22 : Int), getA H18 4 none b1 i8 1 = some (.int .i64 e22) ∧ ((e20 ≠ e22) → Q (.bool false) H18) ∧ (¬(e20 ≠ e22) → ∃ (e24 : Int) (e25 : Int), getA H18 4 (some 2) a0 i8 2 = some (.agg [(.int .i64 e24), (.int .i64 e25)]) ∧ ∃ (e27 : Int) (e28 : Int), getA H18 4 (some 2) b1 i8 2 = some (.agg [(.int .i64 e27), (.int .i64 e28)]) ∧ ((¬(((e24 = e27) ∧ (((e25 = e28) ∧ (True)))))) → Q (.bool false) H18) ∧ (¬(¬(((e24 = e27) ∧ (((e25 = e28) ∧ (True)))))) → ∃ m30 : Nat, m30 < m6 ∧ J4 m30 (IntKind.wrap .i64 (i8 + 1)) H18))))) ∧ (¬(i8 < (len12 : Int)) → Q (.bool true) H11)))) : Ret F fl me [a0, b1] H Q := by
  refine ret_intro hF rfl ?_
  refine w_seq ?_
  refine w_run [0] ?_
  refine t_done [a0, b1, (.bool false), .undef, .undef, .undef, .undef] H (by kernel_rfl) ?_
  refine then_norm ?_
  refine w_seq ?_
  refine w_seq ?_
  refine w_run [0, 1, 0, 1, 0] ?_
  obtain ⟨len2, hl, h⟩ := h
  refine t_len true a0 len2 H (by kernel_rfl) hl ?_
  obtain ⟨len3, hl, h⟩ := h
  refine t_len true b1 len3 H (by kernel_rfl) hl ?_
  refine t_done [a0, b1, (.bool false), (.bool (((len2 : Int)) != (len3 : Int))), .undef, .undef, .undef] H (by kernel_rfl) ?_
  refine then_norm ?_
  refine w_cond (t := (((len2 : Int)) != (len3 : Int))) rfl (fun hc => ?_) (fun hc => ?_)
  · replace h := h.1 (is_ne.t hc)
    refine w_seq ?_
    refine w_run [0] ?_
    refine t_done [a0, b1, (.bool false), (.bool (((len2 : Int)) != (len3 : Int))), .undef, .undef, .undef] H (by kernel_rfl) ?_
    refine then_norm ?_
    refine w_ret ?_
    refine then_ret ?_
    exact body_ret (vs := [(.bool false)]) _ (by kernel_rfl) rfl h
  · replace h := h.2 (is_ne.f hc)
    refine w_skip ?_
    refine then_norm ?_
    refine w_seq ?_
    refine w_seq ?_
    refine w_run [0] ?_
    refine t_done [a0, b1, (.bool false), (.bool (((len2 : Int)) != (len3 : Int))), (.int .i64 0), .undef, .undef] H (by kernel_rfl) ?_
    refine then_norm ?_
    refine w_block ?_
    obtain ⟨J4, k5, h0, h⟩ := h
    refine w_loop (I := fun mI EI HI => ∃ (d7 : AV) (i8 : Int) (d9 : AV) (d10 : AV), EI = [a0, b1, d7, (.bool (((len2 : Int)) != (len3 : Int))), (.int .i64 i8), d9, d10] ∧ J4 mI i8 HI) ?_ k5 ⟨_, _, _, _, rfl, h0⟩
    clear h0
    rintro m6 EI H11 ⟨d7, i8, d9, d10, rfl, hJ⟩
    replace h := h m6 i8 H11 hJ
    clear hJ
    refine w_seq ?_
    refine w_seq ?_
    refine w_run [0, 0, 1, 0] ?_
    obtain ⟨len12, hl, h⟩ := h
    refine t_len true a0 len12 H11 (by kernel_rfl) hl ?_
    refine t_done [a0, b1, d7, (.bool (((len2 : Int)) != (len3 : Int))), (.int .i64 i8), (.bool (decide (i8 < (len12 : Int)))), d10] H11 (by kernel_rfl) ?_
    refine then_norm ?_
    refine w_cond (t := (decide (i8 < (len12 : Int)))) rfl (fun hc => ?_) (fun hc => ?_)
    · replace h := h.1 (is_dec.t hc)
      refine w_skip ?_
      refine then_norm ?_
      refine w_seq ?_
      refine w_block ?_
      refine w_seq ?_
      refine w_run [0, 0, 1, 1, 1, 0, 0, 1, 1, 1, 1, 0, 0, 0, 0, 3, 3, 3, 0, 0, 3, 3, 3, 2, 0, 0, 0, 0, 3, 3, 3, 0, 0, 3, 3, 3, 2, 0] ?_
      obtain ⟨e13, hg14, h⟩ := h
      refine t_idxG false 4 a0 .i64 i8 H11 (by kernel_rfl) hg14 ?_
      refine t_fldG false 0 4 a0 i8 0 H11 (by kernel_rfl) hg14 ?_
      refine t_loadG false none 4 a0 i8 0 e13 H11 (by kernel_rfl) hg14 ?_
      obtain ⟨e15, hg16, h⟩ := h
      refine t_idxG false 4 b1 .i64 i8 H11 (by kernel_rfl) hg16 ?_
      refine t_fldG false 0 4 b1 i8 0 H11 (by kernel_rfl) hg16 ?_
      refine t_loadG false none 4 b1 i8 0 e15 H11 (by kernel_rfl) hg16 ?_
      refine t_call true nFEqualInts [e13, e15] H11 (by kernel_rfl) h ?_
      clear h
      rintro _ H18 ⟨r17, rfl, h⟩
      refine t_gd (!r17) false (by kernel_rfl) (fun hc => ?_) (fun hc => ?_)
      · replace h := h.2 ((is_not is_raw).f hc)
        obtain ⟨e20, hg21, h⟩ := h
        refine t_idxG false 4 a0 .i64 i8 H18 (by kernel_rfl) hg21 ?_
        refine t_gd false false (by kernel_rfl) (fun _ => ?_) (fun hn => by cases hn)
        refine t_fldG false 1 4 a0 i8 0 H18 (by kernel_rfl) hg21 ?_
        refine t_gd false false (by kernel_rfl) (fun _ => ?_) (fun hn => by cases hn)
        refine t_loadG false none 4 a0 i8 1 (.int .i64 e20) H18 (by kernel_rfl) hg21 ?_
        refine t_gd false false (by kernel_rfl) (fun _ => ?_) (fun hn => by cases hn)
        obtain ⟨e22, hg23, h⟩ := h
        refine t_idxG false 4 b1 .i64 i8 H18 (by kernel_rfl) hg23 ?_
        refine t_gd false false (by kernel_rfl) (fun _ => ?_) (fun hn => by cases hn)
        refine t_fldG false 1 4 b1 i8 0 H18 (by kernel_rfl) hg23 ?_
        refine t_gd false false (by kernel_rfl) (fun _ => ?_) (fun hn => by cases hn)
        refine t_loadG false none 4 b1 i8 1 (.int .i64 e22) H18 (by kernel_rfl) hg23 ?_
        refine t_gd false false (by kernel_rfl) (fun _ => ?_) (fun hn => by cases hn)
        refine t_gd ((e20) != e22) false (by kernel_rfl) (fun hc => ?_) (fun hc => ?_)
        · replace h := h.2 (is_ne.f hc)
          obtain ⟨e24, e25, hg26, h⟩ := h
          refine t_idxG false 4 a0 .i64 i8 H18 (by kernel_rfl) hg26 ?_
          refine t_gd false false (by kernel_rfl) (fun _ => ?_) (fun hn => by cases hn)
          refine t_fldG false 2 4 a0 i8 0 H18 (by kernel_rfl) hg26 ?_
          refine t_gd false false (by kernel_rfl) (fun _ => ?_) (fun hn => by cases hn)
          refine t_loadG false (some 2) 4 a0 i8 2 (.agg [(.int .i64 e24), (.int .i64 e25)]) H18 (by kernel_rfl) hg26 ?_
          refine t_gd false false (by kernel_rfl) (fun _ => ?_) (fun hn => by cases hn)
          obtain ⟨e27, e28, hg29, h⟩ := h
          refine t_idxG false 4 b1 .i64 i8 H18 (by kernel_rfl) hg29 ?_
          refine t_gd false false (by kernel_rfl) (fun _ => ?_) (fun hn => by cases hn)
          refine t_fldG false 2 4 b1 i8 0 H18 (by kernel_rfl) hg29 ?_
          refine t_gd false false (by kernel_rfl) (fun _ => ?_) (fun hn => by cases hn)
          refine t_loadG false (some 2) 4 b1 i8 2 (.agg [(.int .i64 e27), (.int .i64 e28)]) H18 (by kernel_rfl) hg29 ?_
          refine t_gd false false (by kernel_rfl) (fun _ => ?_) (fun hn => by cases hn)
          refine t_done [a0, b1, d7, (.bool (((len2 : Int)) != (len3 : Int))), (.int .i64 i8), (.bool (decide (i8 < (len12 : Int)))), (.bool (!(((e24) == e27) && (((e25) == e28) && true))))] H18 (by kernel_rfl) ?_
          refine then_norm ?_
          refine w_cond (t := (!(((e24) == e27) && (((e25) == e28) && true)))) rfl (fun hc => ?_) (fun hc => ?_)
          · replace h := h.1 ((is_not (is_and is_eq (is_and is_eq is_true))).t hc)
            refine w_seq ?_
            refine w_run [0] ?_
            refine t_done [a0, b1, (.bool false), (.bool (((len2 : Int)) != (len3 : Int))), (.int .i64 i8), (.bool (decide (i8 < (len12 : Int)))), (.bool (!(((e24) == e27) && (((e25) == e28) && true))))] H18 (by kernel_rfl) ?_
            refine then_norm ?_
            refine w_ret ?_
            refine block_ret ?_
            refine then_ret ?_
            refine loop_ret ?_
            refine block_ret ?_
            refine then_ret ?_
            exact body_ret (vs := [(.bool false)]) _ (by kernel_rfl) rfl h
          · replace h := h.2 ((is_not (is_and is_eq (is_and is_eq is_true))).f hc)
            refine w_skip ?_
            refine block_norm ?_
            refine then_norm ?_
            refine w_run [0, 0, 0] ?_
            refine t_done [a0, b1, d7, (.bool (((len2 : Int)) != (len3 : Int))), (.int .i64 (IntKind.wrap .i64 (i8 + 1))), (.bool (decide (i8 < (len12 : Int)))), (.bool (!(((e24) == e27) && (((e25) == e28) && true))))] H18 (by kernel_rfl) ?_
            obtain ⟨m', hm, h⟩ := h
            refine loop_norm ⟨m', hm, _, _, _, _, rfl, h⟩
        · replace h := h.1 (is_ne.t hc)
          refine t_gd true false (by kernel_rfl) (fun hn => by cases hn) (fun _ => ?_)
          refine t_gd true false (by kernel_rfl) (fun hn => by cases hn) (fun _ => ?_)
          refine t_gd true false (by kernel_rfl) (fun hn => by cases hn) (fun _ => ?_)
          refine t_gd true false (by kernel_rfl) (fun hn => by cases hn) (fun _ => ?_)
          refine t_gd true false (by kernel_rfl) (fun hn => by cases hn) (fun _ => ?_)
          refine t_gd true false (by kernel_rfl) (fun hn => by cases hn) (fun _ => ?_)
          refine t_done [a0, b1, d7, (.bool (((len2 : Int)) != (len3 : Int))), (.int .i64 i8), (.bool (decide (i8 < (len12 : Int)))), (.bool true)] H18 (by kernel_rfl) ?_
          refine then_norm ?_
          refine w_cond (t := true) rfl (fun _ => ?_) (fun hc => by cases hc)
          refine w_seq ?_
          refine w_run [0] ?_
          refine t_done [a0, b1, (.bool false), (.bool (((len2 : Int)) != (len3 : Int))), (.int .i64 i8), (.bool (decide (i8 < (len12 : Int)))), (.bool true)] H18 (by kernel_rfl) ?_
          refine then_norm ?_
          refine w_ret ?_
          refine block_ret ?_
          refine then_ret ?_
          refine loop_ret ?_
          refine block_ret ?_
          refine then_ret ?_
          exact body_ret (vs := [(.bool false)]) _ (by kernel_rfl) rfl h
      · replace h := h.1 ((is_not is_raw).t hc)
        refine t_gd true false (by kernel_rfl) (fun hn => by cases hn) (fun _ => ?_)
        refine t_gd true false (by kernel_rfl) (fun hn => by cases hn) (fun _ => ?_)
        refine t_gd true false (by kernel_rfl) (fun hn => by cases hn) (fun _ => ?_)
        refine t_gd true false (by kernel_rfl) (fun hn => by cases hn) (fun _ => ?_)
        refine t_gd true false (by kernel_rfl) (fun hn => by cases hn) (fun _ => ?_)
        refine t_gd true false (by kernel_rfl) (fun hn => by cases hn) (fun _ => ?_)
        refine t_gd true false (by kernel_rfl) (fun hn => by cases hn) (fun _ => ?_)
        refine t_gd true false (by kernel_rfl) (fun hn => by cases hn) (fun _ => ?_)
        refine t_gd true false (by kernel_rfl) (fun hn => by cases hn) (fun _ => ?_)
        refine t_gd true false (by kernel_rfl) (fun hn => by cases hn) (fun _ => ?_)
        refine t_gd true false (by kernel_rfl) (fun hn => by cases hn) (fun _ => ?_)
        refine t_gd true false (by kernel_rfl) (fun hn => by cases hn) (fun _ => ?_)
        refine t_gd true false (by kernel_rfl) (fun hn => by cases hn) (fun _ => ?_)
        refine t_done [a0, b1, d7, (.bool (((len2 : Int)) != (len3 : Int))), (.int .i64 i8), (.bool (decide (i8 < (len12 : Int)))), (.bool true)] H18 (by kernel_rfl) ?_
        refine then_norm ?_
        refine w_cond (t := true) rfl (fun _ => ?_) (fun hc => by cases hc)
        refine w_seq ?_
        refine w_run [0] ?_
        refine t_done [a0, b1, (.bool false), (.bool (((len2 : Int)) != (len3 : Int))), (.int .i64 i8), (.bool (decide (i8 < (len12 : Int)))), (.bool true)] H18 (by kernel_rfl) ?_
        refine then_norm ?_
        refine w_ret ?_
        refine block_ret ?_
        refine then_ret ?_
        refine loop_ret ?_
        refine block_ret ?_
        refine then_ret ?_
        exact body_ret (vs := [(.bool false)]) _ (by kernel_rfl) rfl h
    · replace h := h.2 (is_dec.f hc)
      refine w_exit ?_
      refine then_exit ?_
      refine loop_exit ?_
      refine block_exit ?_
      refine then_norm ?_
      refine w_seq ?_
      refine w_run [0] ?_
      refine t_done [a0, b1, (.bool true), (.bool (((len2 : Int)) != (len3 : Int))), (.int .i64 i8), (.bool (decide (i8 < (len12 : Int)))), d10] H11 (by kernel_rfl) ?_
      refine then_norm ?_
      refine w_ret ?_
      exact body_ret (vs := [(.bool true)]) _ (by kernel_rfl) rfl h

def rf_LrolloutExample (nrollout_Run nrollout_Versions nFEqualRings nFEqualInts : Nat) : RFunc := ⟨0, 6, [.var 0],
 ((.seq (.ops [⟨.move (.k (.bool false)), none, (some 0), true⟩])
 ((.seq (.ops [⟨.build [.int .i64 0, .int .i64 0, .int .i64 0, .int .i64 0, .int .i64 0] [(0, 1, (.k (.int .i64 1))), (1, 1, (.k (.int .i64 7)))], none, none, true⟩, ⟨.build [.int .i64 0, .int .i64 0, .int .i64 0, .int .i64 0, .int .i64 0] [(0, 1, (.k (.int .i64 3)))], none, none, true⟩, ⟨.buildSlice 5 [.int .i64 0, .int .i64 0, .int .i64 0, .int .i64 0, .int .i64 0] [(0, 5, (.loc 0)), (5, 5, (.loc 1))] 2, none, none, true⟩, ⟨.move (.loc 2), none, (some 1), true⟩])
 ((.seq (.ops [⟨.build [.int .i64 0, .int .i64 0] [], none, none, true⟩, ⟨.move (.var 1), none, none, true⟩, ⟨.callS nrollout_Run [(.k (.int .i64 2)), (.loc 0), (.k (.int .i64 0)), (.k (.int .i64 50)), (.loc 1)], none, none, true⟩, ⟨.move (.loc 2), none, none, true⟩, ⟨.extract (.loc 3) 0, none, none, true⟩, ⟨.extract (.loc 3) 1, none, none, true⟩, ⟨.tomb 1 (.k (.agg [.int .i64 0, .int .i64 0])), none, (some 2), true⟩, ⟨.move (.loc 4), none, (some 4), true⟩, ⟨.upd 2 0 (.loc 6) (.loc 5), none, (some 2), true⟩])
 ((.seq (.ops [⟨.build [.int .i64 0, .int .i64 0] [], none, none, true⟩, ⟨.move (.var 1), none, none, true⟩, ⟨.callS nrollout_Versions [(.k (.int .i64 2)), (.loc 0), (.k (.int .i64 0)), (.k (.int .i64 50)), (.loc 1)], none, none, true⟩, ⟨.move (.loc 2), none, none, true⟩, ⟨.extract (.loc 3) 0, none, none, true⟩, ⟨.extract (.loc 3) 1, none, none, true⟩, ⟨.tomb 1 (.k (.agg [.int .i64 0, .int .i64 0])), none, (some 3), true⟩, ⟨.move (.loc 4), none, (some 5), true⟩, ⟨.upd 2 0 (.loc 6) (.loc 5), none, (some 3), true⟩])
 ((.seq (.ops [⟨.field 0 none (.var 2), none, none, true⟩, ⟨.field 0 none (.var 2), none, none, true⟩, ⟨.bin .eql .no (.loc 1) (.k (.int .i64 0)), none, none, true⟩, ⟨.move (.loc 2), none, none, true⟩, ⟨.field 0 none (.var 3), none, none, true⟩, ⟨.field 0 none (.var 3), none, none, true⟩, ⟨.bin .eql .no (.loc 5) (.k (.int .i64 0)), none, none, true⟩, ⟨.pick (.loc 3) (.loc 6) (.k (.bool false)), none, none, true⟩, ⟨.move (.loc 7), none, none, true⟩, ⟨.move (.var 4), none, none, true⟩, ⟨.buildSlice 1 [.int .i64 0] [(0, 1, (.k (.int .i64 7)))] 1, (some (8, true)), none, true⟩, ⟨.build [.empty, .int .i64 0, .int .i64 0, .int .i64 0] [(0, 1, (.loc 10))], (some (8, true)), none, true⟩, ⟨.build [.empty, .int .i64 0, .int .i64 0, .int .i64 0] [(1, 1, (.k (.int .i64 7)))], none, none, true⟩, ⟨.buildSlice 4 [.empty, .int .i64 0, .int .i64 0, .int .i64 0] [(0, 4, (.loc 11)), (4, 4, (.loc 12))] 2, (some (8, true)), none, true⟩, ⟨.callS nFEqualRings [(.loc 9), (.loc 13)], (some (8, true)), none, true⟩, ⟨.pick (.loc 8) (.loc 14) (.k (.bool false)), none, none, true⟩, ⟨.move (.loc 15), none, none, true⟩, ⟨.move (.var 5), none, none, true⟩, ⟨.buildSlice 1 [.int .i64 0] [(0, 1, (.k (.int .i64 7))), (1, 1, (.k (.int .i64 7)))] 2, (some (16, true)), none, true⟩, ⟨.callS nFEqualInts [(.loc 17), (.loc 18)], (some (16, true)), none, true⟩, ⟨.pick (.loc 16) (.loc 19) (.k (.bool false)), none, none, true⟩, ⟨.move (.loc 20), none, (some 0), true⟩])
 (.ret)))))))))))⟩
theorem v_LrolloutExample {F : Nat → Option RFunc} {me nrollout_Run nrollout_Versions nFEqualRings nFEqualInts : Nat} (hF : F me = some (rf_LrolloutExample nrollout_Run nrollout_Versions nFEqualRings nFEqualInts)) {fl : Nat} {H : Heap} {Q : AV → Heap → Prop} 
  (h : ∀ (b0 : Nat) (H1 : Heap), NewB H 5 [(.int .i64 1), (.int .i64 7), (.int .i64 0), (.int .i64 0), (.int .i64 0), (.int .i64 3), (.int .i64 0), (.int .i64 0), (.int .i64 0), (.int .i64 0)] b0 H1 → Ret F fl nrollout_Run [(.int .i64 2), (.agg [(.int .i64 0), (.int .i64 0)]), (.int .i64 0), (.int .i64 50), (.slice b0 0 2 (some 2))] H1 (fun v6 H5 => ∃ (r2 : AV) (r3 : Int) (r4 : Int), v6 = (.tuple [r2, (.agg [(.int .i64 r3), (.int .i64 r4)])]) ∧ ∀ (H7 : Heap), Dead1 H5 1 H7 → Ret F fl nrollout_Versions [(.int .i64 2), (.agg [(.int .i64 0), (.int .i64 0)]), (.int .i64 0), (.int .i64 50), (.slice b0 0 2 (some 2))] H7 (fun v12 H11 => ∃ (r8 : AV) (r9 : Int) (r10 : Int), v12 = (.tuple [r8, (.agg [(.int .i64 r9), (.int .i64 r10)])]) ∧ ∀ (H13 : Heap), Dead1 H11 1 H13 → ((((r3 = 0) ∧ (r9 = 0))) → ∀ (b14 : Nat) (H15 : Heap), NewB H13 1 [(.int .i64 7)] b14 H15 → ∀ (b16 : Nat) (H17 : Heap), NewB H15 4 [(.slice b14 0 1 (some 1)), (.int .i64 0), (.int .i64 0), (.int .i64 0), .empty, (.int .i64 7), (.int .i64 0), (.int .i64 0)] b16 H17 → Ret F fl nFEqualRings [r2, (.slice b16 0 2 (some 2))] H17 (fun v20 H19 => ∃ (r18 : Bool), v20 = (.bool r18) ∧ ((r18 = true) → ∀ (b21 : Nat) (H22 : Heap), NewB H19 1 [(.int .i64 7), (.int .i64 7)] b21 H22 → Ret F fl nFEqualInts [r8, (.slice b21 0 2 (some 2))] H22 (fun v25 H24 => ∃ (r23 : Bool), v25 = (.bool r23) ∧ Q (.bool r23) H24)) ∧ (¬(r18 = true) → Q (.bool false) H19))) ∧ (¬(((r3 = 0) ∧ (r9 = 0))) → Q (.bool false) H13)))) : Ret F fl me [] H Q := by
  refine ret_intro hF rfl ?_
  refine w_seq ?_
  refine w_run [0] ?_
  refine t_done [(.bool false), .undef, .undef, .undef, .undef, .undef] H (by kernel_rfl) ?_
  refine then_norm ?_
  refine w_seq ?_
  refine w_run [1, 1, 1, 0] ?_
  refine t_build true [(.int .i64 0), (.int .i64 0), (.int .i64 0), (.int .i64 0), (.int .i64 0)] [(0, 1, .loc 0), (1, 1, .loc 1)] [(.int .i64 1), (.int .i64 7)] [(.int .i64 1), (.int .i64 7), (.int .i64 0), (.int .i64 0), (.int .i64 0)] H (by kernel_rfl) (fill_c (vs := [(.int .i64 1)]) (size := 1) rfl (by kernel_rfl) (by kernel_rfl) (fill_c (vs := [(.int .i64 7)]) (size := 1) rfl (by kernel_rfl) (by kernel_rfl) (by kernel_rfl))) ?_
  refine t_build true [(.int .i64 0), (.int .i64 0), (.int .i64 0), (.int .i64 0), (.int .i64 0)] [(0, 1, .loc 0)] [(.int .i64 3)] [(.int .i64 3), (.int .i64 0), (.int .i64 0), (.int .i64 0), (.int .i64 0)] H (by kernel_rfl) (fill_c (vs := [(.int .i64 3)]) (size := 1) rfl (by kernel_rfl) (by kernel_rfl) (by kernel_rfl)) ?_
  obtain ⟨b0, H1, hb⟩ : ∃ b H', NewB H 5 [(.int .i64 1), (.int .i64 7), (.int .i64 0), (.int .i64 0), (.int .i64 0), (.int .i64 3), (.int .i64 0), (.int .i64 0), (.int .i64 0), (.int .i64 0)] b H' := ⟨_, _, rfl, rfl⟩
  replace h := h b0 H1 hb
  refine t_bs true 5 [(.int .i64 0), (.int .i64 0), (.int .i64 0), (.int .i64 0), (.int .i64 0)] [(0, 5, .loc 0), (5, 5, .loc 1)] 2 [(.agg [(.int .i64 1), (.int .i64 7), (.int .i64 0), (.int .i64 0), (.int .i64 0)]), (.agg [(.int .i64 3), (.int .i64 0), (.int .i64 0), (.int .i64 0), (.int .i64 0)])] [(.int .i64 1), (.int .i64 7), (.int .i64 0), (.int .i64 0), (.int .i64 0), (.int .i64 3), (.int .i64 0), (.int .i64 0), (.int .i64 0), (.int .i64 0)] b0 H1 H (by kernel_rfl) (fill_c (vs := [(.int .i64 1), (.int .i64 7), (.int .i64 0), (.int .i64 0), (.int .i64 0)]) (size := 5) rfl (by kernel_rfl) (by kernel_rfl) (fill_c (vs := [(.int .i64 3), (.int .i64 0), (.int .i64 0), (.int .i64 0), (.int .i64 0)]) (size := 5) rfl (by kernel_rfl) (by kernel_rfl) (by kernel_rfl))) hb ?_
  refine t_done [(.bool false), (.slice b0 0 2 (some 2)), .undef, .undef, .undef, .undef] H1 (by kernel_rfl) ?_
  refine then_norm ?_
  refine w_seq ?_
  refine w_run [1, 0, 1, 0, 0, 0, 1, 0, 1] ?_
  refine t_build true [(.int .i64 0), (.int .i64 0)] [] [] [(.int .i64 0), (.int .i64 0)] H1 (by kernel_rfl) (by kernel_rfl) ?_
  refine t_call true nrollout_Run [(.int .i64 2), (.agg [(.int .i64 0), (.int .i64 0)]), (.int .i64 0), (.int .i64 50), (.slice b0 0 2 (some 2))] H1 (by kernel_rfl) h ?_
  clear h
  rintro _ H5 ⟨r2, r3, r4, rfl, h⟩
  obtain ⟨H7, hb⟩ : ∃ H', Dead1 H5 1 H' := ⟨_, ⟨rfl⟩⟩
  replace h := h H7 hb
  refine t_tomb true 1 (.agg [(.int .i64 0), (.int .i64 0)]) [(.int .i64 0), (.int .i64 0)] H7 H5 (by kernel_rfl) rfl hb ?_
  refine t_upd true 2 0 [(.int .i64 0), (.int .i64 0)] (.agg [(.int .i64 r3), (.int .i64 r4)]) [(.int .i64 r3), (.int .i64 r4)] [(.int .i64 r3), (.int .i64 r4)] H7 (by kernel_rfl) rfl (all_c rfl (all_c rfl all_n)) ⟨rfl, Nat.le_of_ble_eq_true (by kernel_rfl), rfl⟩ ?_
  refine t_done [(.bool false), (.slice b0 0 2 (some 2)), (.agg [(.int .i64 r3), (.int .i64 r4)]), .undef, r2, .undef] H7 (by kernel_rfl) ?_
  refine then_norm ?_
  refine w_seq ?_
  refine w_run [1, 0, 1, 0, 0, 0, 1, 0, 1] ?_
  refine t_build true [(.int .i64 0), (.int .i64 0)] [] [] [(.int .i64 0), (.int .i64 0)] H7 (by kernel_rfl) (by kernel_rfl) ?_
  refine t_call true nrollout_Versions [(.int .i64 2), (.agg [(.int .i64 0), (.int .i64 0)]), (.int .i64 0), (.int .i64 50), (.slice b0 0 2 (some 2))] H7 (by kernel_rfl) h ?_
  clear h
  rintro _ H11 ⟨r8, r9, r10, rfl, h⟩
  obtain ⟨H13, hb⟩ : ∃ H', Dead1 H11 1 H' := ⟨_, ⟨rfl⟩⟩
  replace h := h H13 hb
  refine t_tomb true 1 (.agg [(.int .i64 0), (.int .i64 0)]) [(.int .i64 0), (.int .i64 0)] H13 H11 (by kernel_rfl) rfl hb ?_
  refine t_upd true 2 0 [(.int .i64 0), (.int .i64 0)] (.agg [(.int .i64 r9), (.int .i64 r10)]) [(.int .i64 r9), (.int .i64 r10)] [(.int .i64 r9), (.int .i64 r10)] H13 (by kernel_rfl) rfl (all_c rfl (all_c rfl all_n)) ⟨rfl, Nat.le_of_ble_eq_true (by kernel_rfl), rfl⟩ ?_
  refine t_done [(.bool false), (.slice b0 0 2 (some 2)), (.agg [(.int .i64 r3), (.int .i64 r4)]), (.agg [(.int .i64 r9), (.int .i64 r10)]), r2, r8] H13 (by kernel_rfl) ?_
  refine then_norm ?_
  refine w_seq ?_
  refine w_run [0, 0, 0, 0, 0, 0, 0, 0, 0, 0, 3, 3, 1, 3, 3, 0, 0, 0, 3, 3, 0, 0] ?_
  refine t_gd (((r3) == 0) && ((r9) == 0)) true (by kernel_rfl) (fun hc => ?_) (fun hc => ?_)
  · replace h := h.1 ((is_and is_eq is_eq).t hc)
    obtain ⟨b14, H15, hb⟩ : ∃ b H', NewB H13 1 [(.int .i64 7)] b H' := ⟨_, _, rfl, rfl⟩
    replace h := h b14 H15 hb
    refine t_bs true 1 [(.int .i64 0)] [(0, 1, .loc 0)] 1 [(.int .i64 7)] [(.int .i64 7)] b14 H15 H13 (by kernel_rfl) (fill_c (vs := [(.int .i64 7)]) (size := 1) rfl (by kernel_rfl) (by kernel_rfl) (by kernel_rfl)) hb ?_
    refine t_gd true true (by kernel_rfl) (fun _ => ?_) (fun hn => by cases hn)
    refine t_build true [.empty, (.int .i64 0), (.int .i64 0), (.int .i64 0)] [(0, 1, .loc 0)] [(.slice b14 0 1 (some 1))] [(.slice b14 0 1 (some 1)), (.int .i64 0), (.int .i64 0), (.int .i64 0)] H15 (by kernel_rfl) (fill_c (vs := [(.slice b14 0 1 (some 1))]) (size := 1) rfl (by kernel_rfl) (by kernel_rfl) (by kernel_rfl)) ?_
    refine t_build true [.empty, (.int .i64 0), (.int .i64 0), (.int .i64 0)] [(1, 1, .loc 0)] [(.int .i64 7)] [.empty, (.int .i64 7), (.int .i64 0), (.int .i64 0)] H15 (by kernel_rfl) (fill_c (vs := [(.int .i64 7)]) (size := 1) rfl (by kernel_rfl) (by kernel_rfl) (by kernel_rfl)) ?_
    refine t_gd true true (by kernel_rfl) (fun _ => ?_) (fun hn => by cases hn)
    obtain ⟨b16, H17, hb⟩ : ∃ b H', NewB H15 4 [(.slice b14 0 1 (some 1)), (.int .i64 0), (.int .i64 0), (.int .i64 0), .empty, (.int .i64 7), (.int .i64 0), (.int .i64 0)] b H' := ⟨_, _, rfl, rfl⟩
    replace h := h b16 H17 hb
    refine t_bs true 4 [.empty, (.int .i64 0), (.int .i64 0), (.int .i64 0)] [(0, 4, .loc 0), (4, 4, .loc 1)] 2 [(.agg [(.slice b14 0 1 (some 1)), (.int .i64 0), (.int .i64 0), (.int .i64 0)]), (.agg [.empty, (.int .i64 7), (.int .i64 0), (.int .i64 0)])] [(.slice b14 0 1 (some 1)), (.int .i64 0), (.int .i64 0), (.int .i64 0), .empty, (.int .i64 7), (.int .i64 0), (.int .i64 0)] b16 H17 H15 (by kernel_rfl) (fill_c (vs := [(.slice b14 0 1 (some 1)), (.int .i64 0), (.int .i64 0), (.int .i64 0)]) (size := 4) rfl (by kernel_rfl) (by kernel_rfl) (fill_c (vs := [.empty, (.int .i64 7), (.int .i64 0), (.int .i64 0)]) (size := 4) rfl (by kernel_rfl) (by kernel_rfl) (by kernel_rfl))) hb ?_
    refine t_gd true true (by kernel_rfl) (fun _ => ?_) (fun hn => by cases hn)
    refine t_call true nFEqualRings [r2, (.slice b16 0 2 (some 2))] H17 (by kernel_rfl) h ?_
    clear h
    rintro _ H19 ⟨r18, rfl, h⟩
    refine t_gd r18 true (by kernel_rfl) (fun hc => ?_) (fun hc => ?_)
    · replace h := h.1 (is_raw.t hc)
      obtain ⟨b21, H22, hb⟩ : ∃ b H', NewB H19 1 [(.int .i64 7), (.int .i64 7)] b H' := ⟨_, _, rfl, rfl⟩
      replace h := h b21 H22 hb
      refine t_bs true 1 [(.int .i64 0)] [(0, 1, .loc 0), (1, 1, .loc 1)] 2 [(.int .i64 7), (.int .i64 7)] [(.int .i64 7), (.int .i64 7)] b21 H22 H19 (by kernel_rfl) (fill_c (vs := [(.int .i64 7)]) (size := 1) rfl (by kernel_rfl) (by kernel_rfl) (fill_c (vs := [(.int .i64 7)]) (size := 1) rfl (by kernel_rfl) (by kernel_rfl) (by kernel_rfl))) hb ?_
      refine t_gd true true (by kernel_rfl) (fun _ => ?_) (fun hn => by cases hn)
      refine t_call true nFEqualInts [r8, (.slice b21 0 2 (some 2))] H22 (by kernel_rfl) h ?_
      clear h
      rintro _ H24 ⟨r23, rfl, h⟩
      refine t_done [(.bool r23), (.slice b0 0 2 (some 2)), (.agg [(.int .i64 r3), (.int .i64 r4)]), (.agg [(.int .i64 r9), (.int .i64 r10)]), r2, r8] H24 (by kernel_rfl) ?_
      refine then_norm ?_
      refine w_ret ?_
      exact body_ret (vs := [(.bool r23)]) _ (by kernel_rfl) rfl h
    · replace h := h.2 (is_raw.f hc)
      refine t_gd false true (by kernel_rfl) (fun hn => by cases hn) (fun _ => ?_)
      refine t_done [(.bool false), (.slice b0 0 2 (some 2)), (.agg [(.int .i64 r3), (.int .i64 r4)]), (.agg [(.int .i64 r9), (.int .i64 r10)]), r2, r8] H19 (by kernel_rfl) ?_
      refine then_norm ?_
      refine w_ret ?_
      exact body_ret (vs := [(.bool false)]) _ (by kernel_rfl) rfl h
  · replace h := h.2 ((is_and is_eq is_eq).f hc)
    refine t_gd false true (by kernel_rfl) (fun hn => by cases hn) (fun _ => ?_)
    refine t_build true [.empty, (.int .i64 0), (.int .i64 0), (.int .i64 0)] [(1, 1, .loc 0)] [(.int .i64 7)] [.empty, (.int .i64 7), (.int .i64 0), (.int .i64 0)] H13 (by kernel_rfl) (fill_c (vs := [(.int .i64 7)]) (size := 1) rfl (by kernel_rfl) (by kernel_rfl) (by kernel_rfl)) ?_
    refine t_gd false true (by kernel_rfl) (fun hn => by cases hn) (fun _ => ?_)
    refine t_gd false true (by kernel_rfl) (fun hn => by cases hn) (fun _ => ?_)
    refine t_gd false true (by kernel_rfl) (fun hn => by cases hn) (fun _ => ?_)
    refine t_gd false true (by kernel_rfl) (fun hn => by cases hn) (fun _ => ?_)
    refine t_done [(.bool false), (.slice b0 0 2 (some 2)), (.agg [(.int .i64 r3), (.int .i64 r4)]), (.agg [(.int .i64 r9), (.int .i64 r10)]), r2, r8] H13 (by kernel_rfl) ?_
    refine then_norm ?_
    refine w_ret ?_
    exact body_ret (vs := [(.bool false)]) _ (by kernel_rfl) rfl h

end Go.RM

/-
  The reference's rollouts: lists of versions.
-/
namespace Go.RM
set_option linter.unusedSimpArgs false
set_option linter.unusedVariables false
set_option maxRecDepth 4000

/-- append(x, a) of one new element. -/
theorem Own.pushN {n e m : Nat} {H H1 : Heap} {cs ys : List AV} {x : AV} {fl bytes b : Nat} (he : 0 < e) (h : Own n H e x m cs) (hb : NewB H e ys b H1) (hy : ys.length = e) (hn : n ≤ H.length) (hfl : fl ≤ n) (hs : ys.all AV.scalar = true) (hlen : m + 1 ≤ 2 ^ 30) (hby : bytes ≤ 4096 := by decide) :
    ∃ v H', appA fl true e bytes H1 x (.slice b 0 1 (some 1)) = some (v, H') ∧ Own n H' e v (m + 1) (cs ++ ys) ∧ Keep n H H' ∧ (∀ c, c < H.length → ¬ At x c → H'[c]? = H[c]?) ∧ (∀ c, At v c → At x c ∨ H.length ≤ c) := by
  have hl := hb.keep.len
  obtain ⟨v, H', a1, a2, a3, a4, a5⟩ := (h.keep hb.keep).push he (hb.sl (n := 1) (by rw [hy, Nat.one_mul])) (by omega) hfl hs hlen hby
  have hf : ∀ c, c < H.length → ¬ At x c → H'[c]? = H[c]? := fun c hc hne => by rw [a4 c (by omega) hne, hb.keep.get c hc]
  exact ⟨v, H', a1, a2, ⟨hn, by omega, fun c hc => hf c (by omega) fun ha => by have := (h.at_lt ha).1; omega⟩, hf, fun c hc => (a5 c hc).imp id fun h => by omega⟩

theorem splice_mid {l ws : List AV} {off o n : Nat} (h : o + ws.length ≤ n) (hn : off + n ≤ l.length) : ((splice l (off + o) ws).drop off).take n = splice ((l.drop off).take n) o ws := by
  apply List.ext_getElem?
  intro j
  rw [splice_get (by rw [List.length_take, List.length_drop]; omega), List.getElem?_take, List.getElem?_drop, splice_get (by omega), List.getElem?_take, List.getElem?_drop]
  by_cases h1 : o ≤ j ∧ j < o + ws.length
  · rw [if_pos (by omega), if_pos (by omega), if_pos h1]; congr 1; omega
  · rw [if_neg h1]
    by_cases h2 : j < n
    · rw [if_pos h2, if_pos h2, if_neg (by omega)]
    · rw [if_neg h2, if_neg h2]

/-- An element is written. -/
theorem Own.put {n e m : Nat} {H : Heap} {cs : List AV} {v : AV} {fl i : Nat} {w : AV} (h : Own n H e v m cs) (hi : i < m) (hw : w.cells.length = e) (hs : w.cells.all AV.scalar = true) (hfl : fl ≤ n) :
    ∃ b o H', ptrA e v (i : Int) = some (b, o) ∧ putA fl H b o e w = some H' ∧ At v b ∧ Own n H' e v m (splice cs (i * e) w.cells) ∧ KeepX b H H' := by
  rcases h.out with ⟨_, h0, _⟩ | ⟨b, off, lim, k, rfl, h2, h3, h4, h5, h6, h7, ⟨q, h9⟩, h8⟩
  · omega
  have hm : i * e + e ≤ m * e := by
    have : (i + 1) * e ≤ m * e := Nat.mul_le_mul_right e hi
    rw [Nat.succ_mul] at this; omega
  have hfit : off + i * e + w.cells.length ≤ k.cells.length := by omega
  have hsl := splice_len hfit
  refine ⟨b, off + i * e, H.set b { k with cells := splice k.cells (off + i * e) w.cells, clean := false }, ?_, ?_, at_slice, ⟨h.small, .inr ⟨b, off, lim, { k with cells := splice k.cells (off + i * e) w.cells, clean := false }, rfl, h2, ?_, h4, h5, ?_, ?_, ⟨q, ?_⟩, ?_⟩⟩, ⟨by simp, fun b' hne => by rw [List.getElem?_set_ne (Ne.symm hne)]⟩⟩
  · show (if (0 : Int) ≤ i ∧ (i : Int) < m then some (b, off + (i : Int).toNat * e) else none) = _
    rw [if_pos (by omega), Int.toNat_natCast]
  · unfold putA
    rw [if_pos hw, rput_ok h3 h4 (Nat.le_trans hfl h2) hfit hs]
  · rw [List.getElem?_set_self (get_lt h3)]
  · simp only; rw [hsl]; exact h6
  · simp only
    rw [h7]
    exact (splice_mid (by omega) h6).symm
  · simp only; rw [hsl, h9]
  · intro c hc
    simp only; rw [hsl]; exact h8 c hc

namespace Rol
structure Ent where
  v : Int
  r : Int
  c1 : Int
  c2 : Int
end Rol
open Rol

abbrev vsE (l : List Ent) : List Int := l.map (·.v)
abbrev reE (l : List Ent) : List Int := l.map (·.r)
def cntE (c : Int × Int) : List AV := [i64 c.1, i64 c.2]
def tCnt : Ty (Int × Int) := tEnc 2 cntE (by decide) (fun _ => rfl) (fun _ => rfl)
theorem tCnt.plain : tCnt.Plain := fun h => h
abbrev csE (l : List Ent) : List (Int × Int) := l.map fun e => (e.c1, e.c2)
theorem Arr.cnt {H : Heap} {v : AV} {l : List (Int × Int)} (h : Arr tCnt H v l) {i : Nat} (hi : i < l.length) : getA H 2 (some 2) v (i : Int) 0 = some (.agg [i64 l[i].1, i64 l[i].2]) ∧ getA H 2 none v (i : Int) 0 = some (i64 l[i].1) ∧ getA H 2 none v (i : Int) 1 = some (i64 l[i].2) := ⟨Arr.enc h hi, Arr.cell h hi 0 rfl, Arr.cell h hi 1 rfl⟩

structure DepA (H : Heap) (a b c : AV) (l : List Ent) : Prop where
  vs : Ints H a (vsE l)
  re : Ints H b (reE l)
  cs : Arr tCnt H c (csE l)
theorem DepA.keep {H H' : Heap} {a b c : AV} {l : List Ent} (h : DepA H a b c l) (k : Keep H.length H H') : DepA H' a b c l := ⟨h.vs.keep k, h.re.keep k, h.cs.keep k⟩
theorem DepA.nil {H : Heap} : DepA H .empty .empty .empty [] := ⟨Arr.nil, Arr.nil, Arr.nil⟩

abbrev cells2 (l : List (Int × Int)) : List AV := (l.map cntE).flatten
structure DepO (n : Nat) (H : Heap) (a b c : AV) (l : List Ent) : Prop where
  vs : Own n H 1 a l.length (ints (vsE l))
  re : Own n H 1 b l.length (ints (reE l))
  cs : Own n H 2 c l.length (cells2 (csE l))
  d1 : ∀ x, At a x → ¬ At b x
  d2 : ∀ x, At a x → ¬ At c x
  d3 : ∀ x, At b x → ¬ At c x
theorem DepO.nil {n : Nat} {H : Heap} : DepO n H .empty .empty .empty [] := ⟨Own.nil, Own.nil, Own.nil, fun _ h => absurd h at_empty, fun _ h => absurd h at_empty, fun _ h => absurd h at_empty⟩
theorem DepO.keep {n : Nat} {H H' : Heap} {a b c : AV} {l : List Ent} (h : DepO n H a b c l) (k : Keep H.length H H') : DepO n H' a b c l := ⟨h.vs.keep k, h.re.keep k, h.cs.keep k, h.d1, h.d2, h.d3⟩
theorem DepO.scal {n : Nat} {H : Heap} {a b c : AV} {l : List Ent} (h : DepO n H a b c l) : Scal a ∧ Scal b ∧ Scal c := ⟨h.vs.scal, h.re.scal, h.cs.scal⟩

variable {F : Nat → Option RFunc}

/-- One more version. -/
theorem DepO.push {n : Nat} {H : Heap} {a b c : AV} {l : List Ent} {fl : Nat} (h : DepO n H a b c l) (hn : n ≤ H.length) (hfl : fl ≤ n) (hl : l.length + 1 ≤ 2 ^ 30) (x : Ent) {Q : AV → AV → AV → Heap → Prop} {R1 R2 : AV → Heap → Prop}
    (r1 : ∀ a' H', Keep n H H' → Scal a' → R1 a' H')
    (hq : ∀ a' b' c' H', Keep n H H' → DepO n H' a' b' c' (l ++ [x]) → Q a' b' c' H') :
    ∀ (b30 : Nat) (H31 : Heap), NewB H 1 [i64 x.v] b30 H31 → ∃ (a32 : AV) (H33 : Heap), appA fl true 1 8 H31 a (.slice b30 0 1 (some 1)) = some (a32, H33) ∧ Scal a32 ∧ Keep n H H33 ∧ ∀ (b37 : Nat) (H38 : Heap), NewB H33 1 [i64 x.r] b37 H38 → ∃ (a39 : AV) (H40 : Heap), appA fl true 1 8 H38 b (.slice b37 0 1 (some 1)) = some (a39, H40) ∧ Scal a39 ∧ Keep n H H40 ∧ ∀ (b45 : Nat) (H46 : Heap), NewB H40 2 [i64 x.c1, i64 x.c2] b45 H46 → ∃ (a47 : AV) (H48 : Heap), appA fl true 2 16 H46 c (.slice b45 0 1 (some 1)) = some (a47, H48) ∧ Scal a47 ∧ Q a32 a39 a47 H48 := by
  intro b30 H31 hb30
  obtain ⟨a', H33, a1, a2, a3, a4, a5⟩ := h.vs.pushN (fl := fl) (bytes := 8) (by decide) hb30 rfl hn hfl rfl hl
  refine ⟨a', H33, a1, a2.scal, a3, fun b37 H38 hb37 => ?_⟩
  have ob := h.re.frame (H' := H33) fun y hy => a4 y (h.re.at_lt hy).2 fun ha => h.d1 y ha hy
  have oc := h.cs.frame (H' := H33) fun y hy => a4 y (h.cs.at_lt hy).2 fun ha => h.d2 y ha hy
  have n33 := Nat.le_trans a3.low a3.len
  obtain ⟨b', H40, b1, b2, b3, b4, b5⟩ := ob.pushN (fl := fl) (bytes := 8) (by decide) hb37 rfl n33 hfl rfl hl
  refine ⟨b', H40, b1, b2.scal, a3.tr b3, fun b45 H46 hb45 => ?_⟩
  have hab : ∀ y, At a' y → ¬ At b y := fun y hy hyb => by
    rcases a5 y hy with h1 | h1
    · exact h.d1 y h1 hyb
    · have := (h.re.at_lt hyb).2; omega
  have hac : ∀ y, At a' y → ¬ At c y := fun y hy hyc => by
    rcases a5 y hy with h1 | h1
    · exact h.d2 y h1 hyc
    · have := (h.cs.at_lt hyc).2; omega
  have oa2 := a2.frame (H' := H40) fun y hy => b4 y (a2.at_lt hy).2 fun hb => hab y hy hb
  have oc2 := oc.frame (H' := H40) fun y hy => b4 y (oc.at_lt hy).2 fun hb => h.d3 y hb hy
  have n40 := Nat.le_trans b3.low b3.len
  obtain ⟨c', H48, c1, c2, c3, c4, c5⟩ := oc2.pushN (fl := fl) (bytes := 16) (by decide) hb45 rfl (by omega) hfl rfl hl
  have hbc : ∀ y, At b' y → ¬ At c y := fun y hy hyc => by
    rcases b5 y hy with h1 | h1
    · exact h.d3 y h1 hyc
    · have := (oc.at_lt hyc).2; omega
  refine ⟨c', H48, c1, c2.scal, hq a' b' c' H48 ((a3.tr b3).tr c3) ⟨?_, ?_, ?_, ?_, ?_, ?_⟩⟩
  · have := oa2.frame (H' := H48) fun y hy => c4 y (oa2.at_lt hy).2 fun hc => hac y hy hc
    simpa [ints, vsE] using this
  · have := b2.frame (H' := H48) fun y hy => c4 y (b2.at_lt hy).2 fun hc => hbc y hy hc
    simpa [ints, reE] using this
  · simpa [cells2, csE, cntE] using c2
  · intro y hy hyb
    rcases b5 y hyb with h1 | h1
    · exact hab y hy h1
    · have := (a2.at_lt hy).2; omega
  · intro y hy hyc
    rcases c5 y hyc with h1 | h1
    · exact hac y hy h1
    · have := (oa2.at_lt hy).2; omega
  · intro y hy hyc
    rcases c5 y hyc with h1 | h1
    · exact hbc y hy h1
    · have := (b2.at_lt hy).2; omega

/-! ### Drop, Active -/

def actD (l : List Ent) (r : Int) : Int := fidx (fun x => x == r) (reE l)
end Go.RM

/-
  The reference's rollouts: the rings of a list of versions.
-/
namespace Go.RM
set_option linter.unusedSimpArgs false
set_option linter.unusedVariables false
set_option maxRecDepth 4000

namespace Rol
/-- A version's part of ring k. -/
def put1 (k : Nat) (x : RS) (e : Ent) : RS := if (k : Int) < e.r then { x with conf := x.conf ++ [e.v] } else if (k : Int) = e.r then { x with act := e.v, good := e.c1, bad := e.c2 } else x
def rOf (es : List Ent) (k : Nat) : RS := es.foldl (put1 k) zeroR
def stateD (n : Nat) (es : List Ent) : List RS := (List.range n).map (rOf es)
end Rol
open Rol

theorem rOf_app (es : List Ent) (e : Ent) (k : Nat) : rOf (es ++ [e]) k = put1 k (rOf es k) e := by unfold rOf; rw [List.foldl_append]; rfl
theorem range_set {α : Type} {n j : Nat} {f g : Nat → α} {r : α} (h : ∀ k, k < n → k ≠ j → f k = g k) (hr : g j = r) : ((List.range n).map f).set j r = (List.range n).map g := by
  apply List.ext_getElem?
  intro k
  rw [List.getElem?_set, List.getElem?_map, List.getElem?_map]
  by_cases hk : k < n
  · rw [List.getElem?_range hk]
    by_cases e : j = k
    · subst e; rw [if_pos rfl, if_pos (by simpa using hk)]; simp [hr]
    · rw [if_neg e]; simp [h k hk (Ne.symm e)]
  · rw [List.getElem?_eq_none (by simpa using Nat.le_of_not_lt hk)]
    by_cases e : j = k
    · subst e; rw [if_pos rfl, if_neg (by simpa using hk)]; rfl
    · rw [if_neg e]; rfl
theorem range_eq {α : Type} {n : Nat} {f g : Nat → α} (h : ∀ k, k < n → f k = g k) : (List.range n).map f = (List.range n).map g := by
  apply List.map_congr_left
  intro k hk; exact h k (List.mem_range.1 hk)

variable {F : Nat → Option RFunc}
variable {n : Nat} {H H' : Heap} {pb b : Nat} {l : List (AV × RS)}

theorem RingsH.keep (h : RingsH n H pb b l) (k : Keep H.length H H') : RingsH n H' pb b l where
  row := h.row.keep k
  lo := h.lo
  own := fun x hx => (h.own x hx).keep k
  sep := h.sep
  offb := h.offb
  ne := h.ne
  small := h.small
theorem RingsH.arr (h : RingsH n H pb b l) {m : Nat} (hm : m = l.length) : Arr tRing H (.slice b 0 m (some m)) (rs l) := by
  subst hm
  have hsm := h.small
  obtain ⟨k, h1, h2, h3, h4⟩ := h.row.out
  have hfl := flat_len h.row.lens
  refine ⟨l.map ringC, All2.map fun x hx => ⟨x.1, rfl, (h.own x hx).ints⟩, ?_⟩
  rw [List.length_map] at hfl
  have e1 : (rs l).length = l.length := by simp
  rw [e1]
  refine ⟨by omega, .inr ⟨b, 0, some l.length, k, rfl, act_live h1 h2, h3, ?_, ?_, ?_⟩⟩
  · rw [h4, hfl]; show 0 + l.length * 4 ≤ _; omega
  · exact Nat.le_refl _
  · show _ = (k.cells.drop 0).take (l.length * 4)
    rw [h4, List.drop_zero, ← hfl, List.take_length]

/-! ### EqualRings -/

theorem RS.ext' {x y : RS} (h1 : x.conf = y.conf) (h2 : x.act = y.act) (h3 : x.good = y.good) (h4 : x.bad = y.bad) : x = y := by
  cases x; cases y; simp only at h1 h2 h3 h4; subst h1; subst h2; subst h3; subst h4; rfl

abbrev EqRingsC (F : Nat → Option RFunc) (f : Nat) : Prop := ∀ {fl H Q a b} {l m : List RS}, Arr tRing H a l → Arr tRing H b m → (l = m → Q (.bool true) H) → (l ≠ m → Q (.bool false) H) → Ret F fl f [a, b] H Q
theorem eqRings_c {f n1 : Nat} (hF : F f = some (rf_FEqualRings n1)) (h1 : FEqualIntsC F n1) : EqRingsC F f := fun {fl H Q a b l m} ha hb q1 q2 => by
  refine v_FEqualRings hF _ _ ?_
  refine ⟨_, ha.len, _, hb.len, fun hne => q2 fun e => hne (by rw [e]), fun heq => ?_⟩
  have hlm : l.length = m.length := by omega
  have hs := ha.small
  refine ⟨fun k i H' => ∃ j : Nat, i = j ∧ j + k = l.length ∧ H' = H ∧ l.take j = m.take j, l.length, ⟨0, rfl, by omega, rfl, by simp⟩, ?_⟩
  rintro k _ _ ⟨j, rfl, hk, rfl, hj⟩
  refine ⟨_, ha.len, fun hlt => ?_, fun hge => ?_⟩
  · have hil : j < l.length := by omega
    have him : j < m.length := by omega
    obtain ⟨w, x1, x2, x3, x4, x5, x6⟩ := ha.ring hil
    obtain ⟨w', y1, y2, y3, y4, y5, y6⟩ := hb.ring him
    have hno : l[j] ≠ m[j] → l ≠ m := fun h e => h (by subst e; rfl)
    refine ⟨_, x3, _, y3, h1 x1 y1 ⟨_, rfl, fun h => q2 (hno fun e => h (by rw [e]; simp)), fun h => ?_⟩⟩
    have h := of_decide_eq_true (Decidable.not_not.1 h)
    refine ⟨_, x4, _, y4, fun h => q2 (hno fun e => h (by rw [e])), fun h2 => ?_⟩
    have h2 := Decidable.not_not.1 h2
    refine ⟨_, _, ha.ringCnt hil, _, _, hb.ringCnt him, fun h => q2 (hno fun e => h (by rw [e]; exact ⟨rfl, rfl, trivial⟩)), fun h3 => ?_⟩
    obtain ⟨h3, h4, _⟩ := Decidable.not_not.1 h3
    refine ⟨k - 1, by omega, j + 1, wsucc hil hs, by omega, rfl, ?_⟩
    rw [List.take_succ_eq_append_getElem hil, List.take_succ_eq_append_getElem him, hj, RS.ext' h h2 h3 h4]
  · rw [List.take_of_length_le (by omega), List.take_of_length_le (by omega)] at hj
    exact q1 hj

end Go.RM

/-
  The reference's rollouts: a step.
-/
namespace Go.RM
set_option linter.unusedSimpArgs false
set_option linter.unusedVariables false
set_option maxRecDepth 4000

namespace Rol
def malB (e : Ev) : Prop := ((e.kind = 1 ∨ e.kind = 4) ∧ e.ring ≠ 0) ∨ (¬ (e.kind = 1 ∨ e.kind = 4) ∧ e.ver ≠ 0)
instance (e : Ev) : Decidable (malB e) := inferInstanceAs (Decidable (_ ∨ _))
def eg (l : List Ent) (i : Nat) : Ent := l.getD i ⟨0, 0, 0, 0⟩
def lastV (l : List Ent) : Int := lastI (l.map (·.v))
def stepD (p : PP) (rings : Int) (l : List Ent) (e : Ev) : Int × List Ent :=
  if e.kind < 1 ∨ e.kind > 4 then (4, l) else if malB e then (5, l) else if e.kind ≠ 2 ∧ (e.g ≠ 0 ∨ e.b ≠ 0) then (5, l) else if e.ring < 0 ∨ e.ring ≥ rings then (3, l) else
    if e.kind = 4 then (if l.any (fun x => x.v == e.ver) then (0, l.eraseIdx (l.findIdx fun x => x.v == e.ver)) else (6, l)) else
    if e.kind = 1 then
      (if e.ver < 1 ∨ e.ver > 1000000000 then (3, l) else if actD l e.ring ≥ 0 then (15, l) else if l ≠ [] ∧ e.ver ≤ lastV l then (16, l) else (0, l ++ [⟨e.ver, 0, 0, 0⟩])) else
    if e.kind = 2 ∧ ¬ okC e.g e.b then (3, l) else if actD l e.ring < 0 then (11, l) else
    if e.kind = 2 then
      (if ¬ okC ((eg l (actD l e.ring).toNat).c1 + e.g) ((eg l (actD l e.ring).toNat).c2 + e.b) then (10, l) else
        if verdictI p.b1 p.b2 ((eg l (actD l e.ring).toNat).c1 + e.g) ((eg l (actD l e.ring).toNat).c2 + e.b) p.need p.pm = 3 then (0, l.eraseIdx (actD l e.ring).toNat)
        else (0, l.set (actD l e.ring).toNat { eg l (actD l e.ring).toNat with c1 := (eg l (actD l e.ring).toNat).c1 + e.g, c2 := (eg l (actD l e.ring).toNat).c2 + e.b })) else
    if verdictI p.b1 p.b2 (eg l (actD l e.ring).toNat).c1 (eg l (actD l e.ring).toNat).c2 p.need p.pm ≠ 2 then (11, l) else if e.ring + 1 < rings ∧ actD l (e.ring + 1) ≥ 0 then (15, l) else
      (0, l.set (actD l e.ring).toNat { eg l (actD l e.ring).toNat with r := e.ring + 1, c1 := 0, c2 := 0 })
end Rol
open Rol

theorem eg_eq {l : List Ent} {i : Nat} (h : i < l.length) : eg l i = l[i] := by unfold eg; simp [List.getD, h]

theorem map_set_same {α β : Type} {f : α → β} {l : List α} {k : Nat} (hk : k < l.length) {y : α} (hy : f y = f l[k]) : (l.set k y).map f = l.map f := by
  apply List.ext_getElem?
  intro j
  rw [List.getElem?_map, List.getElem?_map, List.getElem?_set]
  split
  · rename_i e; subst e; simp [hk, hy]
  · rfl

variable {F : Nat → Option RFunc}

end Go.RM

/-
  Rollouts, plainly: rings that are written, and the list of versions, say the same.
-/
namespace Go.RM
set_option linter.unusedSimpArgs false
set_option linter.unusedVariables false
open Rol

theorem fold_none (k : Nat) : ∀ (es : List Ent) (x : RS), (∀ e ∈ es, e.r ≠ (k : Int)) → (es.foldl (put1 k) x).act = x.act ∧ (es.foldl (put1 k) x).good = x.good ∧ (es.foldl (put1 k) x).bad = x.bad
  | [], x, _ => ⟨rfl, rfl, rfl⟩
  | e :: es, x, h => by
    rw [List.foldl_cons]
    have he := h e (by simp)
    obtain ⟨i1, i2, i3⟩ := fold_none k es (put1 k x e) fun y hy => h y (by simp [hy])
    have : (put1 k x e).act = x.act ∧ (put1 k x e).good = x.good ∧ (put1 k x e).bad = x.bad := by
      unfold put1
      split
      · exact ⟨rfl, rfl, rfl⟩
      · rw [if_neg fun h => he h.symm]; exact ⟨rfl, rfl, rfl⟩
    rw [i1, i2, i3]; exact this
theorem fold_some (k : Nat) {e : Ent} (hr : e.r = (k : Int)) : ∀ (es : List Ent) (x : RS), e ∈ es → (∀ y ∈ es, y.r = (k : Int) → y = e) → (es.foldl (put1 k) x).act = e.v ∧ (es.foldl (put1 k) x).good = e.c1 ∧ (es.foldl (put1 k) x).bad = e.c2
  | [], x, h, _ => by simp at h
  | y :: es, x, h, hu => by
    rw [List.foldl_cons]
    by_cases hm : e ∈ es
    · exact fold_some k hr es _ hm fun z hz => hu z (by simp [hz])
    · have hy : e = y := by rcases List.mem_cons.1 h with h | h; exact h; exact absurd h hm
      subst hy
      obtain ⟨i1, i2, i3⟩ := fold_none k es (put1 k x e) fun z hz hzr => hm (hu z (by simp [hz]) hzr ▸ hz)
      have : (put1 k x e).act = e.v ∧ (put1 k x e).good = e.c1 ∧ (put1 k x e).bad = e.c2 := by
        unfold put1
        rw [if_neg (by omega), if_pos hr.symm]; exact ⟨rfl, rfl, rfl⟩
      rw [i1, i2, i3]; exact this
theorem fold_conf (k : Nat) : ∀ (es : List Ent) (x : RS), (es.foldl (put1 k) x).conf = x.conf ++ (es.filter fun e => decide ((k : Int) < e.r)).map (·.v)
  | [], x => by simp
  | e :: es, x => by
    rw [List.foldl_cons, fold_conf k es, List.filter_cons]
    unfold put1
    by_cases h : (k : Int) < e.r
    · rw [if_pos h, if_pos (by simpa using h)]; simp
    · have hf : ¬ decide ((k : Int) < e.r) = true := by rw [decide_eq_true_eq]; exact h
      rw [if_neg h, if_neg hf]
      split <;> rfl
theorem rOf_conf (es : List Ent) (k : Nat) : (rOf es k).conf = (es.filter fun e => decide ((k : Int) < e.r)).map (·.v) := by
  unfold rOf; rw [fold_conf]; rfl
/-- By what is kept of each version. -/
theorem rOf_conf' (es : List Ent) (k : Nat) : (rOf es k).conf = ((es.map fun e => (e.v, decide ((k : Int) < e.r))).filter (·.2)).map (·.1) := by
  rw [rOf_conf, List.filter_map, List.map_map]; rfl
theorem rOf_none {es : List Ent} {k : Nat} (h : ∀ e ∈ es, e.r ≠ (k : Int)) : (rOf es k).act = 0 ∧ (rOf es k).good = 0 ∧ (rOf es k).bad = 0 := fold_none k es zeroR h
theorem rOf_some {es : List Ent} {k : Nat} {e : Ent} (he : e ∈ es) (hr : e.r = (k : Int)) (hu : ∀ y ∈ es, y.r = (k : Int) → y = e) : (rOf es k).act = e.v ∧ (rOf es k).good = e.c1 ∧ (rOf es k).bad = e.c2 := fold_some k hr es zeroR he hu

def Uq (es : List Ent) (k : Nat) : Prop := ∀ x ∈ es, ∀ y ∈ es, x.r = (k : Int) → y.r = (k : Int) → x = y
theorem rOf_same {es es' : List Ent} {k : Nat} (hu : Uq es k) (h : ∀ x, x.r = (k : Int) → (x ∈ es ↔ x ∈ es')) : (rOf es k).act = (rOf es' k).act ∧ (rOf es k).good = (rOf es' k).good ∧ (rOf es k).bad = (rOf es' k).bad := by
  by_cases hx : ∃ x ∈ es, x.r = (k : Int)
  · obtain ⟨x, hx, hr⟩ := hx
    obtain ⟨a1, a2, a3⟩ := rOf_some hx hr fun y hy hyr => hu y hy x hx hyr hr
    obtain ⟨b1, b2, b3⟩ := rOf_some ((h x hr).1 hx) hr fun y hy hyr => hu y ((h y hyr).2 hy) x hx hyr hr
    rw [a1, a2, a3, b1, b2, b3]; exact ⟨rfl, rfl, rfl⟩
  · obtain ⟨a1, a2, a3⟩ := rOf_none (es := es) (k := k) fun e he hr => hx ⟨e, he, hr⟩
    obtain ⟨b1, b2, b3⟩ := rOf_none (es := es') (k := k) fun e he hr => hx ⟨e, (h e hr).2 he, hr⟩
    rw [a1, a2, a3, b1, b2, b3]; exact ⟨rfl, rfl, rfl⟩

structure RInv (n : Nat) (p : PP) (es : List Ent) : Prop where
  inc : es.Pairwise fun (a b : Ent) => a.v < b.v
  pos : ∀ e ∈ es, 1 ≤ e.v
  re : ∀ e ∈ es, 0 ≤ e.r ∧ e.r ≤ n
  mon : es.Pairwise fun (a b : Ent) => b.r ≤ a.r ∧ (a.r = b.r → a.r = (n : Int))
  cs : ∀ e ∈ es, okC e.c1 e.c2
  ver : ∀ e ∈ es, e.r < n → verdictI p.b1 p.b2 e.c1 e.c2 p.need p.pm ≠ 3

variable {n : Nat} {p : PP} {es : List Ent}

theorem RInv.uq (h : RInv n p es) {k : Nat} (hk : k < n) : Uq es k := fun x hx y hy hxr hyr => by
  obtain ⟨i, hi, rfl⟩ := List.getElem_of_mem hx
  obtain ⟨j, hj, rfl⟩ := List.getElem_of_mem hy
  rcases Nat.lt_trichotomy i j with h1 | h1 | h1
  · have := (List.pairwise_iff_getElem.1 h.mon i j hi hj h1).2 (by omega); omega
  · subst h1; rfl
  · have := (List.pairwise_iff_getElem.1 h.mon j i hj hi h1).2 (by omega); omega
theorem RInv.vq (h : RInv n p es) {i j : Nat} (hi : i < es.length) (hj : j < es.length) (he : es[i].v = es[j].v) : i = j := by
  rcases Nat.lt_trichotomy i j with h1 | h1 | h1
  · have := List.pairwise_iff_getElem.1 h.inc i j hi hj h1; omega
  · exact h1
  · have := List.pairwise_iff_getElem.1 h.inc j i hj hi h1; omega

theorem rg_state {k : Nat} (hk : k < n) : rg (stateD n es) k = rOf es k := by
  unfold rg stateD; simp [List.getD, hk]
theorem state_len : (stateD n es).length = n := by unfold stateD; simp

/-! ### A version less -/

/-- Without a version. -/
def dropV (v : Int) (es : List Ent) : List Ent := es.filter fun e => e.v != v

theorem erase_dropV (h : RInv n p es) {k : Nat} (hk : k < es.length) : es.eraseIdx k = dropV es[k].v es := by
  generalize hv : es[k].v = v
  unfold dropV
  rw [List.eraseIdx_eq_take_drop_succ]
  conv => rhs; rw [← List.take_append_drop k es, List.drop_eq_getElem_cons hk]
  rw [List.filter_append, List.filter_cons]
  have h1 : (es.take k).filter (fun e => e.v != v) = es.take k := by
    rw [List.filter_eq_self]
    intro x hx
    obtain ⟨i, hi, rfl⟩ := List.getElem_of_mem hx
    rw [List.length_take] at hi
    rw [List.getElem_take]
    simp only [bne_iff_ne]
    intro e
    have := h.vq (by omega) hk (e.trans hv.symm)
    omega
  have h2 : (es.drop (k + 1)).filter (fun e => e.v != v) = es.drop (k + 1) := by
    rw [List.filter_eq_self]
    intro x hx
    obtain ⟨i, hi, rfl⟩ := List.getElem_of_mem hx
    rw [List.length_drop] at hi
    rw [List.getElem_drop]
    simp only [bne_iff_ne]
    intro e
    have := h.vq (by omega) hk (e.trans hv.symm)
    omega
  rw [h1, h2, hv]
  simp only [bne_self_eq_false, Bool.false_eq_true, if_false]

theorem rm_inc {v : Int} : ∀ {l : List Int}, l.Pairwise (· < ·) → rm v l = l.filter (fun x => x != v)
  | [], _ => rfl
  | x :: l, h => by
    rw [List.pairwise_cons] at h
    have ih := rm_inc (v := v) h.2
    unfold rm at ih ⊢
    rw [List.findIdx_cons, List.filter_cons]
    by_cases hx : x = v
    · subst hx
      simp only [beq_self_eq_true, cond_true, List.eraseIdx_cons_zero, bne_self_eq_false, Bool.false_eq_true, if_false]
      symm
      rw [List.filter_eq_self]
      intro y hy
      have := h.1 y hy
      simp only [bne_iff_ne]; omega
    · have h1 : (x == v) = false := by simpa using hx
      rw [h1]
      simp only [cond_false, List.eraseIdx_cons_succ, ih]
      rw [if_pos (by simpa using hx)]

theorem RInv.conf (h : RInv n p es) (k : Nat) : (rOf es k).conf.Pairwise (· < ·) := by
  rw [rOf_conf, List.pairwise_map]
  exact (h.inc.filter _).imp fun h => h

theorem RInv.drop (h : RInv n p es) (v : Int) : RInv n p (dropV v es) where
  inc := h.inc.filter _
  pos := fun e he => h.pos e (List.mem_filter.1 he).1
  re := fun e he => h.re e (List.mem_filter.1 he).1
  mon := h.mon.filter _
  cs := fun e he => h.cs e (List.mem_filter.1 he).1
  ver := fun e he => h.ver e (List.mem_filter.1 he).1

theorem abort_rOf (h : RInv n p es) {k : Nat} (hk : k < n) {v : Int} (hv : v ≠ 0) : abort1 v (rOf es k) = rOf (dropV v es) k := by
  have huq := h.uq hk
  have hconf : rm v (rOf es k).conf = (rOf (dropV v es) k).conf := by
    rw [rm_inc (h.conf k), rOf_conf, rOf_conf, List.filter_map]
    unfold dropV
    rw [List.filter_filter, List.filter_filter]
    congr 1
    apply List.filter_congr
    intro x _
    simp only [Function.comp, Bool.and_comm]
  by_cases hx : ∃ x ∈ es, x.r = (k : Int)
  · obtain ⟨x, hx, hr⟩ := hx
    obtain ⟨a1, a2, a3⟩ := rOf_some hx hr fun y hy hyr => huq y hy x hx hyr hr
    by_cases hxv : x.v = v
    · have hA : hitA v (rOf es k) = true := by unfold hitA; exact decide_eq_true ⟨hv, by rw [a1, hxv]⟩
      obtain ⟨b1, b2, b3⟩ := rOf_none (es := dropV v es) (k := k) fun e he hr' => by
        obtain ⟨he, hne⟩ := List.mem_filter.1 he
        have := huq e he x hx hr' hr
        subst this
        simp [hxv] at hne
      refine RS.ext' hconf ?_ ?_ ?_
      · unfold abort1; simp only [hA, if_true]; rw [b1]
      · unfold abort1; simp only [hA, if_true]; rw [b2]
      · unfold abort1; simp only [hA, if_true]; rw [b3]
    · have hA : hitA v (rOf es k) = false := by unfold hitA; exact decide_eq_false fun h => hxv (by rw [← h.2, a1])
      have hm : x ∈ dropV v es := List.mem_filter.2 ⟨hx, by simpa using hxv⟩
      obtain ⟨b1, b2, b3⟩ := rOf_some hm hr fun y hy hyr => huq y (List.mem_filter.1 hy).1 x hx hyr hr
      refine RS.ext' hconf ?_ ?_ ?_
      · unfold abort1; simp only [hA, Bool.false_eq_true, if_false]; rw [a1, b1]
      · unfold abort1; simp only [hA, Bool.false_eq_true, if_false]; rw [a2, b2]
      · unfold abort1; simp only [hA, Bool.false_eq_true, if_false]; rw [a3, b3]
  · obtain ⟨a1, a2, a3⟩ := rOf_none (es := es) (k := k) fun e he hr => hx ⟨e, he, hr⟩
    obtain ⟨b1, b2, b3⟩ := rOf_none (es := dropV v es) (k := k) fun e he hr => hx ⟨e, (List.mem_filter.1 he).1, hr⟩
    have hA : hitA v (rOf es k) = false := by unfold hitA; exact decide_eq_false fun h => hv (by rw [← h.2, a1])
    refine RS.ext' hconf ?_ ?_ ?_
    · unfold abort1; simp only [hA, Bool.false_eq_true, if_false]; rw [a1, b1]
    · unfold abort1; simp only [hA, Bool.false_eq_true, if_false]; rw [a2, b2]
    · unfold abort1; simp only [hA, Bool.false_eq_true, if_false]; rw [a3, b3]

theorem abort_state (h : RInv n p es) {v : Int} (hv : v ≠ 0) : (stateD n es).map (abort1 v) = stateD n (dropV v es) := by
  unfold stateD
  rw [List.map_map]
  exact range_eq fun k hk => abort_rOf h hk hv

/-- A version is known to a ring exactly if it is in the list. -/
theorem hit_iff (h : RInv n p es) (hn : 0 < n) (v : Int) : (stateD n es).any (hit v) = true ↔ ∃ e ∈ es, e.v = v := by
  rw [List.any_eq_true]
  constructor
  · rintro ⟨x, hx, hh⟩
    obtain ⟨k, hk, rfl⟩ := List.mem_map.1 hx
    have hk := List.mem_range.1 hk
    unfold hit at hh
    rw [Bool.or_eq_true] at hh
    rcases hh with hh | hh
    · unfold hitA at hh
      obtain ⟨h1, h2⟩ := of_decide_eq_true hh
      by_cases hx : ∃ x ∈ es, x.r = (k : Int)
      · obtain ⟨x, hx, hr⟩ := hx
        obtain ⟨a1, _⟩ := rOf_some hx hr fun y hy hyr => h.uq hk y hy x hx hyr hr
        exact ⟨x, hx, by rw [← a1, h2]⟩
      · obtain ⟨a1, _⟩ := rOf_none (es := es) (k := k) fun e he hr => hx ⟨e, he, hr⟩
        rw [a1] at h2; exact absurd h2.symm h1
    · obtain ⟨y, hy, h2⟩ := List.any_eq_true.1 hh
      rw [rOf_conf] at hy
      obtain ⟨e, he, rfl⟩ := List.mem_map.1 hy
      exact ⟨e, (List.mem_filter.1 he).1, by simpa using h2⟩
  · rintro ⟨e, he, rfl⟩
    obtain ⟨r0, r1⟩ := h.re e he
    have hp := h.pos e he
    by_cases hr : e.r < n
    · refine ⟨rOf es e.r.toNat, List.mem_map.2 ⟨_, List.mem_range.2 (by omega), rfl⟩, ?_⟩
      have er : e.r = ((e.r.toNat : Nat) : Int) := by omega
      obtain ⟨a1, _⟩ := rOf_some he er fun y hy hyr => h.uq (k := e.r.toNat) (by omega) y hy e he hyr er
      unfold hit hitA
      rw [Bool.or_eq_true]
      exact .inl (decide_eq_true ⟨by omega, a1⟩)
    · refine ⟨rOf es 0, List.mem_map.2 ⟨0, List.mem_range.2 hn, rfl⟩, ?_⟩
      unfold hit
      rw [Bool.or_eq_true]
      right
      rw [List.any_eq_true]
      refine ⟨e.v, ?_, by simp⟩
      rw [rOf_conf]
      exact List.mem_map.2 ⟨e, List.mem_filter.2 ⟨he, by simp; omega⟩, rfl⟩

/-! ### The active version -/

theorem act_iff (h : RInv n p es) {r : Int} (r0 : 0 ≤ r) (r1 : r < n) : (actD es r < 0 ∧ (rOf es r.toNat).act = 0 ∧ (rOf es r.toNat).good = 0 ∧ (rOf es r.toNat).bad = 0 ∧ ∀ e ∈ es, e.r ≠ r) ∨
    ∃ hk : (actD es r).toNat < es.length, 0 ≤ actD es r ∧ es[(actD es r).toNat].r = r ∧ (rOf es r.toNat).act = es[(actD es r).toNat].v ∧ (rOf es r.toNat).good = es[(actD es r).toNat].c1 ∧ (rOf es r.toNat).bad = es[(actD es r).toNat].c2 ∧ (rOf es r.toNat).act ≠ 0 := by
  have er : ((r.toNat : Nat) : Int) = r := by omega
  unfold actD
  rcases fidx_cases (fun x => x == r) (reE es) with ⟨g1, g2, _⟩ | ⟨g2, g3⟩
  · right
    rw [g2]
    simp only [Int.toNat_natCast]
    have hk : (reE es).findIdx (fun x => x == r) < es.length := by simpa using g1
    have hr : es[(reE es).findIdx (fun x => x == r)].r = r := by
      have := List.findIdx_getElem (w := g1)
      simpa using this
    obtain ⟨a1, a2, a3⟩ := rOf_some (k := r.toNat) (List.getElem_mem hk) (by rw [hr, er]) fun y hy hyr => h.uq (by omega) y hy _ (List.getElem_mem hk) hyr (by rw [hr, er])
    refine ⟨hk, by omega, hr, a1, a2, a3, ?_⟩
    rw [a1]
    have := h.pos _ (List.getElem_mem hk)
    omega
  · left
    rw [g2]
    rw [List.any_eq_false] at g3
    have hne : ∀ e ∈ es, e.r ≠ r := fun e he hr => g3 e.r (List.mem_map.2 ⟨e, he, rfl⟩) (by simp [hr])
    obtain ⟨a1, a2, a3⟩ := rOf_none (es := es) (k := r.toNat) fun e he hr => hne e he (by rw [hr, er])
    exact ⟨by decide, a1, a2, a3, hne⟩

theorem set_mem {es : List Ent} {k : Nat} (hk : k < es.length) {y x : Ent} (hx : x ≠ y) (hxk : x ≠ es[k]) : x ∈ es.set k y ↔ x ∈ es := by
  constructor
  · intro h
    rcases List.mem_or_eq_of_mem_set h with h | h
    · exact h
    · exact absurd h hx
  · intro h
    obtain ⟨i, hi, rfl⟩ := List.getElem_of_mem h
    have : i ≠ k := fun e => hxk (by subst e; rfl)
    rw [List.mem_iff_getElem]
    exact ⟨i, by simpa using hi, by rw [List.getElem_set_ne (Ne.symm this)]⟩

/-- The list with one version's samples changed. -/
theorem set_cnt (h : RInv n p es) {k : Nat} (hk : k < es.length) (hr : es[k].r < n) (x y : Int) : (stateD n es).set es[k].r.toNat { rOf es es[k].r.toNat with good := x, bad := y } = stateD n (es.set k { es[k] with c1 := x, c2 := y }) := by
  have hre := (h.re _ (List.getElem_mem hk)).1
  have conf : ∀ j, (rOf (es.set k { es[k] with c1 := x, c2 := y }) j).conf = (rOf es j).conf := fun j => by
    have e := map_set_same (f := fun e : Ent => (e.v, decide ((j : Int) < e.r))) hk (y := { es[k] with c1 := x, c2 := y }) rfl
    rw [rOf_conf', rOf_conf', e]
  unfold stateD
  refine range_set (fun j hj hne => ?_) ?_
  · obtain ⟨a1, a2, a3⟩ := rOf_same (es' := es.set k { es[k] with c1 := x, c2 := y }) (h.uq hj) fun z hz => by
      refine (set_mem hk (fun e => ?_) (fun e => ?_)).symm
      · rw [e] at hz; simp only at hz; omega
      · rw [e] at hz; omega
    exact RS.ext' (conf j).symm a1 a2 a3
  · have hm : ({ es[k] with c1 := x, c2 := y } : Ent) ∈ es.set k { es[k] with c1 := x, c2 := y } := List.mem_iff_getElem.2 ⟨k, by simpa using hk, by simp⟩
    have er : ((es[k].r.toNat : Nat) : Int) = es[k].r := by omega
    obtain ⟨b1, b2, b3⟩ := rOf_some (k := es[k].r.toNat) hm er.symm fun z hz hzr => by
      rcases List.mem_or_eq_of_mem_set hz with hz | hz
      · -- z is the old entry: it was replaced
        have h1 := h.uq (k := es[k].r.toNat) (by omega) z hz _ (List.getElem_mem hk) hzr er.symm
        obtain ⟨i, hi, hiz⟩ := List.getElem_of_mem ‹z ∈ es.set k _›
        rw [List.length_set] at hi
        by_cases e : i = k
        · subst e; rw [← hiz]; simp
        · rw [List.getElem_set_ne (Ne.symm e)] at hiz
          have : es[i].v = es[k].v := by rw [hiz, h1]
          exact absurd (h.vq hi hk this) e
      · exact hz
    obtain ⟨a1, _⟩ := rOf_some (k := es[k].r.toNat) (List.getElem_mem hk) er.symm fun z hz hzr => h.uq (by omega) z hz _ (List.getElem_mem hk) hzr er.symm
    exact RS.ext' (conf _) (by rw [b1]; exact a1.symm) b2 b3

end Go.RM

