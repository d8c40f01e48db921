import Derived.Test.YtlofiiepmehhbaaRefW
import Derived.Test.YtlofiiepmehhbaaMqR
/-
  Package mergequeue: slices.DeleteFunc, settle.
-/
namespace Go.RM
set_option linter.unusedSimpArgs false
set_option linter.unusedVariables false
set_option maxRecDepth 4000
open Mq

variable {F : Nat → Option RFunc}

theorem Own.clearFrom {n m e : Nat} {H : Heap} {cs z : List AV} {v : AV} {fl i : Nat} (he : 0 < e) (h : Own n H e v m cs) (hi : i ≤ m) (hfl : fl ≤ n) (hz : z.length = e) (hzs : z.all AV.scalar = true) :
    ∃ s H', rslice H e v (some (.int .i64 (i : Int))) none none = some s ∧ clearA fl e z H s = some (.undef, H') ∧ (∃ cs', Own n H' e v m cs' ∧ cs'.take (i * e) = cs.take (i * e)) ∧ H'.length = H.length ∧ (∀ b, ¬ At v b → H'[b]? = H[b]?) := by
  rcases h.out with ⟨rfl, rfl, rfl⟩ | ⟨b, off, lim, k, rfl, h2, h3, h4, h5, h6, h7, ⟨q, h9⟩, h8⟩
  · have hi0 : i = 0 := by omega
    subst hi0
    exact ⟨.empty, H, rfl, rfl, ⟨[], h, rfl⟩, rfl, fun _ _ => rfl⟩
  have m3 : i * e ≤ m * e := Nat.mul_le_mul_right _ hi
  have m4 : (m - i) * e = m * e - i * e := Nat.sub_mul _ _ _
  have hem : (H[b]?).map (·.e) = some e := by rw [h3]; simp [h5]
  have hml : m ≤ lim.getD m := by cases lim with | none => exact Nat.le_refl _ | some c => exact (h8 c rfl).1
  have hzl : (zeros (m - i) z).length = (m - i) * e := by simp [zeros, hz]
  have hzsc : (zeros (m - i) z).all AV.scalar = true := by
    rw [List.all_eq_true] at hzs ⊢
    intro x hx
    unfold zeros at hx
    obtain ⟨l, hl, hxl⟩ := List.mem_flatten.1 hx
    exact hzs x ((List.eq_of_mem_replicate hl) ▸ hxl)
  have hbd : boundOf (some (.int .i64 (i : Int))) 0 = some i := bound_int 0
  refine ⟨.slice b (off + i * e) (m - i) (if lim.isSome then some (lim.getD m - i) else none), ?_⟩
  by_cases h0 : m - i = 0
  · refine ⟨H, ?_, ?_, ⟨cs, h, rfl⟩, rfl, fun _ _ => rfl⟩
    · simp only [rslice, hbd]
      show (if i ≤ m ∧ (m ≤ lim.getD m ∨ _) ∧ lim.getD m ≤ lim.getD m ∧ (i = 0 ∨ _) then some (AV.slice b (off + i * e) (m - i) (if false || lim.isSome then some (lim.getD m - i) else none)) else none) = _
      rw [if_pos ⟨hi, .inl hml, Nat.le_refl _, .inr hem⟩]
      simp
    · show (if m - i = 0 then some (AV.undef, H) else _) = _
      rw [if_pos h0]
  · have hput := rput_ok (fl := fl) (o := off + i * e) (ws := zeros (m - i) z) h3 h4 (by omega) (by rw [hzl]; omega) hzsc
    refine ⟨_, ?_, ?_, ⟨cs.take (i * e) ++ zeros (m - i) z, ⟨h.small, .inr ⟨b, off, lim, { k with cells := splice k.cells (off + i * e) (zeros (m - i) z), clean := false }, rfl, h2, List.getElem?_set_self (get_lt h3), h4, h5, ?_, ?_, ⟨q, ?_⟩, fun c hc => ?_⟩⟩, ?_⟩, by simp, fun b' hne => ?_⟩
    · simp only [rslice, hbd]
      show (if i ≤ m ∧ (m ≤ lim.getD m ∨ _) ∧ lim.getD m ≤ lim.getD m ∧ (i = 0 ∨ _) then some (AV.slice b (off + i * e) (m - i) (if false || lim.isSome then some (lim.getD m - i) else none)) else none) = _
      rw [if_pos ⟨hi, .inl hml, Nat.le_refl _, .inr hem⟩]
      simp
    · show (if m - i = 0 then some (AV.undef, H) else (rput fl H b (off + i * e) (zeros (m - i) z)).map fun H' => (AV.undef, H')) = _
      rw [if_neg h0, hput]; rfl
    · show _ ≤ (splice k.cells (off + i * e) (zeros (m - i) z)).length
      rw [splice_len (by rw [hzl]; omega)]; exact h6
    · show _ = ((splice k.cells (off + i * e) (zeros (m - i) z)).drop off).take (m * e)
      have hcl : cs.length = m * e := by rw [h7, List.length_take, List.length_drop]; omega
      apply List.ext_getElem?
      intro j
      by_cases hj : j < m * e
      · rw [List.getElem?_take_of_lt hj, List.getElem?_drop, splice_get (by rw [hzl]; omega)]
        by_cases h1 : j < i * e
        · rw [if_neg (by omega), List.getElem?_append_left (by rw [List.length_take]; omega), List.getElem?_take_of_lt h1, h7, List.getElem?_take_of_lt hj, List.getElem?_drop]
        · rw [if_pos (by rw [hzl]; omega), List.getElem?_append_right (by rw [List.length_take]; omega)]
          congr 1; rw [List.length_take]; omega
      · rw [List.getElem?_eq_none (by rw [List.length_append, List.length_take, hzl]; omega), List.getElem?_eq_none (by rw [List.length_take]; omega)]
    · show (splice k.cells (off + i * e) (zeros (m - i) z)).length = _
      rw [splice_len (by rw [hzl]; omega)]; exact h9
    · obtain ⟨x1, x2⟩ := h8 c hc
      refine ⟨x1, ?_⟩
      show _ ≤ (splice k.cells (off + i * e) (zeros (m - i) z)).length
      rw [splice_len (by rw [hzl]; omega)]; exact x2
    · have hcl : cs.length = m * e := by rw [h7, List.length_take, List.length_drop]; omega
      rw [List.take_append_of_le_length (by rw [List.length_take]; omega), List.take_take, Nat.min_self]
    · have : b' ≠ b := fun e => hne (by rw [e]; exact at_slice)
      rw [List.getElem?_set_ne (Ne.symm this)]

theorem Own.upto {n m e : Nat} {H : Heap} {cs : List AV} {v : AV} {i : Nat} (h : Own n H e v m cs) (hi : i ≤ m) :
    ∃ w, rslice H e v none (some (.int .i64 (i : Int))) none = some w ∧ Own n H e w i (cs.take (i * e)) ∧ (∀ b, At w b → At v b) := by
  rcases h.out with ⟨rfl, rfl, rfl⟩ | ⟨b, off, lim, k, rfl, h2, h3, h4, h5, h6, h7, ⟨q, h9⟩, h8⟩
  · have hi0 : i = 0 := by omega
    subst hi0
    exact ⟨.empty, rfl, by simpa using h, fun _ h => h⟩
  have m3 : i * e ≤ m * e := Nat.mul_le_mul_right _ hi
  have hml : m ≤ lim.getD m := by cases lim with | none => exact Nat.le_refl _ | some c => exact (h8 c rfl).1
  have hbd : boundOf (some (.int .i64 (i : Int))) m = some i := bound_int m
  have hlim : (if lim.isSome then some (lim.getD m) else none) = lim := by cases lim <;> rfl
  refine ⟨.slice b off i lim, ?_, ⟨by have := h.small; omega, .inr ⟨b, off, lim, k, rfl, h2, h3, h4, h5, by omega, ?_, ⟨q, h9⟩, fun c hc => ?_⟩⟩, fun b' hb' => by have := at_slice.same hb'; subst this; exact at_slice⟩
  · simp only [rslice, hbd]
    show (if 0 ≤ i ∧ (i ≤ lim.getD m ∨ _) ∧ lim.getD m ≤ lim.getD m ∧ ((0 : Nat) = 0 ∨ _) then some (AV.slice b (off + 0 * e) (i - 0) (if false || lim.isSome then some (lim.getD m - 0) else none)) else none) = _
    rw [if_pos ⟨by omega, .inl (by omega), Nat.le_refl _, .inl rfl⟩]
    simp only [Bool.false_or, Nat.sub_zero, hlim, Nat.zero_mul, Nat.add_zero]
  · rw [h7, List.take_take, Nat.min_eq_left m3]
  · obtain ⟨x1, x2⟩ := h8 c hc
    exact ⟨by omega, x2⟩

theorem own_putInt {n : Nat} {H : Heap} {l : List Int} {v : AV} (h : Own n H 1 v l.length (ints l)) {i : Nat} (hi : i < l.length) {x : Int} {fl : Nat} (hfl : fl ≤ n) :
    ∃ b o, ptrA 1 v (i : Int) = some (b, o) ∧ At v b ∧ ∃ H', putA fl H b o 1 (i64 x) = some H' ∧ Own n H' 1 v (l.set i x).length (ints (l.set i x)) ∧ KeepX b H H' := by
  obtain ⟨b, o, h1, h2, h3, h4, h5⟩ := h.elem hi
  obtain ⟨H', a1, a2, a3⟩ := h5 fl 0 1 (i64 x) hfl rfl (by decide) rfl
  refine ⟨b, o, h1, h2, H', a1, ?_, a3⟩
  rw [List.length_set]
  have e1 : splice (ints l) (i * 1 + 0) (i64 x).cells = ints (l.set i x) := by
    unfold ints
    rw [List.map_set]
    apply List.ext_getElem?
    intro j
    rw [splice_get (by simp [AV.cells]; omega)]
    by_cases e : j = i
    · subst e
      rw [if_pos (by simp [AV.cells]), List.getElem?_set_self (by simpa using hi)]
      simp [AV.cells]
    · rw [if_neg (by simp [AV.cells]; omega), List.getElem?_set_ne (Ne.symm e)]
  rw [e1] at a2
  exact a2

def TestsX (F : Nat → Option RFunc) (fl : Nat) (H : Heap) (v : AV) (g : Nat) (caps : List AV) (p : Int → Bool) : Prop :=
  ∀ (a : Int) (H' : Heap), H.length ≤ H'.length → (∀ b, b < H.length → ¬ At v b → H'[b]? = H[b]?) → Ret F fl g ([i64 a] ++ caps) H' fun r H'' => r = .bool (p a) ∧ Keep H'.length H' H''

theorem fidx_some {p : Int → Bool} {l : List Int} {i : Nat} (h : l.findIdx? p = some i) : i < l.length ∧ ∀ x ∈ l.take i, p x = false := by
  obtain ⟨h1, h2, h3⟩ := List.findIdx?_eq_some_iff_getElem.1 h
  refine ⟨h1, fun x hx => ?_⟩
  obtain ⟨j, hj, rfl⟩ := List.mem_take_iff_getElem.1 hx
  simpa using h3 j (by omega)

abbrev DeleteFuncC (F : Nat → Option RFunc) (f : Nat) : Prop := ∀ {fl H Q n v} {l : List Int} {g caps p}, Own n H 1 v l.length (ints l) → fl ≤ n → n ≤ H.length → TestsX F fl H v g caps p →
  (∀ w H', Own n H' 1 w (l.filter fun x => !p x).length (ints (l.filter fun x => !p x)) → H.length ≤ H'.length → (∀ b, b < H.length → ¬ At v b → H'[b]? = H[b]?) → (∀ b, At w b → At v b) → Q w H') → Ret F fl f [v, .func g caps] H Q
theorem deleteFunc_c {f n1 : Nat} (hF : F f = some (rf_slices_DeleteFunc__int_int n1)) (h1 : IndexFuncIC F n1) : DeleteFuncC F f := fun {fl H Q n v l g caps p} hv hfl hn ht hq => by
  refine v_slices_DeleteFunc__int_int hF _ _ _ ?_
  have hsm : l.length ≤ 9223372036854775807 := hv.small
  refine h1 hv.ints (p := p) (fun c a H' ha hk hr => ?_) fun H4 k4 => ⟨_, rfl, ?_⟩
  · have hr' : [c] = [i64 a] := hr
    cases hr'
    exact ht a H' hk.len fun b hb _ => hk.get b hb
  have hv4 := hv.keep k4
  unfold fidx
  cases hfi : l.findIdx? p with
  | none =>
    have hall := List.findIdx?_eq_none_iff.1 hfi
    have hfil : (l.filter fun x => !p x) = l := List.filter_eq_self.2 fun x hx => by simp [hall x hx]
    rw [hfil] at hq
    exact ⟨fun _ => hq v H4 hv4 k4.len (fun b hb _ => k4.get b hb) fun _ h => h, fun h => absurd rfl h⟩
  | some i0 =>
    obtain ⟨hi0, hpre⟩ := fidx_some hfi
    have hp0 : p l[i0] = true := by
      obtain ⟨_, h2, _⟩ := List.findIdx?_eq_some_iff_getElem.1 hfi; exact h2
    refine ⟨fun h => by simp only at h; omega, fun _ => ?_⟩
    refine ⟨fun m i j H' => ∃ (i' j' : Nat) (c : List Int), i = i' ∧ j = j' ∧ j' + m = l.length ∧ i' ≤ j' ∧ c.length = l.length ∧ c.take i' = (l.take j').filter (fun x => !p x) ∧ c.drop j' = l.drop j' ∧ Own n H' 1 v c.length (ints c) ∧ H.length ≤ H'.length ∧ (∀ b, b < H.length → ¬ At v b → H'[b]? = H[b]?),
      l.length - (i0 + 1), ⟨i0, i0 + 1, l, rfl, wsucc hi0 hsm, by omega, by omega, rfl, ?_, rfl, hv4, k4.len, fun b hb _ => k4.get b hb⟩, ?_⟩
    · rw [List.take_succ_eq_append_getElem hi0, List.filter_append, List.filter_eq_self.2 fun x hx => by simp [hpre x hx]]
      simp [hp0]
    rintro m _ _ H' ⟨i, j, c, rfl, rfl, hm, hij, hcl, ht1, hd1, hO, hlen, hfr⟩
    refine ⟨_, hO.len, fun hlt => ?_, fun hge => ?_⟩
    · rw [hcl] at hlt
      have hj : j < l.length := by omega
      have hcj : j < c.length := by omega
      have ecj : c[j] = l[j] := by
        have h1 : (c.drop j)[0]'(by simp; omega) = (l.drop j)[0]'(by simp; omega) := by simp only [hd1]
        simpa using h1
      have htk : (l.take (j + 1)).filter (fun x => !p x) = (l.take j).filter (fun x => !p x) ++ if p l[j] then [] else [l[j]] := by
        rw [List.take_succ_eq_append_getElem hj, List.filter_append]
        congr 1
        cases h : p l[j] <;> simp [h]
      refine ⟨_, hO.ints.int hcj, ?_⟩
      rw [ecj]
      refine (ht l[j] H' hlen hfr).mono ?_
      rintro _ H19 ⟨rfl, k19⟩
      have hO19 := hO.keep k19
      have hfr19 : ∀ b, b < H.length → ¬ At v b → H19[b]? = H[b]? := fun b hb hne => by rw [k19.get b (by omega), hfr b hb hne]
      refine ⟨_, rfl, fun hnp => ?_, fun hp => ?_⟩
      · have hi : i < c.length := by omega
        obtain ⟨b, o, p1, p2, H23, a1, a2, a3⟩ := own_putInt hO19 hi (x := l[j]) hfl
        refine ⟨b, o, p1, H23, a1, m - 1, by omega, i + 1, j + 1, c.set i l[j], wsucc (by omega : i < l.length) hsm, wsucc hj hsm, by omega, by omega, by simpa using hcl, ?_, ?_, a2, by rw [a3.len]; exact Nat.le_trans hlen k19.len, fun b' hb' hne => by rw [a3.get b' fun e => hne (e ▸ p2), hfr19 b' hb' hne]⟩
        · rw [htk, if_neg hnp, ← ht1, List.take_set, List.take_succ_eq_append_getElem hi, List.set_append_right _ _ (by simp; omega)]
          simp [Nat.min_eq_left (Nat.le_of_lt hi)]
        · have h1 : (c.set i l[j]).drop (j + 1) = c.drop (j + 1) := by rw [List.drop_set]; rw [if_pos (by omega)]
          rw [h1]
          have := congrArg (List.drop 1) hd1
          simpa [List.drop_drop] using this
      · have hp' : p l[j] = true := by simpa using hp
        refine ⟨m - 1, by omega, i, j + 1, c, rfl, wsucc hj hsm, by omega, by omega, hcl, ?_, ?_, hO19, Nat.le_trans hlen k19.len, hfr19⟩
        · rw [htk, if_pos hp', List.append_nil]; exact ht1
        · have := congrArg (List.drop 1) hd1
          simpa [List.drop_drop] using this
    · rw [hcl] at hge
      have hj : j = l.length := by omega
      subst hj
      rw [List.take_length] at ht1
      have hfl' : i = (l.filter fun x => !p x).length := by rw [← ht1, List.length_take]; omega
      obtain ⟨s, H27, b1, b2, ⟨cs', b3, b4⟩, b5, b6⟩ := hO.clearFrom (i := i) (z := [i64 0]) (by decide) (by omega) hfl rfl rfl
      obtain ⟨w, c1, c2, c3⟩ := b3.upto (i := i) (by omega)
      refine ⟨s, b1, H27, b2, w, c1, hq w H27 ?_ (by omega) (fun b hb hne => by rw [b6 b hne, hfr b hb hne]) c3⟩
      rw [b4] at c2
      have e1 : (ints c).take (i * 1) = ints (l.filter fun x => !p x) := by
        unfold ints
        rw [← List.map_take, Nat.mul_one, ht1]
      rw [e1] at c2
      rw [← hfl']; exact c2

end Go.RM
namespace Go.RM
set_option linter.unusedSimpArgs false
set_option linter.unusedVariables false
set_option maxRecDepth 4000
open Mq

namespace Mq
def idle (e : Ent) : Bool := !e.te && !e.pa && !e.fa
def startE (j : Nat) (l : List Ent) : List Ent := l.mapIdx fun k e => if k < j ∧ idle e = true then { e with te := true, af := (l.take k).map (·.ch) } else e
def dropE (c : Int) (e : Ent) : Ent := { e with af := e.af.filter fun x => !(x == c) }
def dropUpto (c : Int) (j : Nat) (l : List Ent) : List Ent := l.mapIdx fun k e => if k < j then dropE c e else e
def settleF : Nat → QS → QS
  | 0, q => q
  | n + 1, q =>
    match q.es with
    | [] => q
    | e :: r =>
      if e.fa then settleF n { es := r.map blank, la := q.la, re := q.re ++ [e.ch] }
      else if e.pa then settleF n { es := r.map (dropE e.ch), la := q.la ++ [e.ch], re := q.re }
      else q
def settleE (w : Int) (q : QS) : QS := let q' := settleF q.es.length q; { q' with es := startE (min w.toNat q'.es.length) q'.es }
end Mq

variable {F : Nat → Option RFunc}

theorem startE_len (j : Nat) (l : List Ent) : (startE j l).length = l.length := by simp [startE]
theorem startE_get {j : Nat} {l : List Ent} {k : Nat} (h : k < l.length) : (startE j l)[k]'(by rw [startE_len]; exact h) = if k < j ∧ idle l[k] = true then { l[k] with te := true, af := (l.take k).map (·.ch) } else l[k] := by simp [startE]
theorem startE_zero (l : List Ent) : startE 0 l = l := by
  refine List.ext_getElem (startE_len _ _) fun k h1 h2 => ?_
  rw [startE_get h2, if_neg (by omega)]
theorem startE_set {j : Nat} {l : List Ent} (hj : j < l.length) {e : Ent} (he : e = if idle l[j] = true then { l[j] with te := true, af := (l.take j).map (·.ch) } else l[j]) : (startE j l).set j e = startE (j + 1) l := by
  refine List.ext_getElem (by simp [startE_len]) fun k h1 h2 => ?_
  rw [startE_len] at h2
  rw [List.getElem_set, startE_get h2, startE_get h2]
  by_cases ek : j = k
  · subst ek
    rw [if_pos rfl, he]
    by_cases hi : idle l[j] = true
    · rw [if_pos hi, if_pos ⟨by omega, hi⟩]
    · rw [if_neg hi, if_neg (by simp [hi])]
  · rw [if_neg ek]
    by_cases h : k < j ∧ idle l[k] = true
    · rw [if_pos h, if_pos ⟨by omega, h.2⟩]
    · rw [if_neg h, if_neg fun hh => h ⟨by omega, hh.2⟩]
theorem startE_same {j : Nat} {l : List Ent} (hj : j < l.length) (hi : ¬ idle l[j] = true) : startE (j + 1) l = startE j l := by
  rw [← startE_set hj (e := l[j]) (by rw [if_neg hi])]
  have : (startE j l)[j]'(by rw [startE_len]; exact hj) = l[j] := by rw [startE_get hj, if_neg (by omega)]
  rw [← this, List.set_getElem_self]

section
variable {n qb : Nat} {H : Heap} {w : Int} {ve vl vr : AV} {l : List (AV × Ent)} {la re : List Int}

theorem QSt.apart {H' : Heap} {v : AV} (h : QSt n H qb w ve vl vr l la re) (hlen : H.length ≤ H'.length) (hfr : ∀ b, b < H.length → ¬ At v b → H'[b]? = H[b]?) (hv : ∀ b, At v b → ¬ QFoot qb ve vl vr l b) : QSt n H' qb w ve vl vr l la re :=
  h.frame fun b hb => hfr b (h.foot_lt hb).2 fun ha => hv b ha hb

theorem start_ok {fl nClone : Nat} {Q : AV → Heap → Prop} (hC : CloneIC F nClone) (hst : QSt n H qb w ve vl vr l la re) (hfl : fl ≤ n) (hw : 1 ≤ w ∧ w ≤ 4) (hl : l.length ≤ 2 ^ 19)
    (hq : ∀ l' H', QSt n H' qb w ve vl vr l' la re → l'.map (·.2) = startE (min w.toNat l.length) (l.map (·.2)) → (∀ b, b < H.length → ¬ QFoot qb ve vl vr l b → H'[b]? = H[b]?) → H.length ≤ H'.length → (∀ b, QFoot qb ve vl vr l' b → QFoot qb ve vl vr l b ∨ H.length ≤ b) → Q .undef H') :
    ∃ (e24 : AV), rload H none qb 0 = some e24 ∧ ∃ (e25 : Int), rload H none qb (0 + 3) = some (.int .i64 e25) ∧ ∃ (e26 : AV), rload H none qb 0 = some e26 ∧ ∃ len27 : Nat, lenA e26 = some len27 ∧ ∃ s28 : AV, rslice H 6 e24 none (some (.int .i64 (imin e25 (len27 : Int)))) none = some s28 ∧ ∃ len29 : Nat, lenA s28 = some len29 ∧
      ∃ (J30 : Nat → Int → AV → Heap → Prop) (k31 : Nat), J30 k31 0 .empty H ∧ (∀ (m32 : Nat) (v33 : Int) (ahead38 : AV) (H39 : Heap), J30 m32 v33 ahead38 H39 → ((v33 < (len29 : Int)) → ∃ (e40 : AV), rload H39 none qb 0 = some e40 ∧ ∃ b41 o42 : Nat, ptrA 6 e40 v33 = some (b41, o42) ∧ ∃ (e43 : Bool), rload H39 none b41 (o42 + 2) = some (.bool e43) ∧ ((¬(e43 = true)) → ∃ (e44 : Bool), rload H39 none b41 (o42 + 3) = some (.bool e44) ∧ ((¬(e44 = true)) → ∃ (e45 : Bool), rload H39 none b41 (o42 + 4) = some (.bool e45) ∧
        ((¬(e45 = true)) → Ret F fl nClone [ahead38] H39 (fun r46 H47 => ∃ H49 : Heap, putA fl H47 b41 (o42 + 2) 1 (.bool true) = some H49 ∧ ∃ H50 : Heap, putA fl H49 b41 (o42 + 5) 1 r46 = some H50 ∧ ∃ (e51 : Int), rload H50 none b41 o42 = some (.int .i64 e51) ∧ ∀ (b52 : Nat) (H53 : Heap), NewB H50 1 [(.int .i64 e51)] b52 H53 → ∃ (a54 : AV) (H55 : Heap), appA fl true 1 8 H53 ahead38 (.slice b52 0 1 (some 1)) = some (a54, H55) ∧ ∃ m56 : Nat, m56 < m32 ∧ J30 m56 (IntKind.wrap .i64 (v33 + 1)) a54 H55)) ∧
        (¬(¬(e45 = true)) → ∃ (e57 : Int), rload H39 none b41 o42 = some (.int .i64 e57) ∧ ∀ (b58 : Nat) (H59 : Heap), NewB H39 1 [(.int .i64 e57)] b58 H59 → ∃ (a60 : AV) (H61 : Heap), appA fl true 1 8 H59 ahead38 (.slice b58 0 1 (some 1)) = some (a60, H61) ∧ ∃ m62 : Nat, m62 < m32 ∧ J30 m62 (IntKind.wrap .i64 (v33 + 1)) a60 H61)) ∧
        (¬(¬(e44 = true)) → ∃ (e63 : Int), rload H39 none b41 o42 = some (.int .i64 e63) ∧ ∀ (b64 : Nat) (H65 : Heap), NewB H39 1 [(.int .i64 e63)] b64 H65 → ∃ (a66 : AV) (H67 : Heap), appA fl true 1 8 H65 ahead38 (.slice b64 0 1 (some 1)) = some (a66, H67) ∧ ∃ m68 : Nat, m68 < m32 ∧ J30 m68 (IntKind.wrap .i64 (v33 + 1)) a66 H67)) ∧
        (¬(¬(e43 = true)) → ∃ (e69 : Int), rload H39 none b41 o42 = some (.int .i64 e69) ∧ ∀ (b70 : Nat) (H71 : Heap), NewB H39 1 [(.int .i64 e69)] b70 H71 → ∃ (a72 : AV) (H73 : Heap), appA fl true 1 8 H71 ahead38 (.slice b70 0 1 (some 1)) = some (a72, H73) ∧ ∃ m74 : Nat, m74 < m32 ∧ J30 m74 (IntKind.wrap .i64 (v33 + 1)) a72 H73)) ∧
        (¬(v33 < (len29 : Int)) → Q .undef H39)) := by
  have hsm : l.length ≤ 9223372036854775807 := hst.ents.own.small
  have himin : imin w (l.length : Int) = ((min w.toNat l.length : Nat) : Int) := by
    unfold imin; split <;> omega
  have harr := hst.ents.arr
  obtain ⟨s28, hs1, hs2⟩ := harr.upto (n := min w.toNat l.length) (by simp; omega)
  refine ⟨ve, hst.entries, w, hst.window, ve, hst.entries, l.length, hst.ents.own.len, s28, ?_, _, hs2.len, ?_⟩
  · rw [himin]; exact hs1
  have hlen29 : ((l.map fun x : AV × Ent => x.2).take (min w.toNat l.length)).length = min w.toNat l.length := by simp
  rw [hlen29]
  generalize hcn : min w.toNat l.length = cn
  have hcl : cn ≤ l.length := by omega
  refine ⟨fun m v ahead H' => ∃ (j : Nat) (l' : List (AV × Ent)), v = j ∧ j + m = cn ∧ QSt n H' qb w ve vl vr l' la re ∧ l'.map (·.2) = startE j (l.map (·.2)) ∧ H.length ≤ H'.length ∧ (∀ b, b < H.length → ¬ QFoot qb ve vl vr l b → H'[b]? = H[b]?) ∧ (∀ b, QFoot qb ve vl vr l' b → QFoot qb ve vl vr l b ∨ H.length ≤ b) ∧
      Own n H' 1 ahead (((l.map (·.2)).take j).map (·.ch)).length (ints (((l.map (·.2)).take j).map (·.ch))) ∧ (∀ b, At ahead b → ¬ QFoot qb ve vl vr l' b ∧ H.length ≤ b),
    cn, ⟨0, l, rfl, by omega, hst, (startE_zero _).symm, Nat.le_refl _, fun _ _ _ => rfl, fun b hb => .inl hb, by simpa using Own.nil, fun b hb => absurd hb at_empty⟩, ?_⟩
  rintro m _ ahead H39 ⟨j, l', rfl, hm, hst', hl', hlen, hfr, hsub, hah, hahf⟩
  have hll : l'.length = l.length := by have := congrArg List.length hl'; simpa [startE_len] using this
  refine ⟨fun hlt => ?_, fun hge => ?_⟩
  · have hj : j < l.length := by omega
    have hj' : j < l'.length := by omega
    have hjm : j < (l.map fun x : AV × Ent => x.2).length := by simpa using hj
    have e0 : l'[j].2 = l[j].2 := by
      have h1 : (l'.map fun x : AV × Ent => x.2)[j]'(by simpa using hj') = (l.map fun x : AV × Ent => x.2)[j] := by
        simp only [hl']
        rw [startE_get hjm, if_neg (by omega)]
      simpa using h1
    have hmE : (l.map fun x : AV × Ent => x.2)[j] = l[j].2 := by simp
    have htake : ((l.map fun x : AV × Ent => x.2).take (j + 1)).map (·.ch) = ((l.map fun x : AV × Ent => x.2).take j).map (·.ch) ++ [l[j].2.ch] := by
      rw [List.take_succ_eq_append_getElem hjm, List.map_append, hmE]; rfl
    obtain ⟨b, o, p1, p2, p3, p4⟩ := hst'.ents.put hj'
    -- ahead grows
    have grow : ∀ (l2 : List (AV × Ent)) (H2 : Heap), QSt n H2 qb w ve vl vr l2 la re → l2.map (·.2) = startE (j + 1) (l.map (·.2)) → H.length ≤ H2.length → (∀ b, b < H.length → ¬ QFoot qb ve vl vr l b → H2[b]? = H[b]?) → (∀ b, QFoot qb ve vl vr l2 b → QFoot qb ve vl vr l b ∨ H.length ≤ b) →
        Own n H2 1 ahead (((l.map (·.2)).take j).map (·.ch)).length (ints (((l.map (·.2)).take j).map (·.ch))) → (∀ b, At ahead b → ¬ QFoot qb ve vl vr l2 b) →
        ∀ (b70 : Nat) (H71 : Heap), NewB H2 1 [i64 l[j].2.ch] b70 H71 → ∃ (a72 : AV) (H73 : Heap), appA fl true 1 8 H71 ahead (.slice b70 0 1 (some 1)) = some (a72, H73) ∧ ∃ m74 : Nat, m74 < m ∧
          ∃ (j' : Nat) (l' : List (AV × Ent)), IntKind.wrap .i64 ((j : Int) + 1) = j' ∧ j' + m74 = cn ∧ QSt n H73 qb w ve vl vr l' la re ∧ l'.map (·.2) = startE j' (l.map (·.2)) ∧ H.length ≤ H73.length ∧ (∀ b, b < H.length → ¬ QFoot qb ve vl vr l b → H73[b]? = H[b]?) ∧ (∀ b, QFoot qb ve vl vr l' b → QFoot qb ve vl vr l b ∨ H.length ≤ b) ∧
            Own n H73 1 a72 (((l.map (·.2)).take j').map (·.ch)).length (ints (((l.map (·.2)).take j').map (·.ch))) ∧ (∀ b, At a72 b → ¬ QFoot qb ve vl vr l' b ∧ H.length ≤ b) := fun l2 H2 s2 hl2 hlen2 hfr2 hsub2 hah2 hdis b70 H71 h71 => by
      obtain ⟨v', H73, a1, a2, a3, a4, a5⟩ := own_push hah2 s2.bn h71 hfl (by simp; omega)
      refine ⟨v', H73, a1, m - 1, by omega, j + 1, l2, wsucc hj hsm, by omega, s2.apart a3 a4 hdis, hl2, by omega, fun b hb hne => ?_, hsub2, by rw [htake]; exact a2, fun b hb => ?_⟩
      · rw [a4 b (by omega) fun ha => by have := (hahf b ha).2; omega, hfr2 b hb hne]
      · rcases a5 b hb with h1 | h1
        · exact ⟨hdis b h1, (hahf b h1).2⟩
        · exact ⟨fun hf => by have := (s2.foot_lt hf).2; omega, by omega⟩
    have hskip := fun hid : ¬ idle l[j].2 = true => grow l' H39 hst' (by rw [hl', startE_same hjm (by rw [hmE]; exact hid)]) hlen hfr hsub hah fun b hb => (hahf b hb).1
    refine ⟨ve, hst'.entries, b, o, p1, _, p3 2 _ rfl, fun hte => ⟨_, p3 3 _ rfl, fun hpa => ⟨_, p3 4 _ rfl, fun hfa => ?_, fun hfa => ⟨_, p3 0 _ rfl, ?_⟩⟩, fun hpa => ⟨_, p3 0 _ rfl, ?_⟩⟩, fun hte => ⟨_, p3 0 _ rfl, ?_⟩⟩
    · rw [e0] at hte hpa hfa
      have hid : idle l[j].2 = true := by unfold idle; simp only [Bool.not_eq_true] at hte hpa hfa; rw [hte, hpa, hfa]; rfl
      refine hC n hah.ints hst'.bn (by simp; omega) fun r H47 k47 hr hrb => ?_
      have s47 := hst'.keep k47
      obtain ⟨b2, o2, q1, q2, q3, q4⟩ := s47.ents.put hj'
      rw [p1] at q1; cases q1
      have hm := List.getElem_mem hj'
      obtain ⟨H49, a1, a2, a3⟩ := q4 fl 2 1 (.bool true) (l'[j].1, { l'[j].2 with te := true }) hfl rfl (by decide) rfl rfl (s47.ents.af l'[j] hm) (s47.ents.off l'[j] hm)
      have hj2 : j < (l'.set j (l'[j].1, { l'[j].2 with te := true })).length := by simpa using hj'
      obtain ⟨b3, o3, r1, r2, r3, r4⟩ := a2.put hj2
      rw [p1] at r1; cases r1
      have e1 : (l'.set j (l'[j].1, { l'[j].2 with te := true }))[j] = (l'[j].1, { l'[j].2 with te := true }) := by simp
      rw [e1] at r4
      have hrd : ∀ c, At r c → ¬ At ve c := fun c hc ha => by
        have := hrb c hc
        have := (hst'.ents.at_lt (.inl ha)).2
        omega
      have hr49 := hr.frame (H' := H49) fun c hc => a3.get c fun e => hrd c hc (e ▸ p2)
      obtain ⟨H50, c1, c2, c3⟩ := r4 fl 5 1 r (r, { l'[j].2 with te := true, af := ((l.map fun x : AV × Ent => x.2).take j).map (·.ch) }) hfl (by rw [hr.scal.1]; rfl) (by decide) (by rw [hr.scal.1, List.all_cons, hr.scal.2]; rfl) (by rw [hr.scal.1]; rfl) hr49 hrd
      rw [List.set_set] at c2
      obtain ⟨g1, g2⟩ := hst'.entsIn c2 (by rw [c3.len, a3.len]; exact k47.len) (fun y hy hne => by
        have hne : y ≠ b := fun e => hne (e ▸ p2)
        rw [c3.get y hne, a3.get y hne, k47.get y hy]) fun y hy c hc => by
        rcases List.mem_or_eq_of_mem_set hy with hy | rfl
        · exact .inl ⟨y, hy, hc⟩
        · exact .inr (hrb c hc)
      have hj3 : j < (l'.set j (r, { l'[j].2 with te := true, af := ((l.map fun x : AV × Ent => x.2).take j).map (·.ch) })).length := by simpa using hj'
      obtain ⟨b4, o4, t1, t2, t3, t4⟩ := c2.put hj3
      rw [p1] at t1; cases t1
      have e2 : (l'.set j (r, { l'[j].2 with te := true, af := ((l.map fun x : AV × Ent => x.2).take j).map (·.ch) }))[j] = (r, { l'[j].2 with te := true, af := ((l.map fun x : AV × Ent => x.2).take j).map (·.ch) }) := by simp
      have e3 : ((l'.set j (r, { l'[j].2 with te := true, af := ((l.map fun x : AV × Ent => x.2).take j).map (·.ch) }))[j]).2.ch = l[j].2.ch := by rw [e2]; show l'[j].2.ch = _; rw [e0]
      refine ⟨H49, a1, H50, c1, l[j].2.ch, by rw [← e3]; exact t3 0 _ rfl, ?_⟩
      have hl39 := g2.len
      refine grow _ H50 g1 ?_ (by omega) (fun x hx hne => ?_) (fun x hx => ?_) ?_ fun x hx hf => ?_
      · rw [List.map_set, hl']
        exact startE_set hjm (by rw [hmE, if_pos hid, ← e0])
      · rw [g2.fr x (by omega) fun hf => by
          rcases hsub x hf with h | h
          · exact hne h
          · omega, hfr x hx hne]
      · rcases g2.sub x hx with h | h
        · exact hsub x h
        · exact .inr (by omega)
      · exact hah.frame fun x hx => g2.fr x (hah.at_lt hx).2 (hahf x hx).1
      · rcases g2.sub x hf with h | h
        · exact (hahf x hx).1 h
        · have := (hah.at_lt hx).2; omega
    · rw [e0] at hfa ⊢; exact hskip (by unfold idle; simp only [Bool.not_eq_true, Bool.not_eq_false] at hfa; rw [hfa]; simp)
    · rw [e0] at hpa ⊢; exact hskip (by unfold idle; simp only [Bool.not_eq_true, Bool.not_eq_false] at hpa; rw [hpa]; simp)
    · rw [e0] at hte ⊢; exact hskip (by unfold idle; simp only [Bool.not_eq_true, Bool.not_eq_false] at hte; rw [hte]; simp)
  · have hj : j = cn := by omega
    subst hj
    exact hq l' H39 hst' (by rw [hl', hcn]) hfr hlen hsub


theorem dropUpto_len (c : Int) (j : Nat) (l : List Ent) : (dropUpto c j l).length = l.length := by simp [dropUpto]
theorem dropUpto_get {c : Int} {j : Nat} {l : List Ent} {k : Nat} (h : k < l.length) : (dropUpto c j l)[k]'(by rw [dropUpto_len]; exact h) = if k < j then dropE c l[k] else l[k] := by simp [dropUpto]
theorem dropUpto_zero (c : Int) (l : List Ent) : dropUpto c 0 l = l := by
  refine List.ext_getElem (dropUpto_len _ _ _) fun k h1 h2 => ?_
  rw [dropUpto_get h2, if_neg (by omega)]
theorem dropUpto_all (c : Int) (l : List Ent) : dropUpto c l.length l = l.map (dropE c) := by
  refine List.ext_getElem (by simp [dropUpto_len]) fun k h1 h2 => ?_
  rw [List.length_map] at h2
  rw [dropUpto_get h2, if_pos h2, List.getElem_map]
theorem dropUpto_set {c : Int} {j : Nat} {l : List Ent} (hj : j < l.length) : (dropUpto c j l).set j (dropE c l[j]) = dropUpto c (j + 1) l := by
  refine List.ext_getElem (by simp [dropUpto_len]) fun k h1 h2 => ?_
  rw [dropUpto_len] at h2
  rw [List.getElem_set, dropUpto_get h2, dropUpto_get h2]
  by_cases ek : j = k
  · subst ek; rw [if_pos rfl, if_pos (by omega)]
  · rw [if_neg ek]
    by_cases h : k < j
    · rw [if_pos h, if_pos (by omega)]
    · rw [if_neg h, if_neg (by omega)]

theorem settlex1_c {f : Nat} (hF : F f = some rf_mergequeue_queue_settlex1) {fl : Nat} {H : Heap} {b : Nat} {c : Int} (hb : rload H none b 0 = some (i64 c)) (a : Int) :
    Ret F fl f ([i64 a] ++ [.ptr b 0]) H fun v H'' => v = .bool (a == c) ∧ Keep H.length H H'' :=
  v_mergequeue_queue_settlex1 hF _ _ ⟨b, 0, rfl, c, hb, rfl, Keep.refl H⟩

theorem drop_ok {fl nClone nDel nx1 b134 : Nat} {cs : List AV} {c : Int} {P : Heap → Prop} (hC : CloneIC F nClone) (hD : DeleteFuncC F nDel) (hX : F nx1 = some rf_mergequeue_queue_settlex1) (hst : QSt n H qb w ve vl vr l la re) (hfl : fl ≤ n) (hl : l.length ≤ 2 ^ 19) (haf : ∀ x ∈ l, x.2.af.length ≤ 2 ^ 19)
    (hbox : Box H b134 cs) (hcs : cs[0]? = some (i64 c)) (hbf : ¬ QFoot qb ve vl vr l b134)
    (hq : ∀ l' H', QSt n H' qb w ve vl vr l' la re → l'.map (·.2) = (l.map (·.2)).map (dropE c) → Evo n H H' (QFoot qb ve vl vr l) (QFoot qb ve vl vr l') → P H') :
    ∃ (e158 : AV), rload H none qb 0 = some e158 ∧ ∃ len159 : Nat, lenA e158 = some len159 ∧ ∃ (J160 : Nat → Int → Heap → Prop) (k161 : Nat), J160 k161 0 H ∧ (∀ (m162 : Nat) (v163 : Int) (H167 : Heap), J160 m162 v163 H167 → ((v163 < (len159 : Int)) → ∃ (e168 : AV), rload H167 none qb 0 = some e168 ∧ ∃ b169 o170 : Nat, ptrA 6 e168 v163 = some (b169, o170) ∧ ∃ (e171 : AV), rload H167 none b169 (o170 + 5) = some e171 ∧
      Ret F fl nClone [e171] H167 (fun r172 H173 => Ret F fl nDel [r172, (.func nx1 [(.ptr b134 0)])] H173 (fun r175 H176 => ∃ H178 : Heap, putA fl H176 b169 (o170 + 5) 1 r175 = some H178 ∧ ∃ m179 : Nat, m179 < m162 ∧ J160 m179 (IntKind.wrap .i64 (v163 + 1)) H178))) ∧ (¬(v163 < (len159 : Int)) → P H167)) := by
  have hsm : l.length ≤ 9223372036854775807 := hst.ents.own.small
  refine ⟨ve, hst.entries, l.length, hst.ents.own.len, ?_⟩
  refine ⟨fun m v H' => ∃ (j : Nat) (l' : List (AV × Ent)), v = j ∧ j + m = l.length ∧ QSt n H' qb w ve vl vr l' la re ∧ l'.map (·.2) = dropUpto c j (l.map (·.2)) ∧ Evo n H H' (QFoot qb ve vl vr l) (QFoot qb ve vl vr l'),
    l.length, ⟨0, l, rfl, by omega, hst, (dropUpto_zero _ _).symm, hst.evo (Keep.refl H)⟩, ?_⟩
  rintro m _ H167 ⟨j, l', rfl, hm, hst', hl', hevo⟩
  have hll : l'.length = l.length := by have := congrArg List.length hl'; simpa [dropUpto_len] using this
  refine ⟨fun hlt => ?_, fun hge => ?_⟩
  · have hj : j < l.length := by omega
    have hj' : j < l'.length := by omega
    have hjm : j < (l.map fun x : AV × Ent => x.2).length := by simpa using hj
    have e0 : l'[j].2 = l[j].2 := by
      have h1 : (l'.map fun x : AV × Ent => x.2)[j]'(by simpa using hj') = (l.map fun x : AV × Ent => x.2)[j] := by
        simp only [hl']
        rw [dropUpto_get hjm, if_neg (by omega)]
      simpa using h1
    have hmE : (l.map fun x : AV × Ent => x.2)[j] = l[j].2 := by simp
    have hm' := List.getElem_mem hj'
    obtain ⟨b, o, p1, p2, p3, p4⟩ := hst'.ents.put hj'
    have hbox' : Box H167 b134 cs := hbox.frame (hevo.fr b134 hbox.lt hbf)
    refine ⟨ve, hst'.entries, b, o, p1, _, p3 5 _ rfl, hC n (hst'.ents.af l'[j] hm').ints hst'.bn (by rw [e0]; have := haf l[j] (List.getElem_mem hj); omega) fun r H173 k173 hr hrb => ?_⟩
    have hb173 : Box H173 b134 cs := hbox'.frame (k173.get b134 hbox'.lt)
    refine hD (p := fun x => x == c) hr hfl (Nat.le_trans hst'.bn k173.len) (fun a H' hlen hfr => ?_) fun w' H176 g1 g2 g3 g4 => ?_
    · refine settlex1_c hX ?_ a
      have hb' : Box H' b134 cs := hb173.frame (hfr b134 hb173.lt fun ha => by have := hrb b134 ha; have := hbox'.lt; omega)
      exact hb'.load hcs
    have k176 : Keep H167.length H167 H176 := ⟨Nat.le_refl _, Nat.le_trans k173.len g2, fun x hx => by
      rw [g3 x (Nat.lt_of_lt_of_le hx k173.len) fun ha => by have := hrb x ha; omega, k173.get x hx]⟩
    have s176 := hst'.keep k176
    obtain ⟨b2, o2, q1, q2, q3, q4⟩ := s176.ents.put hj'
    rw [p1] at q1; cases q1
    have hwd : ∀ x, At w' x → H167.length ≤ x := fun x hx => hrb x (g4 x hx)
    have hwve : ∀ x, At w' x → ¬ At ve x := fun x hx ha => by
      have := hwd x hx
      have := (hst'.ents.at_lt (.inl ha)).2
      omega
    obtain ⟨H178, c1, c2, c3⟩ := q4 fl 5 1 w' (w', dropE c l'[j].2) hfl (by rw [g1.scal.1]; rfl) (by decide) (by rw [g1.scal.1, List.all_cons, g1.scal.2]; rfl) (by rw [g1.scal.1]; rfl) g1 hwve
    obtain ⟨t1, t2⟩ := hst'.entsIn c2 (by rw [c3.len]; exact k176.len) (fun y hy hne => by
      rw [c3.get y fun e => hne (e ▸ p2), k176.get y hy]) fun y hy x hx => by
      rcases List.mem_or_eq_of_mem_set hy with hy | rfl
      · exact .inl ⟨y, hy, hx⟩
      · exact .inr (hwd x hx)
    refine ⟨H178, c1, m - 1, by omega, j + 1, _, wsucc hj hsm, by omega, t1, ?_, hevo.trans t2⟩
    rw [List.map_set, hl', e0, ← hmE]
    exact dropUpto_set hjm
  · have hj : j = l.length := by omega
    subst hj
    refine hq l' H167 hst' ?_ hevo
    rw [hl', ← dropUpto_all, List.length_map]

end
end Go.RM

/-
  Package mergequeue: settle, Run, Outcome.
-/
namespace Go.RM
set_option linter.unusedSimpArgs false
set_option linter.unusedVariables false
set_option maxRecDepth 4000
open Mq

variable {F : Nat → Option RFunc}

structure Sizes (l : List (AV × Ent)) (la re : List Int) : Prop where
  es : l.length ≤ 2 ^ 17
  af : ∀ x ∈ l, x.2.af.length ≤ 2 ^ 17
  la : la.length + l.length ≤ 2 ^ 18
  re : re.length + l.length ≤ 2 ^ 18

abbrev SettleC (F : Nat → Option RFunc) (f : Nat) : Prop := ∀ {fl H Q n qb w ve vl vr} {l : List (AV × Ent)} {la re : List Int}, QSt n H qb w ve vl vr l la re → fl ≤ n → 1 ≤ w ∧ w ≤ 4 → Sizes l la re →
  (∀ ve' vl' vr' l' la' re' H', QSt n H' qb w ve' vl' vr' l' la' re' → settleE w ⟨l.map (·.2), la, re⟩ = ⟨l'.map (·.2), la', re'⟩ → Keep n H H' → Q .undef H') → Ret F fl f [.ptr qb 0] H Q

theorem map_resetFrom (l : List Ent) : resetFrom 0 l = l.map Mq.blank := by
  refine List.ext_getElem (by simp [resetFrom]) fun k h1 h2 => ?_
  simp [resetFrom]

theorem settle_c {f n1 n2 n3 n4 : Nat} (hF : F f = some (rf_mergequeue_queue_settle n1 n2 n3 n4)) (h1 : RemoveC F n1) (h2 : CloneIC F n2) (h3 : F n3 = some rf_mergequeue_queue_settlex1) (h4 : DeleteFuncC F n4) : SettleC F f := fun {fl H Q n qb w ve vl vr l la re} hst hfl hw hsz hq => by
  refine v_mergequeue_queue_settle hF _ _ ?_
  refine ⟨fun m H' => ∃ ve' vl' vr' l' la' re', m = l'.length ∧ QSt n H' qb w ve' vl' vr' l' la' re' ∧ Evo n H H' (QFoot qb ve vl vr l) (QFoot qb ve' vl' vr' l') ∧ settleF l'.length ⟨l'.map (·.2), la', re'⟩ = settleF l.length ⟨l.map (·.2), la, re⟩ ∧ Sizes l' la' re',
    l.length, ⟨ve, vl, vr, l, la, re, rfl, hst, hst.evo (Keep.refl H), rfl, hsz⟩, ?_⟩
  rintro m H13 ⟨ve', vl', vr', l', la', re', rfl, hst', hevo, hF', hsz'⟩
  refine ⟨∃ x r, l' = x :: r ∧ (x.2.pa = true ∨ x.2.fa = true), ?_, ?_⟩
  · -- tests are started
    have fin : settleF l'.length ⟨l'.map (·.2), la', re'⟩ = ⟨l'.map (·.2), la', re'⟩ → _ := fun hstop => start_ok (Q := Q) h2 hst' hfl hw (by have := hsz'.es; omega) fun l2 H39 s2 e2 hfr hlen hsub => hq ve' vl' vr' l2 la' re' H39 s2 (by
      unfold settleE
      simp only [List.length_map]
      rw [← hF', hstop, e2]
      simp) (hevo.trans ⟨hst'.bn, hlen, fun b hb => (hst'.foot_lt hb).1, hfr, hsub⟩).keep
    refine ⟨ve', hst'.entries, _, hst'.ents.own.len, fun hpos => ?_, fun hneg => ?_⟩
    · match l', hst', hsz', hF', hevo, fin, hpos with
      | [], _, _, _, _, _, hpos => exact absurd hpos (by simp)
      | x :: r, hst', hsz', hF', hevo, fin, hpos =>
        obtain ⟨cs, ⟨wv, rfl, _⟩, _, hcell⟩ := hst'.ents.arr.get (i := 0) (by simp)
        refine ⟨ve', hst'.entries, x.2.pa, hcell 3 _ rfl, fun hpa => ⟨x, r, rfl, .inl hpa⟩, fun hpa => ⟨ve', hst'.entries, x.2.fa, hcell 4 _ rfl, fun hfa => ⟨x, r, rfl, .inr hfa⟩, fun hfa => fin ?_⟩⟩
        simp only [List.length_cons, List.map_cons, settleF]
        rw [if_neg hfa, if_neg hpa]
    · have h0 : l'.length = 0 := by omega
      obtain rfl := List.eq_nil_of_length_eq_zero h0
      exact fin rfl
  · rintro ⟨x, r, rfl, hx⟩
    obtain ⟨cs, ⟨wv, rfl, hints⟩, hget, _⟩ := hst'.ents.arr.get (i := 0) (by simp)
    refine ⟨ve', hst'.entries, x.2.ch, x.2.pr, x.2.te, x.2.pa, x.2.fa, wv, hget, ?_⟩
    intro b134 H135 h134
    have hwv : Scal wv := hints.scal
    obtain ⟨H136, a1, a2, a3⟩ := h134.box.put (fl := fl) (o := 0) (n := 6) (v := .agg (entC (wv, x.2))) rfl (by decide) (by
      show (true && (true && (true && (true && (true && (wv.scalar && true)))))) = true
      rw [hwv.2]; rfl) (by have := h134.b_eq; have := hst'.bn; omega)
    have a2 : Box H136 b134 (entC (wv, x.2)) := a2
    have k136 : Keep H13.length H13 H136 := ⟨Nat.le_refl _, by rw [a3.len]; exact h134.keep.len, fun c hc => by rw [a3.get c (by have := h134.b_eq; omega), h134.keep.get c hc]⟩
    have s136 := hst'.keep k136
    have hge : H13.length ≤ b134 := Nat.le_of_eq h134.b_eq.symm
    have hbf : ∀ {ve vl vr l}, (∀ b, QFoot qb ve vl vr l b → b < H13.length) → ¬ QFoot qb ve vl vr l b134 := fun h hb => by have := h _ hb; omega
    have hb0 := hbf fun b hb => (hst'.foot_lt hb).2
    refine ⟨H136, a1, x.2.fa, a2.load rfl, fun hfa => ?_, fun hfa => ?_⟩
    · -- rejected
      refine h1 (i := 0) s136 hfl (by simp) (by have := hsz'.es; omega) fun ve2 l2 H138 s2 e2 ev2 => ⟨rfl, vr', s2.rejected, x.2.ch, ?_, fun b142 H143 h142 => ?_⟩
      · exact (a2.frame (ev2.fr b134 a2.lt hb0)).load rfl
      · obtain ⟨v', H145, c1, c2, c3, c4, c5⟩ := own_push s2.re s2.bn h142 hfl (by have := hsz'.re; simp at this; omega)
        obtain ⟨H146, d1, d2, d3⟩ := s2.rejPut c2 c3 c4 c5 hfl
        have hl2 : l2.length = r.length := by have := congrArg List.length e2; simpa [resetFrom] using this
        refine ⟨v', H145, c1, H146, d1, l2.length, by simp; omega, ve2, vl', v', l2, la', re' ++ [x.2.ch], rfl, d2, (hevo.trans (hst'.evo k136)).trans (ev2.trans d3), ?_, ?_⟩
        · rw [← hF', e2]
          simp only [List.length_cons, List.map_cons, settleF, List.eraseIdx_zero, List.tail_cons]
          rw [if_pos hfa, map_resetFrom, hl2]
        · refine ⟨by have := hsz'.es; simp at this; omega, fun y hy => ?_, by have := hsz'.la; simp at this; omega, by have := hsz'.re; simp at this ⊢; omega⟩
          obtain ⟨k, hk, rfl⟩ := List.getElem_of_mem hy
          have e3 : (l2.map fun y : AV × Ent => y.2)[k]'(by simpa using hk) = l2[k].2 := by simp
          rw [← e3]
          simp only [e2]
          simp [resetFrom]
    · -- landed
      have hpa : x.2.pa = true := hx.resolve_right hfa
      obtain ⟨w1, t1, t2, t3, t4⟩ := Own.tail (by decide) s136.ents.own (m := r.length)
      have hE : EntsH n H136 w1 r := ⟨by
          have e1 : ((x :: r).map entC).flatten.drop 6 = (r.map entC).flatten := by rw [List.map_cons, List.flatten_cons, List.drop_append_of_le_length (by rw [entC_len]; exact Nat.le_refl _), List.drop_of_length_le (by rw [entC_len]; exact Nat.le_refl _), List.nil_append]
          rw [e1] at t2; exact t2, t4 s136.ents.nolim, fun y hy => s136.ents.af y (List.mem_cons_of_mem _ hy), fun y hy b hb ha => s136.ents.off y (List.mem_cons_of_mem _ hy) b hb (t3 b ha)⟩
      obtain ⟨H150, u1, u2, u3⟩ := s136.entsPut (fl := fl) hE (Nat.le_refl _) (fun _ _ _ => rfl) (fun b hb => .inl (t3 b hb)) (fun y hy b hb => .inl ⟨y, List.mem_cons_of_mem _ hy, hb⟩) hfl
      have box150 : Box H150 b134 (entC (wv, x.2)) := a2.frame (u3.fr b134 a2.lt hb0)
      refine ⟨ve', s136.entries, w1, t1, H150, u1, vl', u2.landed, x.2.ch, box150.load rfl, fun b153 H154 h153 => ?_⟩
      obtain ⟨v', H156, c1, c2, c3, c4, c5⟩ := own_push u2.la u2.bn h153 hfl (by have := hsz'.la; simp at this; omega)
      obtain ⟨H157, d1, d2, d3⟩ := u2.landPut c2 c3 c4 c5 hfl
      have hb150 : ¬ QFoot qb w1 vl' vr' r b134 := fun hb => by
        rcases u3.sub b134 hb with h | h
        · exact hb0 h
        · have := a2.lt; omega
      have box157 : Box H157 b134 (entC (wv, x.2)) := box150.frame (d3.fr b134 box150.lt hb150)
      have hb157 : ¬ QFoot qb w1 v' vr' r b134 := fun hb => by
        rcases d3.sub b134 hb with h | h
        · exact hb150 h
        · have := box150.lt; omega
      refine ⟨v', H156, c1, H157, d1, drop_ok (c := x.2.ch) h2 h4 h3 d2 hfl (by have := hsz'.es; simp at this; omega) (fun y hy => by have := hsz'.af y (List.mem_cons_of_mem _ hy); omega) box157 rfl hb157 fun l2 H167 s2 e2 ev2 => ?_⟩
      have hl2 : l2.length = r.length := by have := congrArg List.length e2; simpa using this
      refine ⟨l2.length, by simp; omega, w1, v', vr', l2, la' ++ [x.2.ch], re', rfl, s2, (hevo.trans (hst'.evo k136)).trans ((u3.trans d3).trans ev2), ?_, ?_⟩
      · rw [← hF', e2]
        simp only [List.length_cons, List.map_cons, settleF]
        rw [if_neg hfa, if_pos hpa, hl2]
      · refine ⟨by have := hsz'.es; simp at this; omega, fun y hy => ?_, by have := hsz'.la; simp at this ⊢; omega, by have := hsz'.re; simp at this; omega⟩
        obtain ⟨k, hk, rfl⟩ := List.getElem_of_mem hy
        have e3 : (l2.map fun y : AV × Ent => y.2)[k]'(by simpa using hk) = l2[k].2 := by simp
        rw [← e3]
        simp only [e2]
        simp only [List.getElem_map, dropE]
        refine Nat.le_trans (List.length_filter_le _ _) (hsz'.af _ (List.mem_cons_of_mem _ (List.getElem_mem _)))

end Go.RM
namespace Go.RM
set_option linter.unusedSimpArgs false
set_option linter.unusedVariables false
set_option maxRecDepth 4000
open Mq

namespace Mq
def q0 : QS := ⟨[], [], []⟩
def runE (w : Int) : List Ev → Int → QS → QS × Int × Int
  | [], _, q => (q, 0, 0)
  | x :: r, i, q => if (stepE q x).2 ≠ 0 then (q0, (stepE q x).2, i) else runE w r (i + 1) (settleE w (stepE q x).1)
def runQ (w : Int) (evs : List Ev) : QS × Int × Int :=
  if w < 1 ∨ w > 4 then (q0, 3, -2) else if evs.length > 40 then (q0, 2, -1) else runE w evs 0 q0

structure Small (q : QS) (j : Nat) : Prop where
  n : q.es.length + q.la.length + q.re.length ≤ j
  af : ∀ e ∈ q.es, e.af.length ≤ 40
end Mq

variable {F : Nat → Option RFunc}

theorem resetFrom_len (i : Nat) (l : List Ent) : (resetFrom i l).length = l.length := by simp [resetFrom]
theorem resetFrom_af {i : Nat} {l : List Ent} (h : ∀ e ∈ l, e.af.length ≤ 40) : ∀ e ∈ resetFrom i l, e.af.length ≤ 40 := by
  intro e he
  obtain ⟨k, hk, rfl⟩ := List.getElem_of_mem he
  simp only [resetFrom, List.getElem_mapIdx]
  split
  · exact Nat.zero_le _
  · exact h _ (List.getElem_mem _)

theorem addE_small {q : QS} {j : Nat} (h : Small q j) (c p : Int) : Small (addE q c p).1 (j + 1) := by
  unfold addE
  split
  · exact ⟨by have := h.n; simp only; omega, h.af⟩
  · split
    · exact ⟨by have := h.n; simp only; omega, h.af⟩
    · refine ⟨?_, ?_⟩
      · have := h.n
        simp only [resetFrom_len, List.length_append, List.length_take, List.length_cons, List.length_drop]
        omega
      · refine resetFrom_af fun e he => ?_
        rcases List.mem_append.1 he with he | he
        · exact h.af e (List.mem_of_mem_take he)
        · rcases List.mem_cons.1 he with rfl | he
          · exact Nat.zero_le _
          · exact h.af e (List.mem_of_mem_drop he)
theorem stepE_small {q : QS} {j : Nat} (h : Small q j) (x : Ev) : Small (stepE q x).1 (j + 1) := by
  have h0 : Small q (j + 1) := ⟨by have := h.n; omega, h.af⟩
  unfold stepE
  split
  · exact h0
  split
  · exact h0
  split
  · exact h0
  split
  · exact addE_small h _ _
  split
  · exact h0
  rename_i i hi
  split
  · refine ⟨?_, resetFrom_af fun e he => h.af e (mem_erase he)⟩
    have := h.n
    have h2 := List.length_eraseIdx_le q.es i
    simp only [resetFrom_len]; omega
  · split
    · split
      · refine ⟨by have := h.n; simp only [List.length_set]; omega, fun e he => ?_⟩
        rcases List.mem_or_eq_of_mem_set he with he | rfl
        · exact h.af e he
        · rename_i e0 hg _
          exact h.af e0 (List.mem_of_getElem? hg)
      · exact h0
    · exact h0
theorem settleF_small : ∀ (n : Nat) {q : QS} {j : Nat}, Small q j → Small (settleF n q) j
  | 0, _, _, h => h
  | n + 1, ⟨[], la, re⟩, j, h => h
  | n + 1, ⟨e :: r, la, re⟩, j, h => by
    simp only [settleF]
    split
    · refine settleF_small n ⟨?_, fun x hx => ?_⟩
      · have := h.n; simp at this ⊢; omega
      · obtain ⟨y, hy, rfl⟩ := List.mem_map.1 hx; exact Nat.zero_le _
    · split
      · refine settleF_small n ⟨?_, fun x hx => ?_⟩
        · have := h.n; simp at this ⊢; omega
        · obtain ⟨y, hy, rfl⟩ := List.mem_map.1 hx
          exact Nat.le_trans (List.length_filter_le _ _) (h.af y (List.mem_cons_of_mem _ hy))
      · exact h
theorem settleE_small {w : Int} {q : QS} {j : Nat} (h : Small q j) (hj : j ≤ 40) : Small (settleE w q) j := by
  have h1 := settleF_small q.es.length h
  unfold settleE
  refine ⟨by have := h1.n; simp only [startE_len]; exact this, fun e he => ?_⟩
  obtain ⟨k, hk, rfl⟩ := List.getElem_of_mem he
  rw [startE_len] at hk
  rw [startE_get hk]
  split
  · have := h1.n
    simp only [List.length_map, List.length_take]; omega
  · exact h1.af _ (List.getElem_mem _)

abbrev RunC (F : Nat → Option RFunc) (f : Nat) : Prop := ∀ {fl H Q w v} {evs : List Ev}, Arr tEv H v evs → fl ≤ H.length →
  (∀ ve vl vr H', Keep H.length H H' → Arr tEnt H' ve (runQ w evs).1.es → Ints H' vl (runQ w evs).1.la → Ints H' vr (runQ w evs).1.re → Q (.tuple [.agg [ve, vl, vr], flt (runQ w evs).2.1 (runQ w evs).2.2]) H') → Ret F fl f [i64 w, v] H Q

theorem run_c {f n1 n2 : Nat} (hF : F f = some (rf_mergequeue_Run n1 n2)) (h1 : StepC F n1) (h2 : SettleC F n2) : RunC F f := fun {fl H Q w v evs} hv hfl hq => by
  refine v_mergequeue_Run hF _ _ ?_
  intro H2 d2 H3 d3
  have k3 := d2.keep.call d3.keep
  refine ⟨fun hw => ?_, fun hw => ⟨_, hv.len, fun h40 => ?_, fun h40 => ?_⟩⟩
  · have := hq .empty .empty .empty H3 k3
    unfold runQ at this
    rw [if_pos hw] at this
    exact this Arr.nil Arr.nil Arr.nil
  · have := hq .empty .empty .empty H3 k3
    unfold runQ at this
    rw [if_neg hw, if_pos (by omega)] at this
    exact this Arr.nil Arr.nil Arr.nil
  have hrun : runQ w evs = runE w evs 0 q0 := by unfold runQ; rw [if_neg hw, if_neg (by omega)]
  rw [hrun] at hq
  intro b5 H6 h5
  have hb5 : H.length ≤ b5 := by rw [h5.b_eq]; exact k3.len
  obtain ⟨H7, a1, a2, a3⟩ := h5.box.put (fl := fl) (o := 0) (n := 4) (v := .agg [.empty, .empty, .empty, i64 w]) rfl (by decide) rfl (by omega)
  have k6 := k3.call h5.keep
  have k7 : Keep H.length H H7 := k6.tr (a3.keep hb5 k6.len)
  have st : QSt H.length H7 b5 w .empty .empty .empty [] [] [] :=
    { ents := EntsH.nil, box := a2, lo := hb5, la := Own.nil, re := Own.nil, qe := at_empty, ql := at_empty, qr := at_empty, el := fun b h => absurd h at_empty, er := fun b h => absurd h at_empty, lr := fun b h => absurd h at_empty, aq := fun x hx => by cases hx }
  have hvs := hv.small
  refine ⟨H7, a1, _, hv.len, fun m _ _ _ _ _ v17 H' => ∃ (j : Nat) (ve vl vr : AV) (l : List (AV × Ent)) (la re : List Int), v17 = j ∧ j + m = evs.length ∧ Keep H.length H H' ∧ QSt H.length H' b5 w ve vl vr l la re ∧ runE w (evs.drop j) j ⟨l.map (·.2), la, re⟩ = runE w evs 0 q0 ∧ Small ⟨l.map (·.2), la, re⟩ j,
    evs.length, ⟨0, .empty, .empty, .empty, [], [], [], rfl, by omega, k7, st, by rw [List.drop_zero]; rfl, ⟨by simp, fun e he => by cases he⟩⟩, ?_⟩
  rintro m _ _ _ _ _ _ H23 ⟨j, ve, vl, vr, l, la, re, rfl, hm, hk, hst, hr, hs⟩
  refine ⟨fun hlt => ?_, fun hge => ?_⟩
  · have hj : j < evs.length := by omega
    have hs1 := hs.n
    simp only [List.length_map] at hs1
    rw [List.drop_eq_getElem_cons hj, runE] at hr
    refine ⟨_, _, _, (hv.keep hk).enc hj, ?_⟩
    intro H28 d28
    have s28 := hst.keep d28.keep
    have k28 := hk.call d28.keep
    refine h1 (x := evs[j]) s28 hfl (by omega) fun ve' l' r H30 q1 q2 q3 => ⟨_, rfl, fun hne => ?_, fun h0 => ?_⟩
    · rw [q2] at hr
      simp only at hr
      rw [if_pos hne] at hr
      have := hq .empty .empty .empty H30 (k28.tr q3.keep)
      rw [← hr] at this
      exact this Arr.nil Arr.nil Arr.nil
    · have h0 : r = 0 := by simpa using h0
      subst h0
      rw [q2] at hr
      simp only [ne_eq, not_true_eq_false, if_false] at hr
      have hs2 : Small ⟨l'.map (·.2), la, re⟩ (j + 1) := by
        have := stepE_small hs evs[j]
        rw [q2] at this; exact this
      have hn2 := hs2.n
      simp only [List.length_map] at hn2
      refine h2 q1 hfl (by omega) ⟨by omega, fun x hx => ?_, by omega, by omega⟩ fun ve2 vl2 vr2 l2 la2 re2 H32 t1 t2 t3 => ⟨rfl, m - 1, by omega, j + 1, ve2, vl2, vr2, l2, la2, re2, wsucc hj hvs, by omega, (k28.tr q3.keep).tr t3, t1, ?_, ?_⟩
      · have := hs2.af x.2 (List.mem_map_of_mem hx)
        omega
      · rw [← t2, ← hr]; simp
      · rw [← t2]; exact settleE_small hs2 (by omega)
  · have hj : j = evs.length := by omega
    subst hj
    rw [List.drop_length, runE] at hr
    refine ⟨ve, vl, vr, hst.box.loadN (o := 0) (n := 3) (by simp), hst.ents.own.scal, hst.la.scal, hst.re.scal, ?_⟩
    have := hq ve vl vr H23 hk
    rw [← hr] at this
    exact this hst.ents.arr hst.la.ints hst.re.ints

/-! ### Outcome -/

def outE (w : Int) (evs : List Ev) (c : Int) : Int × Int × Int × Int :=
  let r := runQ w evs
  if r.2.1 ≠ 0 ∨ r.2.2 ≠ 0 then (0, 0, r.2.1, r.2.2)
  else if fidx (fun x => x == c) r.1.la ≥ 0 then (1, fidx (fun x => x == c) r.1.la, 0, 0)
  else if fidx (fun x => x == c) r.1.re ≥ 0 then (2, fidx (fun x => x == c) r.1.re, 0, 0)
  else if findE c r.1.es ≥ 0 then (3, findE c r.1.es, 0, 0)
  else (0, 0, 6, -3)

abbrev OutcomeC (F : Nat → Option RFunc) (f : Nat) : Prop := ∀ {fl H Q w v c} {evs : List Ev}, Arr tEv H v evs → fl ≤ H.length →
  (∀ H', Keep H.length H H' → Q (.tuple [i64 (outE w evs c).1, i64 (outE w evs c).2.1, flt (outE w evs c).2.2.1 (outE w evs c).2.2.2]) H') → Ret F fl f [i64 w, v, i64 c] H Q
theorem outcome_c {f n1 n2 n3 n4 : Nat} (hF : F f = some (rf_mergequeue_Outcome n1 n2 n3 n4)) (h1 : RunC F n1) (h2 : IndexIC F n2) (h3 : F n3 = some rf_mergequeue_Outcomex1) (h4 : IndexFuncEC F n4) : OutcomeC F f := fun {fl H Q w v c evs} hv hfl hq => by
  refine v_mergequeue_Outcome hF _ _ _ ?_
  intro b3 H4 d4 H5 d5
  have k5 := d4.keep.call d5.keep
  refine h1 (hv.keep k5) (by have := k5.len; omega) fun ve vl vr H11 k11 he hl hr => ⟨_, _, _, _, _, rfl, ?_⟩
  intro H13 d13 H14 d14
  have k14 := (k5.call k11).call (d13.keep.call d14.keep)
  have k1114 := d13.keep.call d14.keep
  have hcell : Cell H14 b3 (i64 c) := d4.cell.keep ((d5.keep.call k11).call k1114)
  have ld := hcell.load
  have hl' := hl.keep k1114
  have hr' := hr.keep k1114
  have he' := he.keep k1114
  unfold outE at hq
  refine ⟨he.scal, hl.scal, hr.scal, fun hne => ?_, fun heq => ⟨c, ld, h2 hl' ⟨_, rfl, fun g1 => ?_, fun g1 => ⟨c, ld, h2 hr' ⟨_, rfl, fun g2 => ?_, fun g2 => h4 he' (p := fun e => e.ch == c) (fun cs a H' ha hk hrel => outcomex1_c h3 (hcell.keep hk) hrel) fun H27 k27 => ⟨_, rfl, fun g3 => ?_, fun g3 => ?_⟩⟩⟩⟩⟩⟩
  · have := hq H14 k14
    simp only at this
    rw [if_pos (by simp at hne; omega)] at this
    exact this
  all_goals
    have hz : (runQ w evs).2.1 = 0 ∧ (runQ w evs).2.2 = 0 := by
      simp at heq; exact heq
    have hz' : ¬ ((runQ w evs).2.1 ≠ 0 ∨ (runQ w evs).2.2 ≠ 0) := by omega
    try rw [hz.1, hz.2]
  · have := hq H14 k14
    simp only at this
    rw [if_neg hz', if_pos g1] at this; exact this
  · have := hq H14 k14
    simp only at this
    rw [if_neg hz', if_neg g1, if_pos g2] at this; exact this
  · have := hq H27 (k14.call k27)
    simp only at this
    have g3' : findE c (runQ w evs).1.es ≥ 0 := g3
    rw [if_neg hz', if_neg g1, if_neg g2, if_pos g3'] at this; exact this
  · have := hq H27 (k14.call k27)
    simp only at this
    have g3' : ¬ findE c (runQ w evs).1.es ≥ 0 := g3
    rw [if_neg hz', if_neg g1, if_neg g2, if_neg g3'] at this; exact this

end Go.RM

/-
  The reference's merge queue: what its functions return.
-/
namespace Go.RM
set_option linter.unusedSimpArgs false
set_option linter.unusedVariables false
set_option maxRecDepth 4000

namespace Mq
structure Tri where
  c : Int
  p : Int
  s : Int
structure RQ where
  t : List Tri
  la : List Int
  re : List Int
def mk0 (d : Bool) (t : Tri) : Tri := if d then { t with s := 0 } else t
def insT (c p : Int) : Bool → List Tri → List Tri
  | d, [] => if d then [] else [⟨c, p, 0⟩]
  | d, t :: r => if !d && decide (t.p < p) then ⟨c, p, 0⟩ :: mk0 true t :: insT c p true r else mk0 d t :: insT c p d r
def cutT (i : Int) (d : Bool) : Nat → List Tri → List Tri
  | _, [] => []
  | k, t :: r => if (k : Int) = i then cutT i d (k + 1) r else mk0 (decide ((k : Int) > i) && d) t :: cutT i d (k + 1) r
def setF : Nat → RQ → RQ
  | 0, q => q
  | n + 1, q =>
    match q.t with
    | [] => q
    | t :: r =>
      if t.s > 1 then
        if t.s = 2 then setF n { t := cutT 0 false 0 (t :: r), la := q.la ++ [t.c], re := q.re }
        else setF n { t := cutT 0 true 0 (t :: r), la := q.la, re := q.re ++ [t.c] }
      else q
def startT (j : Nat) (l : List Tri) : List Tri := l.mapIdx fun k t => if k < j ∧ t.s = 0 then { t with s := 1 } else t
def settledR (w : Int) (q : RQ) : RQ := let q' := setF q.t.length q; { q' with t := startT (min w.toNat q'.t.length) q'.t }
def findT (c : Int) (l : List Tri) : Int := fidx (fun t => t.c == c) l
def stepR (w : Int) (q : RQ) (x : Ev) : RQ × Int :=
  if x.k < 1 ∨ x.k > 4 then (q, 4)
  else if x.c < 1 ∨ x.c > 1000000000 ∨ x.p < 0 ∨ x.p > 3 then (q, 3)
  else if x.k > 1 ∧ x.p > 0 then (q, 5)
  else if x.k = 1 then
    if findT x.c q.t ≥ 0 ∨ x.c ∈ q.la ∨ x.c ∈ q.re then (q, 7)
    else if 10 ≤ q.t.length then (q, 14)
    else (settledR w { q with t := insT x.c x.p false q.t }, 0)
  else
    match q.t.findIdx? (fun t => t.c == x.c) with
    | none => (q, 6)
    | some i =>
      if x.k = 2 then (settledR w { q with t := cutT i true 0 q.t }, 0)
      else match q.t[i]? with
        | some t => if t.s = 1 then (settledR w { q with t := (cutT (-1) false 0 q.t).set i { t with s := if x.k = 4 then 3 else 2 } }, 0) else (q, 11)
        | none => (q, 6)
end Mq
open Mq

variable {F : Nat → Option RFunc}

abbrev OI (n : Nat) (H : Heap) (v : AV) (l : List Int) : Prop := Own n H 1 v l.length (ints l)
theorem Own.less {n m e k : Nat} {H : Heap} {v : AV} {cs : List AV} (h : Own n H e v k cs) (hm : m ≤ n) : Own m H e v k cs := by
  rcases h.out with g | ⟨b, off, lim, kb, h1, h2, h3⟩
  · exact ⟨h.small, .inl g⟩
  · exact ⟨h.small, .inr ⟨b, off, lim, kb, h1, by omega, h3⟩⟩

structure O3 (n : Nat) (H : Heap) (o0 o1 o2 : AV) (t : List Tri) : Prop where
  h0 : OI n H o0 (t.map (·.c))
  h1 : OI n H o1 (t.map (·.p))
  h2 : OI n H o2 (t.map (·.s))
  d01 : ∀ x, At o0 x → ¬ At o1 x
  d02 : ∀ x, At o0 x → ¬ At o2 x
  d12 : ∀ x, At o1 x → ¬ At o2 x

structure O3p (n : Nat) (H : Heap) (o0 o1 o2 : AV) (a b c : List Int) : Prop where
  h0 : OI n H o0 a
  h1 : OI n H o1 b
  h2 : OI n H o2 c
  d01 : ∀ x, At o0 x → ¬ At o1 x
  d02 : ∀ x, At o0 x → ¬ At o2 x
  d12 : ∀ x, At o1 x → ¬ At o2 x

section
variable {n b fl : Nat} {H H1 : Heap} {o0 o1 o2 : AV} {la lb lc : List Int} {x : Int}

theorem keep_push {H2 : Heap} {v : AV} {l : List Int} (h : OI n H v l) (hn : n ≤ H.length) (hlen : H.length ≤ H2.length) (hfr : ∀ y, y < H.length → ¬ At v y → H2[y]? = H[y]?) : Keep n H H2 :=
  ⟨hn, hlen, fun y hy => hfr y (by omega) fun ha => by have := (h.at_lt ha).1; omega⟩

theorem O3p.push0 (h : O3p n H o0 o1 o2 la lb lc) (hn : n ≤ H.length) (hb : NewB H 1 [i64 x] b H1) (hfl : fl ≤ n) (hl : la.length ≤ 2 ^ 20) :
    ∃ a H2, appA fl true 1 8 H1 o0 (.slice b 0 1 (some 1)) = some (a, H2) ∧ O3p n H2 a o1 o2 (la ++ [x]) lb lc ∧ Keep n H H2 := by
  obtain ⟨v', H2, a1, a2, a3, a4, a5⟩ := own_push h.h0 hn hb hfl hl
  refine ⟨v', H2, a1, ⟨a2, h.h1.frame fun y hy => a4 y (h.h1.at_lt hy).2 fun ha => h.d01 y ha hy, h.h2.frame fun y hy => a4 y (h.h2.at_lt hy).2 fun ha => h.d02 y ha hy, fun y hy hy1 => ?_, fun y hy hy1 => ?_, h.d12⟩, keep_push h.h0 hn a3 a4⟩
  · rcases a5 y hy with h1 | h1
    · exact h.d01 y h1 hy1
    · have := (h.h1.at_lt hy1).2; omega
  · rcases a5 y hy with h1 | h1
    · exact h.d02 y h1 hy1
    · have := (h.h2.at_lt hy1).2; omega
theorem O3p.push1 (h : O3p n H o0 o1 o2 la lb lc) (hn : n ≤ H.length) (hb : NewB H 1 [i64 x] b H1) (hfl : fl ≤ n) (hl : lb.length ≤ 2 ^ 20) :
    ∃ a H2, appA fl true 1 8 H1 o1 (.slice b 0 1 (some 1)) = some (a, H2) ∧ O3p n H2 o0 a o2 la (lb ++ [x]) lc ∧ Keep n H H2 := by
  obtain ⟨v', H2, a1, a2, a3, a4, a5⟩ := own_push h.h1 hn hb hfl hl
  refine ⟨v', H2, a1, ⟨h.h0.frame fun y hy => a4 y (h.h0.at_lt hy).2 fun ha => h.d01 y hy ha, a2, h.h2.frame fun y hy => a4 y (h.h2.at_lt hy).2 fun ha => h.d12 y ha hy, fun y hy hy1 => ?_, h.d02, fun y hy hy1 => ?_⟩, keep_push h.h1 hn a3 a4⟩
  · rcases a5 y hy1 with h1 | h1
    · exact h.d01 y hy h1
    · have := (h.h0.at_lt hy).2; omega
  · rcases a5 y hy with h1 | h1
    · exact h.d12 y h1 hy1
    · have := (h.h2.at_lt hy1).2; omega
theorem O3p.push2 (h : O3p n H o0 o1 o2 la lb lc) (hn : n ≤ H.length) (hb : NewB H 1 [i64 x] b H1) (hfl : fl ≤ n) (hl : lc.length ≤ 2 ^ 20) :
    ∃ a H2, appA fl true 1 8 H1 o2 (.slice b 0 1 (some 1)) = some (a, H2) ∧ O3p n H2 o0 o1 a la lb (lc ++ [x]) ∧ Keep n H H2 := by
  obtain ⟨v', H2, a1, a2, a3, a4, a5⟩ := own_push h.h2 hn hb hfl hl
  refine ⟨v', H2, a1, ⟨h.h0.frame fun y hy => a4 y (h.h0.at_lt hy).2 fun ha => h.d02 y hy ha, h.h1.frame fun y hy => a4 y (h.h1.at_lt hy).2 fun ha => h.d12 y hy ha, a2, h.d01, fun y hy hy1 => ?_, fun y hy hy1 => ?_⟩, keep_push h.h2 hn a3 a4⟩
  · rcases a5 y hy1 with h1 | h1
    · exact h.d02 y hy h1
    · have := (h.h0.at_lt hy).2; omega
  · rcases a5 y hy1 with h1 | h1
    · exact h.d12 y hy h1
    · have := (h.h1.at_lt hy).2; omega

theorem O3p.of {t : List Tri} (h : O3p n H o0 o1 o2 (t.map (·.c)) (t.map (·.p)) (t.map (·.s))) : O3 n H o0 o1 o2 t := ⟨h.h0, h.h1, h.h2, h.d01, h.d02, h.d12⟩
theorem O3.p {t : List Tri} (h : O3 n H o0 o1 o2 t) : O3p n H o0 o1 o2 (t.map (·.c)) (t.map (·.p)) (t.map (·.s)) := ⟨h.h0, h.h1, h.h2, h.d01, h.d02, h.d12⟩
theorem O3.nil : O3 n H .empty .empty .empty [] := ⟨Own.nil, Own.nil, Own.nil, fun x h => absurd h at_empty, fun x h => absurd h at_empty, fun x h => absurd h at_empty⟩
theorem O3p.done {t : List Tri} {y : Tri} (h : O3p n H o0 o1 o2 (t.map (·.c) ++ [y.c]) (t.map (·.p) ++ [y.p]) (t.map (·.s) ++ [y.s])) : O3 n H o0 o1 o2 (t ++ [y]) :=
  O3p.of (by rw [List.map_append, List.map_append, List.map_append]; exact h)
end

structure RSt (H : Heap) (v0 v1 v2 v3 v4 : AV) (q : RQ) : Prop where
  c : OI 0 H v0 (q.t.map (·.c))
  p : OI 0 H v1 (q.t.map (·.p))
  s : OI 0 H v2 (q.t.map (·.s))
  la : OI 0 H v3 q.la
  re : OI 0 H v4 q.re

section
variable {H H' : Heap} {v0 v1 v2 v3 v4 : AV} {q : RQ}
theorem RSt.keep (h : RSt H v0 v1 v2 v3 v4 q) (k : Keep H.length H H') : RSt H' v0 v1 v2 v3 v4 q := ⟨h.c.keep k, h.p.keep k, h.s.keep k, h.la.keep k, h.re.keep k⟩
theorem RSt.nil : RSt H .empty .empty .empty .empty .empty ⟨[], [], []⟩ := ⟨Own.nil, Own.nil, Own.nil, Own.nil, Own.nil⟩
theorem RSt.len (h : RSt H v0 v1 v2 v3 v4 q) : lenA v0 = some q.t.length := by have := h.c.len; rwa [List.length_map] at this
theorem RSt.gc (h : RSt H v0 v1 v2 v3 v4 q) {i : Nat} (hi : i < q.t.length) : getA H 1 none v0 (i : Int) 0 = some (i64 q.t[i].c) := by
  have := h.c.ints.int (i := i) (by simpa using hi)
  simpa using this
theorem RSt.gp (h : RSt H v0 v1 v2 v3 v4 q) {i : Nat} (hi : i < q.t.length) : getA H 1 none v1 (i : Int) 0 = some (i64 q.t[i].p) := by
  have := h.p.ints.int (i := i) (by simpa using hi)
  simpa using this
theorem RSt.gs (h : RSt H v0 v1 v2 v3 v4 q) {i : Nat} (hi : i < q.t.length) : getA H 1 none v2 (i : Int) 0 = some (i64 q.t[i].s) := by
  have := h.s.ints.int (i := i) (by simpa using hi)
  simpa using this
end

abbrev RIndexC (F : Nat → Option RFunc) (f : Nat) : Prop := ∀ {fl H Q v0 v1 v2 v3 v4 q c}, RSt H v0 v1 v2 v3 v4 q → (∀ H', Keep H.length H H' → Q (i64 (findT c q.t)) H') → Ret F fl f [.agg [v0, v1, v2, v3, v4], i64 c] H Q
theorem rIndex_c {f : Nat} (hF : F f = some rf_FQueue_Index) : RIndexC F f := fun {fl H Q v0 v1 v2 v3 v4 q c} hst hq => by
  refine v_FQueue_Index hF _ _ _ _ _ _ ?_
  intro H6 d6
  have s6 := hst.keep d6.keep
  have hsm : q.t.length ≤ 9223372036854775807 := by have := s6.c.small; rwa [List.length_map] at this
  refine ⟨fun m v => ∃ i : Nat, v = i ∧ i + m = q.t.length ∧ ∀ x ∈ q.t.take i, (x.c == c) = false, q.t.length, ⟨0, rfl, by omega, by simp⟩, ?_⟩
  rintro m _ ⟨i, rfl, hm, hi⟩
  refine ⟨_, s6.len, fun hlt => ?_, fun hge => ?_⟩
  · have hil : i < q.t.length := by omega
    refine ⟨_, s6.gc hil, fun he => ?_, fun hne => ⟨m - 1, by omega, i + 1, wsucc hil hsm, by omega, take_step (p := fun x : Tri => x.c == c) hil (by simpa using hne) hi⟩⟩
    have := hq H6 d6.keep
    unfold findT at this
    rw [fidx_hit hil (by simpa using he) hi] at this; exact this
  · have := hq H6 d6.keep
    unfold findT at this
    rw [List.take_of_length_le (by omega)] at hi
    rw [fidx_none hi] at this; exact this

theorem O3.less {n m : Nat} {H : Heap} {o0 o1 o2 : AV} {t : List Tri} (h : O3 n H o0 o1 o2 t) (hm : m ≤ n) : O3 m H o0 o1 o2 t := ⟨h.h0.less hm, h.h1.less hm, h.h2.less hm, h.d01, h.d02, h.d12⟩

theorem three_vals {n fl : Nat} {H25 : Heap} {o0 o1 o2 : AV} {pre : List Tri} {y : Tri} {P : AV → AV → AV → Heap → Prop} (ho : O3 n H25 o0 o1 o2 pre) (hn : n ≤ H25.length) (hfl : fl ≤ n) (hpl : pre.length ≤ 2 ^ 20)
    (hP : ∀ a b c H', Keep n H25 H' → O3 n H' a b c (pre ++ [y]) → P a b c H') :
    ∀ (b31 : Nat) (H32 : Heap), NewB H25 1 [i64 y.c] b31 H32 → ∃ (a33 : AV) (H34 : Heap), appA fl true 1 8 H32 o0 (.slice b31 0 1 (some 1)) = some (a33, H34) ∧ Scal a33 ∧ ∀ (b38 : Nat) (H39 : Heap), NewB H34 1 [i64 y.p] b38 H39 → ∃ (a40 : AV) (H41 : Heap), appA fl true 1 8 H39 o1 (.slice b38 0 1 (some 1)) = some (a40, H41) ∧ Scal a40 ∧
      ∀ (b43 : Nat) (H44 : Heap), NewB H41 1 [i64 y.s] b43 H44 → ∃ (a45 : AV) (H46 : Heap), appA fl true 1 8 H44 o2 (.slice b43 0 1 (some 1)) = some (a45, H46) ∧ Scal a45 ∧ P a33 a40 a45 H46 := by
  intro b31 H32 h32
  obtain ⟨a33, H34, a1, a2, a3⟩ := ho.p.push0 hn h32 hfl (by simpa using hpl)
  refine ⟨a33, H34, a1, a2.h0.scal, fun b38 H39 h39 => ?_⟩
  obtain ⟨a40, H41, b1, b2, b3⟩ := a2.push1 (Nat.le_trans hn a3.len) h39 hfl (by simpa using hpl)
  refine ⟨a40, H41, b1, b2.h1.scal, fun b43 H44 h44 => ?_⟩
  obtain ⟨a45, H46, c1, c2, c3⟩ := b2.push2 (Nat.le_trans hn (Nat.le_trans a3.len b3.len)) h44 hfl (by simpa using hpl)
  exact ⟨a45, H46, c1, c2.h2.scal, hP _ _ _ _ ((a3.tr b3).tr c3) c2.done⟩

theorem three_read {fl : Nat} {H0 H25 : Heap} {v0 v1 v2 v3 v4 o0 o1 o2 : AV} {q : RQ} {pre : List Tri} {j : Nat} {s' : Int} {P : AV → AV → AV → Heap → Prop} (hst : RSt H0 v0 v1 v2 v3 v4 q) (hk : Keep H0.length H0 H25) (ho : O3 H0.length H25 o0 o1 o2 pre) (hfl : fl ≤ H0.length) (hpl : pre.length ≤ 2 ^ 20) (hj : j < q.t.length)
    (hP : ∀ a b c H', Keep H0.length H0 H' → O3 H0.length H' a b c (pre ++ [⟨q.t[j].c, q.t[j].p, s'⟩]) → P a b c H') :
    ∃ (e29 : Int), getA H25 1 none v0 (j : Int) 0 = some (.int .i64 e29) ∧ ∀ (b31 : Nat) (H32 : Heap), NewB H25 1 [i64 e29] b31 H32 → ∃ (a33 : AV) (H34 : Heap), appA fl true 1 8 H32 o0 (.slice b31 0 1 (some 1)) = some (a33, H34) ∧ Scal a33 ∧ ∃ (e36 : Int), getA H34 1 none v1 (j : Int) 0 = some (.int .i64 e36) ∧ ∀ (b38 : Nat) (H39 : Heap), NewB H34 1 [i64 e36] b38 H39 → ∃ (a40 : AV) (H41 : Heap), appA fl true 1 8 H39 o1 (.slice b38 0 1 (some 1)) = some (a40, H41) ∧ Scal a40 ∧
      ∀ (b43 : Nat) (H44 : Heap), NewB H41 1 [i64 s'] b43 H44 → ∃ (a45 : AV) (H46 : Heap), appA fl true 1 8 H44 o2 (.slice b43 0 1 (some 1)) = some (a45, H46) ∧ Scal a45 ∧ P a33 a40 a45 H46 := by
  have hn := hk.len
  refine ⟨_, (hst.keep hk).gc hj, fun b31 H32 h32 => ?_⟩
  obtain ⟨a33, H34, a1, a2, a3⟩ := ho.p.push0 hn h32 hfl (by simpa using hpl)
  refine ⟨a33, H34, a1, a2.h0.scal, _, (hst.keep (hk.tr a3)).gp hj, fun b38 H39 h39 => ?_⟩
  obtain ⟨a40, H41, b1, b2, b3⟩ := a2.push1 (Nat.le_trans hn a3.len) h39 hfl (by simpa using hpl)
  refine ⟨a40, H41, b1, b2.h1.scal, fun b43 H44 h44 => ?_⟩
  obtain ⟨a45, H46, c1, c2, c3⟩ := b2.push2 (Nat.le_trans hn (Nat.le_trans a3.len b3.len)) h44 hfl (by simpa using hpl)
  exact ⟨a45, H46, c1, c2.h2.scal, hP _ _ _ _ (((hk.tr a3).tr b3).tr c3) (O3p.done (y := ⟨q.t[j].c, q.t[j].p, s'⟩) c2)⟩

/-! ### cut -/

theorem cutT_len (i : Int) (d : Bool) : ∀ (k : Nat) (l : List Tri), (cutT i d k l).length ≤ l.length
  | _, [] => Nat.le_refl _
  | k, t :: r => by
    have := cutT_len i d (k + 1) r
    unfold cutT
    split
    · simp; omega
    · simp; omega

abbrev RCutC (F : Nat → Option RFunc) (f : Nat) : Prop := ∀ {fl H Q v0 v1 v2 v3 v4 q i d}, RSt H v0 v1 v2 v3 v4 q → fl ≤ H.length → q.t.length ≤ 2 ^ 20 →
  (∀ r0 r1 r2 H', Keep H.length H H' → O3 H.length H' r0 r1 r2 (cutT i d 0 q.t) → Q (.agg [r0, r1, r2, v3, v4]) H') → Ret F fl f [.agg [v0, v1, v2, v3, v4], i64 i, .bool d] H Q
theorem rCut_c {f : Nat} (hF : F f = some rf_FQueue_cut) : RCutC F f := fun {fl H Q v0 v1 v2 v3 v4 q i d} hst hfl hl hq => by
  refine v_FQueue_cut hF _ _ _ _ _ _ _ ?_
  intro H7 d7 H8 d8
  refine ⟨hst.la.scal, hst.re.scal, ?_⟩
  intro H11 d11
  have k11 := (d7.keep.call d8.keep).call d11.keep
  have s11 := hst.keep k11
  have hsm : q.t.length ≤ 9223372036854775807 := by omega
  have hn11 : H.length ≤ H11.length := k11.len
  refine ⟨fun m k o0 o1 o2 o3 o4 H' => ∃ (j : Nat) (pre : List Tri), k = j ∧ j + m = q.t.length ∧ Keep H11.length H11 H' ∧ O3 H11.length H' o0 o1 o2 pre ∧ v3 = o3 ∧ v4 = o4 ∧ pre.length ≤ j ∧ pre ++ cutT i d j (q.t.drop j) = cutT i d 0 q.t,
    q.t.length, ⟨0, [], rfl, by omega, Keep.refl H11, O3.nil, rfl, rfl, Nat.le_refl _, by rw [List.drop_zero]; rfl⟩, ?_⟩
  rintro m _ o0 o1 o2 _ _ H25 ⟨j, pre, rfl, hm, hk, ho, rfl, rfl, hpl, hpre⟩
  have s25 := s11.keep hk
  refine ⟨_, s25.len, fun hlt => ?_, fun hge => ?_⟩
  · have hj : j < q.t.length := by omega
    rw [List.drop_eq_getElem_cons hj, cutT] at hpre
    have go : ∀ (s' : Int), (mk0 (decide ((j : Int) > i) && d) q.t[j]) = ⟨q.t[j].c, q.t[j].p, s'⟩ → (j : Int) ≠ i → _ := fun s' hs' hne => three_read (s' := s') (P := fun a b c H' => ∃ m48 : Nat, m48 < m ∧ ∃ (j' : Nat) (pre : List Tri), IntKind.wrap .i64 ((j : Int) + 1) = j' ∧ j' + m48 = q.t.length ∧ Keep H11.length H11 H' ∧ O3 H11.length H' a b c pre ∧ v3 = v3 ∧ v4 = v4 ∧ pre.length ≤ j' ∧ pre ++ cutT i d j' (q.t.drop j') = cutT i d 0 q.t) s11 hk ho (by omega : fl ≤ H11.length) (by omega) hj
      fun a b c H' hk' ho' => ⟨m - 1, by omega, j + 1, _, wsucc hj hsm, by omega, hk', ho', rfl, rfl, by simp; omega, by
        rw [if_neg hne, hs'] at hpre
        rw [List.append_assoc]; exact hpre⟩
    have skip : ¬ (j : Int) ≠ i → ∃ m49 : Nat, m49 < m ∧ ∃ (j' : Nat) (pre : List Tri), IntKind.wrap .i64 ((j : Int) + 1) = j' ∧ j' + m49 = q.t.length ∧ Keep H11.length H11 H25 ∧ O3 H11.length H25 o0 o1 o2 pre ∧ v3 = v3 ∧ v4 = v4 ∧ pre.length ≤ j' ∧ pre ++ cutT i d j' (q.t.drop j') = cutT i d 0 q.t := fun he =>
      ⟨m - 1, by omega, j + 1, pre, wsucc hj hsm, by omega, hk, ho, rfl, rfl, by omega, by rw [if_pos (by omega)] at hpre; exact hpre⟩
    refine ⟨_, s25.gs hj, fun hc => ⟨fun hne => go 0 ?_ hne, skip⟩, fun hc => ⟨fun hne => go q.t[j].s ?_ hne, skip⟩⟩
    · unfold mk0; rw [decide_eq_true hc.1, hc.2]; rfl
    · have : (decide ((j : Int) > i) && d) = false := by
        rw [Bool.eq_false_iff]
        intro h
        simp only [Bool.and_eq_true, decide_eq_true_eq] at h
        exact hc h
      unfold mk0; rw [this]; rfl
  · have hj : j = q.t.length := by omega
    subst hj
    rw [List.drop_length] at hpre
    have hpre' : pre = cutT i d 0 q.t := by rw [← hpre]; simp [cutT]
    subst hpre'
    exact ⟨ho.h0.scal, ho.h1.scal, ho.h2.scal, hst.la.scal, hst.re.scal, hq _ _ _ _ (k11.call hk) (ho.less hn11)⟩

/-! ### insert -/

theorem insT_len (c p : Int) : ∀ (d : Bool) (l : List Tri), (insT c p d l).length ≤ l.length + 1
  | d, [] => by unfold insT; split <;> simp
  | d, t :: r => by
    unfold insT
    split
    · have h1 : ∀ l, (insT c p true l).length = l.length := fun l => by
        induction l with
        | nil => rfl
        | cons a l ih => unfold insT; simp [ih]
      simp [h1]
    · have := insT_len c p d r
      simp; omega

abbrev RInsertC (F : Nat → Option RFunc) (f : Nat) : Prop := ∀ {fl H Q v0 v1 v2 v3 v4 q c p}, RSt H v0 v1 v2 v3 v4 q → fl ≤ H.length → q.t.length ≤ 2 ^ 18 →
  (∀ r0 r1 r2 H', Keep H.length H H' → O3 H.length H' r0 r1 r2 (insT c p false q.t) → Q (.agg [r0, r1, r2, v3, v4]) H') → Ret F fl f [.agg [v0, v1, v2, v3, v4], i64 c, i64 p] H Q
theorem rInsert_c {f : Nat} (hF : F f = some rf_FQueue_insert) : RInsertC F f := fun {fl H Q v0 v1 v2 v3 v4 q c p} hst hfl hl hq => by
  refine v_FQueue_insert hF _ _ _ _ _ _ _ ?_
  intro H7 d7 H8 d8
  refine ⟨hst.la.scal, hst.re.scal, ?_⟩
  intro H11 d11
  have k11 := (d7.keep.call d8.keep).call d11.keep
  have s11 := hst.keep k11
  have hsm : q.t.length + 1 ≤ 9223372036854775807 := by omega
  have hn11 : H.length ≤ H11.length := k11.len
  refine ⟨fun m k placed o0 o1 o2 o3 o4 H' => ∃ (j : Nat) (pre : List Tri), k = j ∧ j + m = q.t.length + 1 ∧ Keep H11.length H11 H' ∧ O3 H11.length H' o0 o1 o2 pre ∧ v3 = o3 ∧ v4 = o4 ∧ pre.length ≤ 2 * j ∧ pre ++ (if j ≤ q.t.length then insT c p placed (q.t.drop j) else []) = insT c p false q.t,
    q.t.length + 1, ⟨0, [], rfl, by omega, Keep.refl H11, O3.nil, rfl, rfl, Nat.le_refl _, by rw [if_pos (Nat.zero_le _), List.drop_zero]; rfl⟩, ?_⟩
  rintro m _ placed o0 o1 o2 _ _ H27 ⟨j, pre, rfl, hm, hk, ho, rfl, rfl, hpl, hpre⟩
  have s27 := s11.keep hk
  refine ⟨_, s27.len, fun hle => ?_, fun hgt => ?_⟩
  · have hj : j ≤ q.t.length := by omega
    rw [if_pos hj] at hpre
    refine ⟨fun placed' o0 o1 o2 o3 o4 H' => ∃ pre : List Tri, Keep H11.length H11 H' ∧ O3 H11.length H' o0 o1 o2 pre ∧ v3 = o3 ∧ v4 = o4 ∧ pre.length ≤ 2 * j + 1 ∧ pre ++ (if h : j < q.t.length then mk0 placed' q.t[j] :: insT c p placed' (q.t.drop (j + 1)) else []) = insT c p false q.t, ⟨fun hnp => ⟨_, s27.len, fun he => ?_, fun hne => ?_⟩, fun hp => ?_⟩, ?_⟩
    · -- at the end
      have hj' : j = q.t.length := by omega
      refine three_vals (y := ⟨c, p, 0⟩) ho hk.len (by omega) (by omega) fun a b c' H' hk' ho' => ⟨pre ++ [⟨c, p, 0⟩], hk.tr hk', ho', rfl, rfl, by simp; omega, ?_⟩
      rw [dif_neg (by omega), List.append_nil, ← hpre, hj', List.drop_length]
      simp only [Bool.not_eq_true] at hnp
      subst hnp
      rfl
    · have hjl : j < q.t.length := by omega
      simp only [Bool.not_eq_true] at hnp
      subst hnp
      rw [List.drop_eq_getElem_cons hjl, insT] at hpre
      refine ⟨_, s27.gp hjl, fun hlt => ?_, fun hge => ⟨pre, hk, ho, rfl, rfl, by omega, ?_⟩⟩
      · refine three_vals (y := ⟨c, p, 0⟩) ho hk.len (by omega) (by omega) fun a b c' H' hk' ho' => ⟨pre ++ [⟨c, p, 0⟩], hk.tr hk', ho', rfl, rfl, by simp; omega, ?_⟩
        rw [dif_pos hjl, ← hpre, decide_eq_true hlt, List.append_assoc]; rfl
      · rw [dif_pos hjl, ← hpre, decide_eq_false hge]; rfl
    · refine ⟨pre, hk, ho, rfl, rfl, by omega, ?_⟩
      have hp' : placed = true := by simpa using hp
      subst hp'
      rw [← hpre]
      by_cases hjl : j < q.t.length
      · rw [dif_pos hjl, List.drop_eq_getElem_cons hjl, insT]; rfl
      · rw [dif_neg hjl, List.drop_eq_nil_of_le (by omega)]; rfl
    · rintro placed' o0 o1 o2 _ _ H37 ⟨pre', hk37, ho37, rfl, rfl, hpl', hpre'⟩
      have s37 := s11.keep hk37
      refine ⟨_, s37.len, fun hlt => ?_, fun hge => ?_⟩
      · have hjl : j < q.t.length := by omega
        rw [dif_pos hjl] at hpre'
        have go : ∀ (s' : Int), mk0 placed' q.t[j] = ⟨q.t[j].c, q.t[j].p, s'⟩ → _ := fun s' hs' => three_read (s' := s') (P := fun a b c' H' => ∃ m48 : Nat, m48 < m ∧ ∃ (j' : Nat) (pre : List Tri), IntKind.wrap .i64 ((j : Int) + 1) = j' ∧ j' + m48 = q.t.length + 1 ∧ Keep H11.length H11 H' ∧ O3 H11.length H' a b c' pre ∧ v3 = v3 ∧ v4 = v4 ∧ pre.length ≤ 2 * j' ∧ pre ++ (if j' ≤ q.t.length then insT c p placed' (q.t.drop j') else []) = insT c p false q.t) s11 hk37 ho37 (by omega : fl ≤ H11.length) (by omega) hjl
          fun a b c' H' hk' ho' => ⟨m - 1, by omega, j + 1, _, wsucc hjl (by omega), by omega, hk', ho', rfl, rfl, by simp; omega, by
            rw [hs'] at hpre'
            rw [if_pos (by omega), List.append_assoc]; exact hpre'⟩
        refine ⟨_, s37.gs hjl, fun hp => go 0 ?_, fun hp => go q.t[j].s ?_⟩
        · unfold mk0; rw [hp]; rfl
        · simp only [Bool.not_eq_true] at hp
          unfold mk0; rw [hp]; rfl
      · have hj' : j = q.t.length := by omega
        rw [dif_neg (by omega)] at hpre'
        refine ⟨m - 1, by omega, j + 1, pre', by rw [wrap64 (by omega) (by omega)]; omega, by omega, hk37, ho37, rfl, rfl, by omega, ?_⟩
        rw [if_neg (by omega)]; exact hpre'
  · rw [if_neg (by omega), List.append_nil] at hpre
    subst hpre
    exact ⟨ho.h0.scal, ho.h1.scal, ho.h2.scal, hst.la.scal, hst.re.scal, hq _ _ _ _ (k11.call hk) (ho.less hn11)⟩

end Go.RM

