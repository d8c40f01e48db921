import Derived.Test.YtlcoalimkpjjpaaRolC2
import Derived.Test.YtlcoalimkpjjpaaRolW2
import Derived.Test.YtlcoalimkpjjpaaRefW
/-
  The reference's rollouts: lists of versions.
-/
namespace Go.RM
set_option linter.unusedSimpArgs false
set_option linter.unusedVariables false
set_option maxRecDepth 4000

/-- append(x, a) of one new element. -/
theorem Own.pushN {n e m : Nat} {H H1 : Heap} {cs ys : List AV} {x : AV} {fl bytes b : Nat} (he : 0 < e) (h : Own n H e x m cs) (hb : NewB H e ys b H1) (hy : ys.length = e) (hn : n ≤ H.length) (hfl : fl ≤ n) (hs : ys.all AV.scalar = true) (hlen : m + 1 ≤ 2 ^ 30) (hby : bytes ≤ 4096 := by decide) :
    ∃ v H', appA fl true e bytes H1 x (.slice b 0 1 (some 1)) = some (v, H') ∧ Own n H' e v (m + 1) (cs ++ ys) ∧ Keep n H H' ∧ (∀ c, c < H.length → ¬ At x c → H'[c]? = H[c]?) ∧ (∀ c, At v c → At x c ∨ H.length ≤ c) := by
  have hl := hb.keep.len
  obtain ⟨v, H', a1, a2, a3, a4, a5⟩ := (h.keep hb.keep).push he (hb.sl (n := 1) (by rw [hy, Nat.one_mul])) (by omega) hfl hs hlen hby
  have hf : ∀ c, c < H.length → ¬ At x c → H'[c]? = H[c]? := fun c hc hne => by rw [a4 c (by omega) hne, hb.keep.get c hc]
  exact ⟨v, H', a1, a2, ⟨hn, by omega, fun c hc => hf c (by omega) fun ha => by have := (h.at_lt ha).1; omega⟩, hf, fun c hc => (a5 c hc).imp id fun h => by omega⟩

theorem splice_mid {l ws : List AV} {off o n : Nat} (h : o + ws.length ≤ n) (hn : off + n ≤ l.length) : ((splice l (off + o) ws).drop off).take n = splice ((l.drop off).take n) o ws := by
  apply List.ext_getElem?
  intro j
  rw [splice_get (by rw [List.length_take, List.length_drop]; omega), List.getElem?_take, List.getElem?_drop, splice_get (by omega), List.getElem?_take, List.getElem?_drop]
  by_cases h1 : o ≤ j ∧ j < o + ws.length
  · rw [if_pos (by omega), if_pos (by omega), if_pos h1]; congr 1; omega
  · rw [if_neg h1]
    by_cases h2 : j < n
    · rw [if_pos h2, if_pos h2, if_neg (by omega)]
    · rw [if_neg h2, if_neg h2]

/-- An element is written. -/
theorem Own.put {n e m : Nat} {H : Heap} {cs : List AV} {v : AV} {fl i : Nat} {w : AV} (h : Own n H e v m cs) (hi : i < m) (hw : w.cells.length = e) (hs : w.cells.all AV.scalar = true) (hfl : fl ≤ n) :
    ∃ b o H', ptrA e v (i : Int) = some (b, o) ∧ putA fl H b o e w = some H' ∧ At v b ∧ Own n H' e v m (splice cs (i * e) w.cells) ∧ KeepX b H H' := by
  rcases h.out with ⟨_, h0, _⟩ | ⟨b, off, lim, k, rfl, h2, h3, h4, h5, h6, h7, ⟨q, h9⟩, h8⟩
  · omega
  have hm : i * e + e ≤ m * e := by
    have : (i + 1) * e ≤ m * e := Nat.mul_le_mul_right e hi
    rw [Nat.succ_mul] at this; omega
  have hfit : off + i * e + w.cells.length ≤ k.cells.length := by omega
  have hsl := splice_len hfit
  refine ⟨b, off + i * e, H.set b { k with cells := splice k.cells (off + i * e) w.cells, clean := false }, ?_, ?_, at_slice, ⟨h.small, .inr ⟨b, off, lim, { k with cells := splice k.cells (off + i * e) w.cells, clean := false }, rfl, h2, ?_, h4, h5, ?_, ?_, ⟨q, ?_⟩, ?_⟩⟩, ⟨by simp, fun b' hne => by rw [List.getElem?_set_ne (Ne.symm hne)]⟩⟩
  · show (if (0 : Int) ≤ i ∧ (i : Int) < m then some (b, off + (i : Int).toNat * e) else none) = _
    rw [if_pos (by omega), Int.toNat_natCast]
  · unfold putA
    rw [if_pos hw, rput_ok h3 h4 (Nat.le_trans hfl h2) hfit hs]
  · rw [List.getElem?_set_self (get_lt h3)]
  · simp only; rw [hsl]; exact h6
  · simp only
    rw [h7]
    exact (splice_mid (by omega) h6).symm
  · simp only; rw [hsl, h9]
  · intro c hc
    simp only; rw [hsl]; exact h8 c hc

namespace Rol
structure Ent where
  v : Int
  r : Int
  c1 : Int
  c2 : Int
end Rol
open Rol

abbrev vsE (l : List Ent) : List Int := l.map (·.v)
abbrev reE (l : List Ent) : List Int := l.map (·.r)
def cntE (c : Int × Int) : List AV := [i64 c.1, i64 c.2]
def tCnt : Ty (Int × Int) := tEnc 2 cntE (by decide) (fun _ => rfl) (fun _ => rfl)
theorem tCnt.plain : tCnt.Plain := fun h => h
abbrev csE (l : List Ent) : List (Int × Int) := l.map fun e => (e.c1, e.c2)
theorem Arr.cnt {H : Heap} {v : AV} {l : List (Int × Int)} (h : Arr tCnt H v l) {i : Nat} (hi : i < l.length) : getA H 2 (some 2) v (i : Int) 0 = some (.agg [i64 l[i].1, i64 l[i].2]) ∧ getA H 2 none v (i : Int) 0 = some (i64 l[i].1) ∧ getA H 2 none v (i : Int) 1 = some (i64 l[i].2) := ⟨Arr.enc h hi, Arr.cell h hi 0 rfl, Arr.cell h hi 1 rfl⟩

abbrev depV (rings : Int) (p : PP) (a b c : AV) : AV := .agg [i64 rings, i64 p.b1, i64 p.b2, i64 p.need, i64 p.pm, a, b, c]

structure DepA (H : Heap) (a b c : AV) (l : List Ent) : Prop where
  vs : Ints H a (vsE l)
  re : Ints H b (reE l)
  cs : Arr tCnt H c (csE l)
theorem DepA.keep {H H' : Heap} {a b c : AV} {l : List Ent} (h : DepA H a b c l) (k : Keep H.length H H') : DepA H' a b c l := ⟨h.vs.keep k, h.re.keep k, h.cs.keep k⟩
theorem DepA.nil {H : Heap} : DepA H .empty .empty .empty [] := ⟨Arr.nil, Arr.nil, Arr.nil⟩

abbrev cells2 (l : List (Int × Int)) : List AV := (l.map cntE).flatten
structure DepO (n : Nat) (H : Heap) (a b c : AV) (l : List Ent) : Prop where
  vs : Own n H 1 a l.length (ints (vsE l))
  re : Own n H 1 b l.length (ints (reE l))
  cs : Own n H 2 c l.length (cells2 (csE l))
  d1 : ∀ x, At a x → ¬ At b x
  d2 : ∀ x, At a x → ¬ At c x
  d3 : ∀ x, At b x → ¬ At c x
theorem DepO.nil {n : Nat} {H : Heap} : DepO n H .empty .empty .empty [] := ⟨Own.nil, Own.nil, Own.nil, fun _ h => absurd h at_empty, fun _ h => absurd h at_empty, fun _ h => absurd h at_empty⟩
theorem DepO.keep {n : Nat} {H H' : Heap} {a b c : AV} {l : List Ent} (h : DepO n H a b c l) (k : Keep H.length H H') : DepO n H' a b c l := ⟨h.vs.keep k, h.re.keep k, h.cs.keep k, h.d1, h.d2, h.d3⟩
theorem cells2_all2 {H : Heap} (l : List (Int × Int)) : All2 (tCnt.rel H) (l.map cntE) l := by
  induction l with
  | nil => trivial
  | cons x l ih => exact ⟨rfl, ih⟩
theorem DepO.dep {n : Nat} {H : Heap} {a b c : AV} {l : List Ent} (h : DepO n H a b c l) : DepA H a b c l := by
  refine ⟨Own.ints (n := n) (by simpa using h.vs), Own.ints (n := n) (by simpa using h.re), _, cells2_all2 _, ?_⟩
  show Sl H 2 c (csE l).length (cells2 (csE l))
  rw [List.length_map]; exact h.cs.sl
theorem DepO.scal {n : Nat} {H : Heap} {a b c : AV} {l : List Ent} (h : DepO n H a b c l) : Scal a ∧ Scal b ∧ Scal c := ⟨h.vs.scal, h.re.scal, h.cs.scal⟩

variable {F : Nat → Option RFunc}

/-- One more version. -/
theorem DepO.push {n : Nat} {H : Heap} {a b c : AV} {l : List Ent} {fl : Nat} (h : DepO n H a b c l) (hn : n ≤ H.length) (hfl : fl ≤ n) (hl : l.length + 1 ≤ 2 ^ 30) (x : Ent) {Q : AV → AV → AV → Heap → Prop} {R1 R2 : AV → Heap → Prop}
    (r1 : ∀ a' H', Keep n H H' → Scal a' → R1 a' H')
    (hq : ∀ a' b' c' H', Keep n H H' → DepO n H' a' b' c' (l ++ [x]) → Q a' b' c' H') :
    ∀ (b30 : Nat) (H31 : Heap), NewB H 1 [i64 x.v] b30 H31 → ∃ (a32 : AV) (H33 : Heap), appA fl true 1 8 H31 a (.slice b30 0 1 (some 1)) = some (a32, H33) ∧ Scal a32 ∧ Keep n H H33 ∧ ∀ (b37 : Nat) (H38 : Heap), NewB H33 1 [i64 x.r] b37 H38 → ∃ (a39 : AV) (H40 : Heap), appA fl true 1 8 H38 b (.slice b37 0 1 (some 1)) = some (a39, H40) ∧ Scal a39 ∧ Keep n H H40 ∧ ∀ (b45 : Nat) (H46 : Heap), NewB H40 2 [i64 x.c1, i64 x.c2] b45 H46 → ∃ (a47 : AV) (H48 : Heap), appA fl true 2 16 H46 c (.slice b45 0 1 (some 1)) = some (a47, H48) ∧ Scal a47 ∧ Q a32 a39 a47 H48 := by
  intro b30 H31 hb30
  obtain ⟨a', H33, a1, a2, a3, a4, a5⟩ := h.vs.pushN (fl := fl) (bytes := 8) (by decide) hb30 rfl hn hfl rfl hl
  refine ⟨a', H33, a1, a2.scal, a3, fun b37 H38 hb37 => ?_⟩
  have ob := h.re.frame (H' := H33) fun y hy => a4 y (h.re.at_lt hy).2 fun ha => h.d1 y ha hy
  have oc := h.cs.frame (H' := H33) fun y hy => a4 y (h.cs.at_lt hy).2 fun ha => h.d2 y ha hy
  have n33 := Nat.le_trans a3.low a3.len
  obtain ⟨b', H40, b1, b2, b3, b4, b5⟩ := ob.pushN (fl := fl) (bytes := 8) (by decide) hb37 rfl n33 hfl rfl hl
  refine ⟨b', H40, b1, b2.scal, a3.tr b3, fun b45 H46 hb45 => ?_⟩
  have hab : ∀ y, At a' y → ¬ At b y := fun y hy hyb => by
    rcases a5 y hy with h1 | h1
    · exact h.d1 y h1 hyb
    · have := (h.re.at_lt hyb).2; omega
  have hac : ∀ y, At a' y → ¬ At c y := fun y hy hyc => by
    rcases a5 y hy with h1 | h1
    · exact h.d2 y h1 hyc
    · have := (h.cs.at_lt hyc).2; omega
  have oa2 := a2.frame (H' := H40) fun y hy => b4 y (a2.at_lt hy).2 fun hb => hab y hy hb
  have oc2 := oc.frame (H' := H40) fun y hy => b4 y (oc.at_lt hy).2 fun hb => h.d3 y hb hy
  have n40 := Nat.le_trans b3.low b3.len
  obtain ⟨c', H48, c1, c2, c3, c4, c5⟩ := oc2.pushN (fl := fl) (bytes := 16) (by decide) hb45 rfl (by omega) hfl rfl hl
  have hbc : ∀ y, At b' y → ¬ At c y := fun y hy hyc => by
    rcases b5 y hy with h1 | h1
    · exact h.d3 y h1 hyc
    · have := (oc.at_lt hyc).2; omega
  refine ⟨c', H48, c1, c2.scal, hq a' b' c' H48 ((a3.tr b3).tr c3) ⟨?_, ?_, ?_, ?_, ?_, ?_⟩⟩
  · have := oa2.frame (H' := H48) fun y hy => c4 y (oa2.at_lt hy).2 fun hc => hac y hy hc
    simpa [ints, vsE] using this
  · have := b2.frame (H' := H48) fun y hy => c4 y (b2.at_lt hy).2 fun hc => hbc y hy hc
    simpa [ints, reE] using this
  · simpa [cells2, csE, cntE] using c2
  · intro y hy hyb
    rcases b5 y hyb with h1 | h1
    · exact hab y hy h1
    · have := (a2.at_lt hy).2; omega
  · intro y hy hyc
    rcases c5 y hyc with h1 | h1
    · exact hac y hy h1
    · have := (oa2.at_lt hy).2; omega
  · intro y hy hyc
    rcases c5 y hyc with h1 | h1
    · exact hbc y hy h1
    · have := (b2.at_lt hy).2; omega

/-! ### Drop, Active -/

/-- The first j, without place k. -/
def upK {α : Type} (k : Int) (l : List α) (j : Nat) : List α := if 0 ≤ k ∧ k < j then (l.take j).eraseIdx k.toNat else l.take j
def dropK {α : Type} (k : Int) (l : List α) : List α := if 0 ≤ k then l.eraseIdx k.toNat else l
theorem upK_all {α : Type} (k : Int) (l : List α) : upK k l l.length = dropK k l := by
  unfold upK dropK
  rw [List.take_length]
  by_cases h : 0 ≤ k
  · rw [if_pos h]
    by_cases h2 : k < l.length
    · rw [if_pos ⟨h, h2⟩]
    · rw [if_neg (by omega), List.eraseIdx_of_length_le (by omega)]
  · rw [if_neg (by omega), if_neg h]
theorem upK_ne {α : Type} {k : Int} {l : List α} {j : Nat} (h : j < l.length) (hk : (j : Int) ≠ k) : upK k l (j + 1) = upK k l j ++ [l[j]] := by
  unfold upK
  rw [List.take_succ_eq_append_getElem h]
  by_cases h2 : 0 ≤ k ∧ k < j
  · rw [if_pos (by omega), if_pos h2, List.eraseIdx_append_of_lt_length (by rw [List.length_take]; omega)]
  · rw [if_neg (by omega), if_neg h2]
theorem upK_eq {α : Type} {k : Int} {l : List α} {j : Nat} (h : j < l.length) (hk : (j : Int) = k) : upK k l (j + 1) = upK k l j := by
  unfold upK
  rw [List.take_succ_eq_append_getElem h, if_pos (by omega), if_neg (by omega), List.eraseIdx_append_of_length_le (by rw [List.length_take]; omega)]
  have : k.toNat - (l.take j).length = 0 := by rw [List.length_take]; omega
  rw [this]; simp
theorem upK_len {α : Type} (k : Int) (l : List α) (j : Nat) : (upK k l j).length ≤ j := by
  unfold upK
  split
  · rw [List.length_eraseIdx]; split <;> rw [List.length_take] <;> omega
  · rw [List.length_take]; omega

abbrev DropC (F : Nat → Option RFunc) (f : Nat) : Prop := ∀ {fl H Q rings a b c} {p : PP} {l : List Ent} {k : Int}, DepA H a b c l → fl ≤ H.length → l.length ≤ 2 ^ 29 → (∀ a' b' c' H', Keep H.length H H' → DepO H.length H' a' b' c' (dropK k l) → Q (depV rings p a' b' c') H') → Ret F fl f [depV rings p a b c, i64 k] H Q
theorem drop_c {f : Nat} (hF : F f = some rf_FDeployment_Drop) : DropC F f := fun {fl H Q rings a b c p l k} hd hfl hl hq => by
  refine v_FDeployment_Drop hF _ _ _ _ _ _ _ _ _ ?_
  intro H9 d9 H10 d10 H11 d11
  have k11 := (d9.keep.call d10.keep).call d11.keep
  have hs := hd.vs.small
  have lv : (vsE l).length = l.length := by simp
  have lr : (reE l).length = l.length := by simp
  have lc : (csE l).length = l.length := by simp
  refine ⟨fun m i o1 o2 o3 o4 o5 a' b' c' H' => ∃ j : Nat, i = j ∧ j + m = l.length ∧ rings = o1 ∧ o2 = p.b1 ∧ o3 = p.b2 ∧ o4 = p.need ∧ o5 = p.pm ∧ Keep H.length H H' ∧ DepO H.length H' a' b' c' (upK k l j), l.length, ⟨0, rfl, by omega, rfl, rfl, rfl, rfl, rfl, k11, by
    have : upK k l 0 = [] := List.eq_nil_of_length_eq_zero (by have := upK_len k l 0; omega)
    rw [this]; exact DepO.nil⟩, ?_⟩
  rintro m _ _ _ _ _ _ a' b' c' H' ⟨j, rfl, hm, rfl, rfl, rfl, rfl, rfl, hk, ho⟩
  refine ⟨_, (hd.vs).len, fun hlt => ?_, fun hge => ?_⟩
  · have hil : j < l.length := by omega
    refine ⟨fun hne => ?_, fun heq => ?_⟩
    · have hul := upK_len k l j
      refine ⟨_, (hd.vs.keep hk).int (i := j) (by omega), ?_⟩
      have hkl : H.length ≤ H'.length := hk.len
      have key := ho.push (fl := fl) hkl hfl (by omega) l[j] (R1 := fun _ _ => True) (R2 := fun _ _ => True) (Q := fun a1 a2 a3 H48 => ∃ m50 : Nat, m50 < m ∧ ∃ j' : Nat, IntKind.wrap .i64 ((j : Int) + 1) = j' ∧ j' + m50 = l.length ∧ rings = rings ∧ p.b1 = p.b1 ∧ p.b2 = p.b2 ∧ p.need = p.need ∧ p.pm = p.pm ∧ Keep H.length H H48 ∧ DepO H.length H48 a1 a2 a3 (upK k l j')) (fun _ _ _ _ => trivial) fun a1 a2 a3 H48 k48 h48 => ⟨m - 1, by omega, j + 1, wsucc hil (by omega), by omega, rfl, rfl, rfl, rfl, rfl, hk.tr k48, by rw [upK_ne hil hne]; exact h48⟩
      intro b30 H31 hb30
      obtain ⟨a32, H33, x1, x2, x3, x4⟩ := key b30 H31 (by simpa using hb30)
      refine ⟨a32, H33, x1, x2, _, (hd.re.keep (hk.tr x3)).int (i := j) (by omega), fun b37 H38 hb37 => ?_⟩
      obtain ⟨a39, H40, y1, y2, y3, y4⟩ := x4 b37 H38 (by simpa using hb37)
      refine ⟨a39, H40, y1, y2, _, _, ((hd.cs.keep (hk.tr y3)).cnt (i := j) (by omega)).1, fun b45 H46 hb45 => ?_⟩
      exact y4 b45 H46 (by simpa using hb45)
    · refine ⟨m - 1, by omega, j + 1, wsucc hil (by omega), by omega, rfl, rfl, rfl, rfl, rfl, hk, ?_⟩
      rw [upK_eq hil (Decidable.not_not.1 heq)]; exact ho
  · have : j = l.length := by omega
    subst this
    rw [upK_all] at ho
    obtain ⟨s1, s2, s3⟩ := ho.scal
    exact ⟨s1, s2, s3, hq a' b' c' H' hk ho⟩

def actD (l : List Ent) (r : Int) : Int := fidx (fun x => x == r) (reE l)
abbrev ActiveC (F : Nat → Option RFunc) (f : Nat) : Prop := ∀ {fl H Q rings a b c} {p : PP} {l : List Ent} {r : Int}, DepA H a b c l → (∀ H', Keep H.length H H' → Q (i64 (actD l r)) H') → Ret F fl f [depV rings p a b c, i64 r] H Q
theorem active_c {f : Nat} (hF : F f = some rf_FDeployment_Active) : ActiveC F f := fun {fl H Q rings a b c p l r} hd hq => by
  refine v_FDeployment_Active hF _ _ _ _ _ _ _ _ _ ?_
  intro H9 d9
  have hs := hd.vs.small
  have lv : (vsE l).length = l.length := by simp
  have lr : (reE l).length = l.length := by simp
  unfold actD at hq
  refine ⟨fun m i => ∃ j : Nat, i = j ∧ j + m = l.length ∧ ∀ x ∈ (reE l).take j, (x == r) = false, l.length, ⟨0, rfl, by omega, by simp⟩, ?_⟩
  rintro m _ ⟨j, rfl, hm, hj⟩
  refine ⟨_, hd.vs.len, fun hlt => ?_, fun hge => ?_⟩
  · have hil : j < l.length := by omega
    refine ⟨_, (hd.re.keep d9.keep).int (i := j) (by omega), fun he => ?_, fun hne => ⟨m - 1, by omega, j + 1, wsucc hil (by omega), by omega, take_step (by omega) (by simpa using hne) hj⟩⟩
    have := hq H9 d9.keep
    rw [fidx_hit (i := j) (by omega) (by simpa using he) hj] at this; exact this
  · rw [List.take_of_length_le (by omega)] at hj
    have := hq H9 d9.keep
    rw [fidx_none hj] at this; exact this

end Go.RM

/-
  The reference's rollouts: the rings of a list of versions.
-/
namespace Go.RM
set_option linter.unusedSimpArgs false
set_option linter.unusedVariables false
set_option maxRecDepth 4000

namespace Rol
/-- A version's part of ring k. -/
def put1 (k : Nat) (x : RS) (e : Ent) : RS := if (k : Int) < e.r then { x with conf := x.conf ++ [e.v] } else if (k : Int) = e.r then { x with act := e.v, good := e.c1, bad := e.c2 } else x
def rOf (es : List Ent) (k : Nat) : RS := es.foldl (put1 k) zeroR
def stateD (n : Nat) (es : List Ent) : List RS := (List.range n).map (rOf es)
end Rol
open Rol

theorem rOf_app (es : List Ent) (e : Ent) (k : Nat) : rOf (es ++ [e]) k = put1 k (rOf es k) e := by unfold rOf; rw [List.foldl_append]; rfl
theorem fold_len (k : Nat) : ∀ (es : List Ent) (x : RS), (es.foldl (put1 k) x).conf.length ≤ x.conf.length + es.length
  | [], x => Nat.le_refl _
  | e :: es, x => by
    rw [List.foldl_cons]
    have ih := fold_len k es (put1 k x e)
    have : (put1 k x e).conf.length ≤ x.conf.length + 1 := by
      unfold put1
      split
      · simp
      · split <;> simp
    rw [List.length_cons]; omega
theorem rOf_len (es : List Ent) (k : Nat) : (rOf es k).conf.length ≤ es.length := by
  have := fold_len k es zeroR
  unfold rOf
  have e : zeroR.conf.length = 0 := rfl
  omega

theorem range_set {α : Type} {n j : Nat} {f g : Nat → α} {r : α} (h : ∀ k, k < n → k ≠ j → f k = g k) (hr : g j = r) : ((List.range n).map f).set j r = (List.range n).map g := by
  apply List.ext_getElem?
  intro k
  rw [List.getElem?_set, List.getElem?_map, List.getElem?_map]
  by_cases hk : k < n
  · rw [List.getElem?_range hk]
    by_cases e : j = k
    · subst e; rw [if_pos rfl, if_pos (by simpa using hk)]; simp [hr]
    · rw [if_neg e]; simp [h k hk (Ne.symm e)]
  · rw [List.getElem?_eq_none (by simpa using Nat.le_of_not_lt hk)]
    by_cases e : j = k
    · subst e; rw [if_pos rfl, if_neg (by simpa using hk)]; rfl
    · rw [if_neg e]; rfl
theorem range_eq {α : Type} {n : Nat} {f g : Nat → α} (h : ∀ k, k < n → f k = g k) : (List.range n).map f = (List.range n).map g := by
  apply List.map_congr_left
  intro k hk; exact h k (List.mem_range.1 hk)

variable {F : Nat → Option RFunc}
variable {n : Nat} {H H' : Heap} {pb b : Nat} {l : List (AV × RS)}

theorem RingsH.keep (h : RingsH n H pb b l) (k : Keep H.length H H') : RingsH n H' pb b l where
  row := h.row.keep k
  lo := h.lo
  own := fun x hx => (h.own x hx).keep k
  sep := h.sep
  offb := h.offb
  ne := h.ne
  small := h.small
theorem RingsH.getConf (h : RingsH n H pb b l) {i m : Nat} (hm : m = l.length) (hi : i < l.length) : getA H 4 none (.slice b 0 m (some m)) (i : Int) 0 = some l[i].1 := by
  subst hm
  show (if (0 : Int) ≤ i ∧ (i : Int) < l.length then rload H none b (0 + (i : Int).toNat * 4 + 0) else none) = _
  rw [if_pos (by omega), Int.toNat_natCast, Nat.zero_add]
  exact h.row.load (i := i) (c := ringC l[i]) (by simp [hi]) rfl
theorem RingsH.arr (h : RingsH n H pb b l) {m : Nat} (hm : m = l.length) : Arr tRing H (.slice b 0 m (some m)) (rs l) := by
  subst hm
  have hsm := h.small
  obtain ⟨k, h1, h2, h3, h4⟩ := h.row.out
  have hfl := flat_len h.row.lens
  refine ⟨l.map ringC, All2.map fun x hx => ⟨x.1, rfl, (h.own x hx).ints⟩, ?_⟩
  rw [List.length_map] at hfl
  have e1 : (rs l).length = l.length := by simp
  rw [e1]
  refine ⟨by omega, .inr ⟨b, 0, some l.length, k, rfl, act_live h1 h2, h3, ?_, ?_, ?_⟩⟩
  · rw [h4, hfl]; show 0 + l.length * 4 ≤ _; omega
  · exact Nat.le_refl _
  · show _ = (k.cells.drop 0).take (l.length * 4)
    rw [h4, List.drop_zero, ← hfl, List.take_length]

abbrev StateC (F : Nat → Option RFunc) (f : Nat) : Prop := ∀ {fl H Q rings a b c} {p : PP} {l : List Ent}, DepA H a b c l → fl ≤ H.length → l.length ≤ 2 ^ 29 → 0 ≤ rings → rings ≤ 5 → (∀ e ∈ l, 0 ≤ e.r ∧ e.r ≤ rings) → (∀ w H', Keep H.length H H' → Arr tRing H' w (stateD rings.toNat l) → Q w H') → Ret F fl f [depV rings p a b c] H Q

theorem state_c {f : Nat} (hF : F f = some rf_FDeployment_State) : StateC F f := fun {fl H Q rings a b c p es} hd hfl hl r0 r5 hre hq => by
  refine v_FDeployment_State hF _ _ _ _ _ _ _ _ ?_
  intro H8 d8
  have k8 := d8.keep
  refine ⟨⟨by omega, Int.le_refl _, by omega, by omega⟩, fun b9 H10 hb9 => ?_⟩
  have k10 := k8.call hb9.keep
  have hpb : H.length < H8.length := by rw [d8.H_eq]; simp
  have b9e := hb9.b_eq
  have h10 := hb9.lt
  have lv : (vsE es).length = es.length := by simp
  have lr : (reE es).length = es.length := by simp
  have lc : (csE es).length = es.length := by simp
  have hsm := hd.vs.small
  rw [lv] at hsm
  -- the state of the rows
  have st0 : RingsH H.length H10 H.length b9 (List.replicate rings.toNat (.empty, zeroR)) := by
    have hmem : ∀ x ∈ List.replicate rings.toNat (AV.empty, zeroR), x = (AV.empty, zeroR) := fun x hx => List.eq_of_mem_replicate hx
    refine { row := ?_, lo := by omega, own := ?_, sep := ?_, offb := ?_, ne := by omega, small := by rw [List.length_replicate]; omega }
    · rw [List.map_replicate]
      exact hb9.mrow _ rfl fun c hc => by rw [List.eq_of_mem_replicate hc]; rfl
    · intro x hx; rw [hmem x hx]; exact Own.nil
    · intro i j hi hj _ c hc
      rw [List.getElem_replicate] at hc
      exact absurd hc at_empty
    · intro x hx; rw [hmem x hx]; exact ⟨at_empty, at_empty⟩
  have hlen : ∀ {l : List (AV × RS)} {g : Nat → RS}, rs l = (List.range rings.toNat).map g → l.length = rings.toNat := fun {l g} h => by have := congrArg List.length h; simpa using this
  have hget : ∀ {l : List (AV × RS)} {g : Nat → RS} {j : Nat} (hj : j < l.length), rs l = (List.range rings.toNat).map g → l[j].2 = g j := fun {l g j} hj h => by
    have h1 : (rs l)[j]? = ((List.range rings.toNat).map g)[j]? := by rw [h]
    have hl := hlen h
    rw [List.getElem?_map, List.getElem?_map, List.getElem?_range (by omega), List.getElem?_eq_getElem hj] at h1
    simpa using h1
  refine ⟨fun m i H' => ∃ (j : Nat) (l : List (AV × RS)), i = j ∧ j + m = es.length ∧ Keep H.length H H' ∧ H.length < H'.length ∧ RingsH H.length H' H.length b9 l ∧ rs l = (List.range rings.toNat).map (rOf (es.take j)), es.length, ⟨0, _, rfl, by omega, k10, by omega, st0, ?_⟩, ?_⟩
  · have : (List.range rings.toNat).map (rOf (es.take 0)) = (List.range rings.toNat).map fun _ => zeroR := range_eq fun k _ => rfl
    rw [this, rs, List.map_replicate, List.map_const']; simp
  rintro m _ H19 ⟨j, l, rfl, hm, hk, hlt19, hst, hrs⟩
  have hll := hlen hrs
  refine ⟨_, hd.vs.len, fun hlt => ?_, fun hge => ?_⟩
  · have hil : j < es.length := by omega
    obtain ⟨re0, re1⟩ := hre _ (List.getElem_mem hil)
    have hvj : (vsE es)[j]'(by omega) = es[j].v := by simp
    have hrj : (reE es)[j]'(by omega) = es[j].r := by simp
    have hcj : (csE es)[j]'(by omega) = (es[j].c1, es[j].c2) := by simp
    refine ⟨fun m' r H' => ∃ (q : Nat) (l : List (AV × RS)), r = q ∧ q + m' = es[j].r.toNat ∧ Keep H.length H H' ∧ H.length < H'.length ∧ RingsH H.length H' H.length b9 l ∧ rs l = (List.range rings.toNat).map (fun k => if k < q then { rOf (es.take j) k with conf := (rOf (es.take j) k).conf ++ [es[j].v] } else rOf (es.take j) k), es[j].r.toNat, ⟨0, l, rfl, by omega, hk, hlt19, hst, by rw [hrs]; exact range_eq fun k _ => by rw [if_neg (by omega)]⟩, ?_⟩
    rintro m' _ H26 ⟨q, l2, rfl, hm', hk2, hlt26, hst2, hrs2⟩
    have hll2 := hlen hrs2
    have hR := (hd.re.keep hk2).int (i := j) (by omega)
    have hV := (hd.vs.keep hk2).int (i := j) (by omega)
    rw [hrj] at hR
    rw [hvj] at hV
    refine ⟨_, hR, fun hlt2 => ?_, fun hge2 => ?_⟩
    · have hiq : q < l2.length := by omega
      have hqe := hget hiq hrs2
      simp only [Nat.lt_irrefl, if_false] at hqe
      refine ⟨_, hst2.getConf (i := q) (by omega) hiq, _, hV, fun b33 H34 hb33 => ?_⟩
      have ho := hst2.own _ (List.getElem_mem hiq)
      have hcl : l2[q].2.conf.length ≤ j := by
        rw [hqe]; have := rOf_len (es.take j) q; rw [List.length_take] at this; omega
      obtain ⟨w, H36, a1, a2, a3, a4, a5⟩ := ho.pushN (fl := fl) (bytes := 8) (by decide) hb33 rfl hst2.bn hfl rfl (by omega)
      have a2' : Own H.length H36 1 w (l2[q].2.conf ++ [es[j].v]).length (ints (l2[q].2.conf ++ [es[j].v])) := by
        rw [List.length_append]; unfold ints; rw [List.map_append]; exact a2
      obtain ⟨H39, c1, c2, c3, c4⟩ := hst2.setConf hlt26 (fl := fl) hfl hiq (cf := l2[q].2.conf ++ [es[j].v]) a3.len a4 a2' a5
      refine ⟨w, H36, a1, b9, q * 4, MRow.ptr (by omega), H39, c1, m' - 1, by omega, q + 1, _, ?_, by omega, hk2.tr c2, ?_, c3, ?_⟩
      · exact wsucc hiq (by omega)
      · have := c2.len; omega
      · rw [rs_set, hrs2]
        refine range_set (fun k hk hne => ?_) ?_
        · by_cases h1 : k < q
          · rw [if_pos h1, if_pos (by omega)]
          · rw [if_neg h1, if_neg (by omega)]
        · rw [if_pos (by omega), hqe]
    · have hqr : (q : Int) = es[j].r := by omega
      have hput : ∀ k, k < rings.toNat → k ≠ q → (if k < q then { rOf (es.take j) k with conf := (rOf (es.take j) k).conf ++ [es[j].v] } else rOf (es.take j) k) = rOf (es.take (j + 1)) k := fun k hk hne => by
        rw [List.take_succ_eq_append_getElem hil, rOf_app]
        unfold put1
        by_cases h1 : k < q
        · rw [if_pos h1, if_pos (by omega)]
        · rw [if_neg h1, if_neg (by omega), if_neg (by omega)]
      refine ⟨_, hR, fun hlt3 => ?_, fun hge3 => ?_⟩
      · have hiq : q < l2.length := by omega
        have hqe := hget hiq hrs2
        simp only [Nat.lt_irrefl, if_false] at hqe
        refine ⟨_, hR, _, hV, b9, q * 4, by rw [← hqr]; exact MRow.ptr (by omega), ?_⟩
        obtain ⟨H49, c1, c2, c3, c4⟩ := hst2.num (fl := fl) hfl hiq (o := 1) (k := 1) (v := i64 es[j].v) rfl rfl (by decide) (r := { l2[q].2 with act := es[j].v }) rfl rfl
        have hk3 := hk2.tr c2
        have hR3 := (hd.re.keep hk3).int (i := j) (by omega)
        have hC3 := ((hd.cs.keep hk3).cnt (i := j) (by omega)).1
        rw [hrj] at hR3
        rw [hcj] at hC3
        have hiq2 : q < (l2.set q (l2[q].1, { l2[q].2 with act := es[j].v })).length := by simpa using hiq
        have e2 : (l2.set q (l2[q].1, { l2[q].2 with act := es[j].v }))[q] = (l2[q].1, { l2[q].2 with act := es[j].v }) := by simp
        obtain ⟨H57, d1, d2, d3, d4⟩ := c3.num (fl := fl) hfl hiq2 (o := 2) (k := 2) (v := .agg [i64 es[j].c1, i64 es[j].c2]) rfl rfl (by decide) (r := { l2[q].2 with act := es[j].v, good := es[j].c1, bad := es[j].c2 }) (by rw [e2]; rfl) (by rw [e2])
        rw [e2, List.set_set] at d3
        refine ⟨H49, c1, _, hR3, _, _, hC3, b9, q * 4, by rw [← hqr]; exact MRow.ptr (by omega), H57, d1, m - 1, by omega, j + 1, _, wsucc hil hsm, by omega, hk3.tr d2, ?_, d3, ?_⟩
        · have := c2.len; have := d2.len; omega
        · rw [rs_set, hrs2]
          refine range_set hput ?_
          rw [List.take_succ_eq_append_getElem hil, rOf_app, hqe]
          unfold put1
          rw [if_neg (by omega), if_pos hqr]
      · refine ⟨m - 1, by omega, j + 1, l2, wsucc hil hsm, by omega, hk2, hlt26, hst2, ?_⟩
        rw [hrs2]
        exact range_eq fun k hk => hput k hk (by omega)
  · have hj : j = es.length := by omega
    subst hj
    rw [List.take_length] at hrs
    refine hq _ H19 hk ?_
    have := hst.arr (m := rings.toNat) hll.symm
    rw [hrs] at this
    exact this

/-! ### EqualRings -/

theorem RS.ext' {x y : RS} (h1 : x.conf = y.conf) (h2 : x.act = y.act) (h3 : x.good = y.good) (h4 : x.bad = y.bad) : x = y := by
  cases x; cases y; simp only at h1 h2 h3 h4; subst h1; subst h2; subst h3; subst h4; rfl

abbrev EqRingsC (F : Nat → Option RFunc) (f : Nat) : Prop := ∀ {fl H Q a b} {l m : List RS}, Arr tRing H a l → Arr tRing H b m → (l = m → Q (.bool true) H) → (l ≠ m → Q (.bool false) H) → Ret F fl f [a, b] H Q
theorem eqRings_c {f n1 : Nat} (hF : F f = some (rf_FEqualRings n1)) (h1 : FEqualIntsC F n1) : EqRingsC F f := fun {fl H Q a b l m} ha hb q1 q2 => by
  refine v_FEqualRings hF _ _ ?_
  refine ⟨_, ha.len, _, hb.len, fun hne => q2 fun e => hne (by rw [e]), fun heq => ?_⟩
  have hlm : l.length = m.length := by omega
  have hs := ha.small
  refine ⟨fun k i H' => ∃ j : Nat, i = j ∧ j + k = l.length ∧ H' = H ∧ l.take j = m.take j, l.length, ⟨0, rfl, by omega, rfl, by simp⟩, ?_⟩
  rintro k _ _ ⟨j, rfl, hk, rfl, hj⟩
  refine ⟨_, ha.len, fun hlt => ?_, fun hge => ?_⟩
  · have hil : j < l.length := by omega
    have him : j < m.length := by omega
    obtain ⟨w, x1, x2, x3, x4, x5, x6⟩ := ha.ring hil
    obtain ⟨w', y1, y2, y3, y4, y5, y6⟩ := hb.ring him
    have hno : l[j] ≠ m[j] → l ≠ m := fun h e => h (by subst e; rfl)
    refine ⟨_, x3, _, y3, h1 x1 y1 ⟨_, rfl, fun h => q2 (hno fun e => h (by rw [e]; simp)), fun h => ?_⟩⟩
    have h := of_decide_eq_true (Decidable.not_not.1 h)
    refine ⟨_, x4, _, y4, fun h => q2 (hno fun e => h (by rw [e])), fun h2 => ?_⟩
    have h2 := Decidable.not_not.1 h2
    refine ⟨_, _, ha.ringCnt hil, _, _, hb.ringCnt him, fun h => q2 (hno fun e => h (by rw [e]; exact ⟨rfl, rfl, trivial⟩)), fun h3 => ?_⟩
    obtain ⟨h3, h4, _⟩ := Decidable.not_not.1 h3
    refine ⟨k - 1, by omega, j + 1, wsucc hil hs, by omega, rfl, ?_⟩
    rw [List.take_succ_eq_append_getElem hil, List.take_succ_eq_append_getElem him, hj, RS.ext' h h2 h3 h4]
  · rw [List.take_of_length_le (by omega), List.take_of_length_le (by omega)] at hj
    exact q1 hj

end Go.RM

/-
  The reference's rollouts: a step.
-/
namespace Go.RM
set_option linter.unusedSimpArgs false
set_option linter.unusedVariables false
set_option maxRecDepth 4000

namespace Rol
def malB (e : Ev) : Prop := ((e.kind = 1 ∨ e.kind = 4) ∧ e.ring ≠ 0) ∨ (¬ (e.kind = 1 ∨ e.kind = 4) ∧ e.ver ≠ 0)
instance (e : Ev) : Decidable (malB e) := inferInstanceAs (Decidable (_ ∨ _))
def eg (l : List Ent) (i : Nat) : Ent := l.getD i ⟨0, 0, 0, 0⟩
def lastV (l : List Ent) : Int := lastI (l.map (·.v))
def stepD (p : PP) (rings : Int) (l : List Ent) (e : Ev) : Int × List Ent :=
  if e.kind < 1 ∨ e.kind > 4 then (4, l) else if malB e then (5, l) else if e.kind ≠ 2 ∧ (e.g ≠ 0 ∨ e.b ≠ 0) then (5, l) else if e.ring < 0 ∨ e.ring ≥ rings then (3, l) else
    if e.kind = 4 then (if l.any (fun x => x.v == e.ver) then (0, l.eraseIdx (l.findIdx fun x => x.v == e.ver)) else (6, l)) else
    if e.kind = 1 then
      (if e.ver < 1 ∨ e.ver > 1000000000 then (3, l) else if actD l e.ring ≥ 0 then (15, l) else if l ≠ [] ∧ e.ver ≤ lastV l then (16, l) else (0, l ++ [⟨e.ver, 0, 0, 0⟩])) else
    if e.kind = 2 ∧ ¬ okC e.g e.b then (3, l) else if actD l e.ring < 0 then (11, l) else
    if e.kind = 2 then
      (if ¬ okC ((eg l (actD l e.ring).toNat).c1 + e.g) ((eg l (actD l e.ring).toNat).c2 + e.b) then (10, l) else
        if verdictI p.b1 p.b2 ((eg l (actD l e.ring).toNat).c1 + e.g) ((eg l (actD l e.ring).toNat).c2 + e.b) p.need p.pm = 3 then (0, l.eraseIdx (actD l e.ring).toNat)
        else (0, l.set (actD l e.ring).toNat { eg l (actD l e.ring).toNat with c1 := (eg l (actD l e.ring).toNat).c1 + e.g, c2 := (eg l (actD l e.ring).toNat).c2 + e.b })) else
    if verdictI p.b1 p.b2 (eg l (actD l e.ring).toNat).c1 (eg l (actD l e.ring).toNat).c2 p.need p.pm ≠ 2 then (11, l) else if e.ring + 1 < rings ∧ actD l (e.ring + 1) ≥ 0 then (15, l) else
      (0, l.set (actD l e.ring).toNat { eg l (actD l e.ring).toNat with r := e.ring + 1, c1 := 0, c2 := 0 })
end Rol
open Rol

theorem eg_eq {l : List Ent} {i : Nat} (h : i < l.length) : eg l i = l[i] := by unfold eg; simp [List.getD, h]

theorem map_set_same {α β : Type} {f : α → β} {l : List α} {k : Nat} (hk : k < l.length) {y : α} (hy : f y = f l[k]) : (l.set k y).map f = l.map f := by
  apply List.ext_getElem?
  intro j
  rw [List.getElem?_map, List.getElem?_map, List.getElem?_set]
  split
  · rename_i e; subst e; simp [hk, hy]
  · rfl

theorem DepO.putC {n : Nat} {H : Heap} {a b c : AV} {l : List Ent} {fl k : Nat} (h : DepO n H a b c l) (hn : n ≤ H.length) (hfl : fl ≤ n) (hk : k < l.length) (x y : Int) :
    ∃ bb o H', ptrA 2 c (k : Int) = some (bb, o) ∧ putA fl H bb o 2 (.agg [i64 x, i64 y]) = some H' ∧ Keep n H H' ∧ DepO n H' a b c (l.set k { l[k] with c1 := x, c2 := y }) := by
  obtain ⟨bb, o, H', h1, h2, h3, h4, h5⟩ := h.cs.put (fl := fl) (w := .agg [i64 x, i64 y]) hk rfl rfl hfl
  have hnb := (h.cs.at_lt h3).1
  have ev : vsE (l.set k { l[k] with c1 := x, c2 := y }) = vsE l := map_set_same hk rfl
  have er : reE (l.set k { l[k] with c1 := x, c2 := y }) = reE l := map_set_same hk rfl
  refine ⟨bb, o, H', h1, h2, h5.keep hnb hn, ⟨?_, ?_, ?_, h.d1, h.d2, h.d3⟩⟩
  · rw [ev, List.length_set]; exact h.vs.frame fun z hz => h5.get z fun e => h.d2 z hz (e ▸ h3)
  · rw [er, List.length_set]; exact h.re.frame fun z hz => h5.get z fun e => h.d3 z hz (e ▸ h3)
  · rw [List.length_set]
    have e1 : splice (cells2 (csE l)) (k * 2) (AV.cells (.agg [i64 x, i64 y])) = cells2 (csE (l.set k { l[k] with c1 := x, c2 := y })) := by
      have := flat_splice (e := 2) (css := (csE l).map cntE) (fun c hc => by obtain ⟨z, _, rfl⟩ := List.mem_map.1 hc; rfl) (i := k) (c := cntE (l[k].c1, l[k].c2)) (by simp [hk]) (o := 0) (ws := [i64 x, i64 y]) (Nat.le_refl 2)
      show splice _ (k * 2 + 0) [i64 x, i64 y] = _
      rw [this]
      unfold cells2 csE
      rw [List.map_set, List.map_set]; rfl
    rw [e1] at h4; exact h4

theorem DepO.putR {n : Nat} {H : Heap} {a b c : AV} {l : List Ent} {fl k : Nat} (h : DepO n H a b c l) (hn : n ≤ H.length) (hfl : fl ≤ n) (hk : k < l.length) (x : Int) :
    ∃ bb o H', ptrA 1 b (k : Int) = some (bb, o) ∧ putA fl H bb o 1 (i64 x) = some H' ∧ Keep n H H' ∧ DepO n H' a b c (l.set k { l[k] with r := x }) := by
  obtain ⟨bb, o, H', h1, h2, h3, h4, h5⟩ := h.re.put (fl := fl) (w := i64 x) hk rfl rfl hfl
  have hnb := (h.re.at_lt h3).1
  have ev : vsE (l.set k { l[k] with r := x }) = vsE l := map_set_same hk rfl
  have ec : csE (l.set k { l[k] with r := x }) = csE l := map_set_same hk rfl
  refine ⟨bb, o, H', h1, h2, h5.keep hnb hn, ⟨?_, ?_, ?_, h.d1, h.d2, h.d3⟩⟩
  · rw [ev, List.length_set]; exact h.vs.frame fun z hz => h5.get z fun e => h.d1 z hz (e ▸ h3)
  · rw [List.length_set]
    have e1 : splice (ints (reE l)) (k * 1) (AV.cells (i64 x)) = ints (reE (l.set k { l[k] with r := x })) := by
      have hf := flat_splice (e := 1) (css := (reE l).map fun x => [AV.int .i64 x]) (fun c hc => by obtain ⟨z, _, rfl⟩ := List.mem_map.1 hc; rfl) (i := k) (c := [i64 l[k].r]) (by simp [hk]) (o := 0) (ws := [i64 x]) (Nat.le_refl 1)
      rw [← Row.flat] at hf
      show splice _ (k * 1 + 0) [i64 x] = _
      refine hf.trans ?_
      have : (((reE l).map fun x => [AV.int .i64 x]).set k (splice [i64 l[k].r] 0 [i64 x])) = ((reE (l.set k { l[k] with r := x })).map fun x => [AV.int .i64 x]) := by
        unfold reE; rw [List.map_set, List.map_set]; rfl
      rw [this, ← Row.flat]
    rw [e1] at h4; exact h4
  · rw [ec, List.length_set]; exact h.cs.frame fun z hz => h5.get z fun e => h.d3 z (e ▸ h3) hz

variable {F : Nat → Option RFunc}

abbrev DStepC (F : Nat → Option RFunc) (f : Nat) : Prop := ∀ {fl H Q rings a b c} {p : PP} {l : List Ent} {e : Ev}, DepA H a b c l → fl ≤ H.length → l.length ≤ 2 ^ 28 → rings ≤ 5 → OkP p → (∀ x ∈ l, okC x.c1 x.c2) → (∀ a' b' c' H', Keep H.length H H' → DepA H' a' b' c' (stepD p rings l e).2 → Q (.tuple [depV rings p a' b' c', i64 (stepD p rings l e).1]) H') → Ret F fl f [depV rings p a b c, .agg (evC e)] H Q

theorem dropK_neg {α : Type} (l : List α) : dropK (-1) l = l := by unfold dropK; rw [if_neg (by decide)]

theorem dstep_c {f n1 n2 n3 n4 : Nat} (hF : F f = some (rf_FDeployment_Step n1 n2 n3 n4)) (h1 : DropC F n1) (h2 : ActiveC F n2) (h3 : CountsValidC F n3) (h4 : VerdictC F n4) : DStepC F f := fun {fl H Q rings a b c p l e} hd hfl hl r5 hp hok hq => by
  refine v_FDeployment_Step hF _ _ _ _ _ _ _ _ _ _ _ _ _ ?_
  intro H13 d13 H14 d14 H15 d15
  have k15 := (d13.keep.call d14.keep).call d15.keep
  have hs := hd.vs.small
  have lv : (vsE l).length = l.length := by simp
  have lr : (reE l).length = l.length := by simp
  have lc : (csE l).length = l.length := by simp
  unfold stepD at hq
  -- nothing changed
  have same : ∀ {code : Int} {H'}, Keep H.length H H' → (∀ a' b' c' H', Keep H.length H H' → DepA H' a' b' c' (code, l).2 → Q (.tuple [depV rings p a' b' c', i64 (code, l).1]) H') → Scal a ∧ Scal b ∧ Scal c ∧ Q (.tuple [depV rings p a b c, i64 code]) H' := fun {code H'} k h =>
    ⟨hd.vs.scal, hd.re.scal, hd.cs.scal, h a b c H' k (hd.keep k)⟩
  refine ⟨fun hk => ?_, fun hk => ?_⟩
  · rw [if_pos hk] at hq; exact same k15 hq
  rw [if_neg hk] at hq
  refine ⟨fun _ _ _ _ _ _ _ _ => ¬ malB e, ⟨fun h14 => ⟨fun hr => ?_, fun hr => ?_⟩, fun h14 => ⟨fun hv => ?_, fun hv => ?_⟩⟩, ?_⟩
  · rw [if_pos (show malB e from .inl ⟨h14, hr⟩)] at hq; exact same k15 hq
  · intro hm
    rcases hm with ⟨_, h⟩ | ⟨h, _⟩
    · exact hr h
    · exact h h14
  · rw [if_pos (show malB e from .inr ⟨h14, hv⟩)] at hq; exact same k15 hq
  · intro hm
    rcases hm with ⟨h, _⟩ | ⟨_, h⟩
    · exact h14 h
    · exact hv h
  intro v20 v21 v22 v23 v24 v25 v26 v27 hmal
  rw [if_neg hmal] at hq
  refine ⟨fun hc => ?_, fun hc => ?_⟩
  · rw [if_pos hc] at hq; exact same k15 hq
  rw [if_neg hc] at hq
  refine ⟨fun hr => ?_, fun hr => ?_⟩
  · rw [if_pos hr] at hq; exact same k15 hq
  rw [if_neg hr] at hq
  refine ⟨fun h4k => ?_, fun h4k => ?_⟩
  · -- abort
    rw [if_pos h4k] at hq
    refine ⟨fun m _ _ _ _ _ _ _ _ i H' => ∃ j : Nat, i = j ∧ j + m = l.length ∧ H' = H15 ∧ ∀ x ∈ l.take j, (x.v == e.ver) = false, l.length, ⟨0, rfl, by omega, rfl, by simp⟩, ?_⟩
    rintro m _ _ _ _ _ _ _ _ _ _ ⟨j, rfl, hm, rfl, hj⟩
    refine ⟨_, hd.vs.len, fun hlt => ?_, fun hge => ?_⟩
    · have hil : j < l.length := by omega
      have hV := (hd.vs.keep k15).int (i := j) (by omega)
      rw [show (vsE l)[j]'(by omega) = l[j].v from by simp] at hV
      refine ⟨_, hV, fun he => ?_, fun hne => ⟨m - 1, by omega, j + 1, wsucc hil (by omega), by omega, rfl, take_step (p := fun x => x.v == e.ver) hil (by simpa using hne) hj⟩⟩
      have hany : l.any (fun x => x.v == e.ver) = true := List.any_eq_true.2 ⟨_, List.getElem_mem hil, by simpa using he⟩
      have hfi : l.findIdx (fun x => x.v == e.ver) = j := by
        rw [List.findIdx_eq hil]
        refine ⟨by simpa using he, fun i hi => ?_⟩
        exact hj _ (by rw [List.mem_take_iff_getElem]; exact ⟨i, by omega, rfl⟩)
      rw [if_pos hany, hfi] at hq
      refine h1 (hd.keep k15) (k15.fl hfl) (by omega) fun a' b' c' H' k' ho => ⟨_, _, _, _, _, _, _, _, rfl, ho.scal.1, ho.scal.2.1, ho.scal.2.2, ?_⟩
      refine hq a' b' c' H' (k15.call k') ?_
      have := ho.dep
      unfold dropK at this
      rw [if_pos (by omega)] at this
      simpa using this
    · rw [List.take_of_length_le (by omega)] at hj
      have hany : ¬ l.any (fun x => x.v == e.ver) = true := by
        intro h
        obtain ⟨x, hx, h2⟩ := List.any_eq_true.1 h
        rw [hj x hx] at h2; cases h2
      rw [if_neg hany] at hq
      exact same k15 hq
  rw [if_neg h4k] at hq
  refine h2 (hd.keep k15) fun H81 k81 => ⟨_, rfl, ?_⟩
  have k81 := k15.call k81
  have fl81 := k81.fl hfl
  refine ⟨fun h1k => ?_, fun h1k => ?_⟩
  · -- start
    rw [if_pos h1k] at hq
    refine ⟨fun hv => ?_, fun hv => ?_⟩
    · rw [if_pos hv] at hq; exact same k81 hq
    rw [if_neg hv] at hq
    refine ⟨fun ha => ?_, fun ha => ?_⟩
    · rw [if_pos ha] at hq; exact same k81 hq
    rw [if_neg ha] at hq
    refine ⟨_, hd.vs.len, fun _ _ _ _ _ _ _ _ => ¬ (l ≠ [] ∧ e.ver ≤ lastV l), ⟨fun hpos => ?_, fun hz => ?_⟩, ?_⟩
    · have hl1 : (vsE l).length - 1 < (vsE l).length := by omega
      rw [wpred (by omega) hs]
      have hlast : lastV l = (vsE l)[(vsE l).length - 1] := by
        unfold lastV lastI
        rw [List.getLast?_eq_getElem?, List.getElem?_eq_getElem hl1]
      have hnn : l ≠ [] := by intro h; rw [h] at hpos; simp at hpos
      refine ⟨_, (hd.vs.keep k81).int hl1, fun hle => ?_, fun hgt => ?_⟩
      · rw [if_pos ⟨hnn, by rw [hlast]; exact hle⟩] at hq; exact same k81 hq
      · intro h; rw [hlast] at h; exact hgt h.2
    · intro h
      have : l = [] := List.eq_nil_of_length_eq_zero (by omega)
      exact h.1 this
    intro _ _ _ _ _ _ _ _ hst
    rw [if_neg hst] at hq
    refine h1 (hd.keep k81) fl81 (by omega) fun a' b' c' H114 k114 ho => ⟨_, _, _, _, _, _, _, _, rfl, fun H116 d116 => ?_⟩
    rw [dropK_neg] at ho
    have k116 := k114.call d116.keep
    have ho := ho.keep d116.keep
    have key := ho.push (fl := fl) (Nat.le_trans k116.low k116.len) fl81 (by omega) ⟨e.ver, 0, 0, 0⟩ (R1 := fun _ _ => True) (R2 := fun _ _ => True) (Q := fun a1 a2 a3 H48 => Q (.tuple [depV rings p a1 a2 a3, i64 0]) H48) (fun _ _ _ _ => trivial) fun a1 a2 a3 H48 k48 h48 => hq a1 a2 a3 H48 ((k81.call k116).trans k48 k81.len) h48.dep
    refine ⟨ho.scal.1, ho.scal.2.1, ho.scal.2.2, fun b120 H121 hb120 => ?_⟩
    obtain ⟨a32, H33, x1, x2, x3, x4⟩ := key b120 H121 hb120
    refine ⟨a32, H33, x1, x2, fun b125 H126 hb125 => ?_⟩
    obtain ⟨a39, H40, y1, y2, y3, y4⟩ := x4 b125 H126 hb125
    refine ⟨a39, H40, y1, y2, fun b130 H131 hb130 => ?_⟩
    exact y4 b130 H131 hb130
  rw [if_neg h1k] at hq
  refine ⟨fun _ _ _ _ _ _ _ _ H' => Keep H.length H H' ∧ ¬ (e.kind = 2 ∧ ¬ okC e.g e.b), ⟨fun h2k => h3 fun H148 k148 => ⟨_, rfl, fun hn => ?_, fun hn => ?_⟩, fun h2k => ⟨k81, fun h => h2k h.1⟩⟩, ?_⟩
  · rw [if_pos ⟨h2k, by simpa using hn⟩] at hq; exact same (k81.call k148) hq
  · exact ⟨k81.call k148, fun h => h.2 (by simpa using hn)⟩
  rintro _ _ _ _ _ _ _ _ H146 ⟨k146, hval⟩
  rw [if_neg hval] at hq
  refine ⟨fun hneg => ?_, fun hpos => ?_⟩
  · rw [if_pos hneg] at hq; exact same k146 hq
  rw [if_neg hpos] at hq
  have fl146 := k146.fl hfl
  -- the active version
  obtain ⟨hk1, hk2⟩ : ∃ h : (actD l e.ring).toNat < l.length, actD l e.ring = ((actD l e.ring).toNat : Nat) := by
    unfold actD at hpos ⊢
    rcases fidx_cases (fun x => x == e.ring) (reE l) with ⟨g1, g2, _⟩ | ⟨g2, _⟩
    · rw [g2]; exact ⟨by simp only [Int.toNat_natCast]; omega, by simp⟩
    · rw [g2] at hpos; exact absurd (by decide) hpos
  generalize hkk : (actD l e.ring).toNat = k at hk1 hk2 hq
  rw [hk2]
  rw [eg_eq hk1] at hq
  have hokk := hok _ (List.getElem_mem hk1)
  have hck : (csE l)[k]'(by omega) = (l[k].c1, l[k].c2) := by simp
  refine h1 (hd.keep k146) fl146 (by omega) fun a' b' c' H164 k164 ho => ⟨_, _, _, _, _, _, _, _, rfl, fun H166 d166 => ?_⟩
  rw [dropK_neg] at ho
  have ho := ho.keep d166.keep
  have k166 := k164.call d166.keep
  have kk166 := k146.call k166
  have hn166 := Nat.le_trans k166.low k166.len
  refine ⟨ho.scal.1, ho.scal.2.1, ho.scal.2.2, fun h2k => ?_, fun h2k => ?_⟩
  · -- report
    rw [if_pos h2k] at hq
    have hev : okC e.g e.b := Decidable.byContradiction fun h => hval ⟨h2k, h⟩
    have hC := (hd.cs.keep kk166).cnt (i := k) (by omega)
    rw [hck] at hC
    refine ⟨_, hC.2.1, _, hC.2.2, fun H174 d174 => ?_⟩
    have e1 : IntKind.wrap .i64 (l[k].c1 + e.g) = l[k].c1 + e.g := by unfold okC at hokk hev; rw [wrap64 (by omega) (by omega)]
    have e2 : IntKind.wrap .i64 (l[k].c2 + e.b) = l[k].c2 + e.b := by unfold okC at hokk hev; rw [wrap64 (by omega) (by omega)]
    simp only [e1, e2]
    refine h3 fun H176 k176 => ⟨_, rfl, fun hn => ?_, fun hn => ?_⟩
    · rw [if_pos (by simpa using hn)] at hq; exact same ((kk166.call d174.keep).call k176) hq
    have hs2 : okC (l[k].c1 + e.g) (l[k].c2 + e.b) := by simpa using hn
    rw [if_neg fun h => h hs2] at hq
    have k176' := d174.keep.call k176
    obtain ⟨bb, o, H183, p1, p2, p3, p4⟩ := (ho.keep k176').putC (fl := fl) (Nat.le_trans hn166 k176'.len) fl146 hk1 (l[k].c1 + e.g) (l[k].c2 + e.b)
    refine ⟨bb, o, p1, H183, p2, ?_⟩
    have kk183 : Keep H.length H H183 := (kk166.call k176').trans p3 k146.len
    refine h4 hp.base hs2 hp.par.2.2.1 hp.par.2.2.2 (kk183.fl hfl) fun H185 k185 => ⟨_, rfl, fun hv => ?_, fun hv => ?_⟩
    · rw [if_pos hv] at hq
      have kk185 := kk183.call k185
      refine h1 (hd.keep kk185) (kk185.fl hfl) (by omega) fun a2 b2 c2 H195 k195 ho2 => ⟨_, _, _, _, _, _, _, _, rfl, ho2.scal.1, ho2.scal.2.1, ho2.scal.2.2, hq a2 b2 c2 H195 (kk185.call k195) ?_⟩
      have := ho2.dep
      unfold dropK at this
      rw [if_pos (by omega)] at this
      simpa using this
    · rw [if_neg hv] at hq
      exact hq a' b' c' H185 (kk183.call k185) (p4.keep k185).dep
  · -- advance
    rw [if_neg h2k] at hq
    have hC := (hd.cs.keep kk166).cnt (i := k) (by omega)
    rw [hck] at hC
    refine ⟨_, _, hC.1, h4 hp.base hokk hp.par.2.2.1 hp.par.2.2.2 (kk166.fl hfl) fun H204 k204 => ⟨_, rfl, fun hv => ?_, fun hv => ?_⟩⟩
    · rw [if_pos hv] at hq; exact same (kk166.call k204) hq
    rw [if_neg hv] at hq
    rw [show IntKind.wrap .i64 (e.ring + 1) = e.ring + 1 from by rw [wrap64 (by omega) (by omega)]]
    have fin : ∀ {H'}, Keep H166.length H166 H' → (∀ a' b' c' H', Keep H.length H H' → DepA H' a' b' c' (l.set k { l[k] with r := e.ring + 1, c1 := 0, c2 := 0 }) → Q (.tuple [depV rings p a' b' c', i64 0]) H') → ∃ b215 o216 : Nat, ptrA 1 b' (k : Int) = some (b215, o216) ∧ ∃ H217 : Heap, putA fl H' b215 o216 1 (i64 (e.ring + 1)) = some H217 ∧ ∃ b218 o219 : Nat, ptrA 2 c' (k : Int) = some (b218, o219) ∧ ∃ H220 : Heap, putA fl H217 b218 o219 2 (.agg [i64 0, i64 0]) = some H220 ∧ Q (.tuple [depV rings p a' b' c', i64 0]) H220 := fun {H'} k' hq => by
      obtain ⟨bb, o, H1, p1, p2, p3, p4⟩ := (ho.keep k').putR (fl := fl) (Nat.le_trans hn166 k'.len) fl146 hk1 (e.ring + 1)
      have hk1' : k < (l.set k { l[k] with r := e.ring + 1 }).length := by simpa using hk1
      obtain ⟨bb2, o2, H2, q1, q2, q3, q4⟩ := p4.putC (fl := fl) (Nat.le_trans p3.low p3.len) fl146 hk1' 0 0
      refine ⟨bb, o, p1, H1, p2, bb2, o2, q1, H2, q2, hq a' b' c' H2 (((kk166.call k').trans p3 k146.len).trans q3 k146.len) ?_⟩
      have := q4.dep
      simp only [List.getElem_set_self, List.set_set] at this
      exact this
    refine ⟨fun hlt => ?_, fun hge => ?_⟩
    · refine h2 (hd.keep (kk166.call k204)) fun H210 k210 => ⟨_, rfl, fun ha => ?_, fun ha => ?_⟩
      · rw [if_pos ⟨hlt, ha⟩] at hq; exact same ((kk166.call k204).call k210) hq
      · rw [if_neg fun h => ha h.2] at hq
        exact fin (k204.call k210) hq
    · rw [if_neg fun h => hge h.1] at hq
      exact fin k204 hq

end Go.RM

/-
  Rollouts, plainly: rings that are written, and the list of versions, say the same.
-/
namespace Go.RM
set_option linter.unusedSimpArgs false
set_option linter.unusedVariables false
open Rol

theorem fold_none (k : Nat) : ∀ (es : List Ent) (x : RS), (∀ e ∈ es, e.r ≠ (k : Int)) → (es.foldl (put1 k) x).act = x.act ∧ (es.foldl (put1 k) x).good = x.good ∧ (es.foldl (put1 k) x).bad = x.bad
  | [], x, _ => ⟨rfl, rfl, rfl⟩
  | e :: es, x, h => by
    rw [List.foldl_cons]
    have he := h e (by simp)
    obtain ⟨i1, i2, i3⟩ := fold_none k es (put1 k x e) fun y hy => h y (by simp [hy])
    have : (put1 k x e).act = x.act ∧ (put1 k x e).good = x.good ∧ (put1 k x e).bad = x.bad := by
      unfold put1
      split
      · exact ⟨rfl, rfl, rfl⟩
      · rw [if_neg fun h => he h.symm]; exact ⟨rfl, rfl, rfl⟩
    rw [i1, i2, i3]; exact this
theorem fold_some (k : Nat) {e : Ent} (hr : e.r = (k : Int)) : ∀ (es : List Ent) (x : RS), e ∈ es → (∀ y ∈ es, y.r = (k : Int) → y = e) → (es.foldl (put1 k) x).act = e.v ∧ (es.foldl (put1 k) x).good = e.c1 ∧ (es.foldl (put1 k) x).bad = e.c2
  | [], x, h, _ => by simp at h
  | y :: es, x, h, hu => by
    rw [List.foldl_cons]
    by_cases hm : e ∈ es
    · exact fold_some k hr es _ hm fun z hz => hu z (by simp [hz])
    · have hy : e = y := by rcases List.mem_cons.1 h with h | h; exact h; exact absurd h hm
      subst hy
      obtain ⟨i1, i2, i3⟩ := fold_none k es (put1 k x e) fun z hz hzr => hm (hu z (by simp [hz]) hzr ▸ hz)
      have : (put1 k x e).act = e.v ∧ (put1 k x e).good = e.c1 ∧ (put1 k x e).bad = e.c2 := by
        unfold put1
        rw [if_neg (by omega), if_pos hr.symm]; exact ⟨rfl, rfl, rfl⟩
      rw [i1, i2, i3]; exact this
theorem fold_conf (k : Nat) : ∀ (es : List Ent) (x : RS), (es.foldl (put1 k) x).conf = x.conf ++ (es.filter fun e => decide ((k : Int) < e.r)).map (·.v)
  | [], x => by simp
  | e :: es, x => by
    rw [List.foldl_cons, fold_conf k es, List.filter_cons]
    unfold put1
    by_cases h : (k : Int) < e.r
    · rw [if_pos h, if_pos (by simpa using h)]; simp
    · have hf : ¬ decide ((k : Int) < e.r) = true := by rw [decide_eq_true_eq]; exact h
      rw [if_neg h, if_neg hf]
      split <;> rfl
theorem rOf_conf (es : List Ent) (k : Nat) : (rOf es k).conf = (es.filter fun e => decide ((k : Int) < e.r)).map (·.v) := by
  unfold rOf; rw [fold_conf]; rfl
/-- By what is kept of each version. -/
theorem rOf_conf' (es : List Ent) (k : Nat) : (rOf es k).conf = ((es.map fun e => (e.v, decide ((k : Int) < e.r))).filter (·.2)).map (·.1) := by
  rw [rOf_conf, List.filter_map, List.map_map]; rfl
theorem rOf_none {es : List Ent} {k : Nat} (h : ∀ e ∈ es, e.r ≠ (k : Int)) : (rOf es k).act = 0 ∧ (rOf es k).good = 0 ∧ (rOf es k).bad = 0 := fold_none k es zeroR h
theorem rOf_some {es : List Ent} {k : Nat} {e : Ent} (he : e ∈ es) (hr : e.r = (k : Int)) (hu : ∀ y ∈ es, y.r = (k : Int) → y = e) : (rOf es k).act = e.v ∧ (rOf es k).good = e.c1 ∧ (rOf es k).bad = e.c2 := fold_some k hr es zeroR he hu

def Uq (es : List Ent) (k : Nat) : Prop := ∀ x ∈ es, ∀ y ∈ es, x.r = (k : Int) → y.r = (k : Int) → x = y
theorem rOf_same {es es' : List Ent} {k : Nat} (hu : Uq es k) (h : ∀ x, x.r = (k : Int) → (x ∈ es ↔ x ∈ es')) : (rOf es k).act = (rOf es' k).act ∧ (rOf es k).good = (rOf es' k).good ∧ (rOf es k).bad = (rOf es' k).bad := by
  by_cases hx : ∃ x ∈ es, x.r = (k : Int)
  · obtain ⟨x, hx, hr⟩ := hx
    obtain ⟨a1, a2, a3⟩ := rOf_some hx hr fun y hy hyr => hu y hy x hx hyr hr
    obtain ⟨b1, b2, b3⟩ := rOf_some ((h x hr).1 hx) hr fun y hy hyr => hu y ((h y hyr).2 hy) x hx hyr hr
    rw [a1, a2, a3, b1, b2, b3]; exact ⟨rfl, rfl, rfl⟩
  · obtain ⟨a1, a2, a3⟩ := rOf_none (es := es) (k := k) fun e he hr => hx ⟨e, he, hr⟩
    obtain ⟨b1, b2, b3⟩ := rOf_none (es := es') (k := k) fun e he hr => hx ⟨e, (h e hr).2 he, hr⟩
    rw [a1, a2, a3, b1, b2, b3]; exact ⟨rfl, rfl, rfl⟩

structure RInv (n : Nat) (p : PP) (es : List Ent) : Prop where
  inc : es.Pairwise fun (a b : Ent) => a.v < b.v
  pos : ∀ e ∈ es, 1 ≤ e.v
  re : ∀ e ∈ es, 0 ≤ e.r ∧ e.r ≤ n
  mon : es.Pairwise fun (a b : Ent) => b.r ≤ a.r ∧ (a.r = b.r → a.r = (n : Int))
  cs : ∀ e ∈ es, okC e.c1 e.c2
  ver : ∀ e ∈ es, e.r < n → verdictI p.b1 p.b2 e.c1 e.c2 p.need p.pm ≠ 3

variable {n : Nat} {p : PP} {es : List Ent}

theorem RInv.uq (h : RInv n p es) {k : Nat} (hk : k < n) : Uq es k := fun x hx y hy hxr hyr => by
  obtain ⟨i, hi, rfl⟩ := List.getElem_of_mem hx
  obtain ⟨j, hj, rfl⟩ := List.getElem_of_mem hy
  rcases Nat.lt_trichotomy i j with h1 | h1 | h1
  · have := (List.pairwise_iff_getElem.1 h.mon i j hi hj h1).2 (by omega); omega
  · subst h1; rfl
  · have := (List.pairwise_iff_getElem.1 h.mon j i hj hi h1).2 (by omega); omega
theorem RInv.vq (h : RInv n p es) {i j : Nat} (hi : i < es.length) (hj : j < es.length) (he : es[i].v = es[j].v) : i = j := by
  rcases Nat.lt_trichotomy i j with h1 | h1 | h1
  · have := List.pairwise_iff_getElem.1 h.inc i j hi hj h1; omega
  · exact h1
  · have := List.pairwise_iff_getElem.1 h.inc j i hj hi h1; omega

theorem rg_state {k : Nat} (hk : k < n) : rg (stateD n es) k = rOf es k := by
  unfold rg stateD; simp [List.getD, hk]
theorem state_len : (stateD n es).length = n := by unfold stateD; simp

/-! ### A version less -/

/-- Without a version. -/
def dropV (v : Int) (es : List Ent) : List Ent := es.filter fun e => e.v != v

theorem erase_dropV (h : RInv n p es) {k : Nat} (hk : k < es.length) : es.eraseIdx k = dropV es[k].v es := by
  generalize hv : es[k].v = v
  unfold dropV
  rw [List.eraseIdx_eq_take_drop_succ]
  conv => rhs; rw [← List.take_append_drop k es, List.drop_eq_getElem_cons hk]
  rw [List.filter_append, List.filter_cons]
  have h1 : (es.take k).filter (fun e => e.v != v) = es.take k := by
    rw [List.filter_eq_self]
    intro x hx
    obtain ⟨i, hi, rfl⟩ := List.getElem_of_mem hx
    rw [List.length_take] at hi
    rw [List.getElem_take]
    simp only [bne_iff_ne]
    intro e
    have := h.vq (by omega) hk (e.trans hv.symm)
    omega
  have h2 : (es.drop (k + 1)).filter (fun e => e.v != v) = es.drop (k + 1) := by
    rw [List.filter_eq_self]
    intro x hx
    obtain ⟨i, hi, rfl⟩ := List.getElem_of_mem hx
    rw [List.length_drop] at hi
    rw [List.getElem_drop]
    simp only [bne_iff_ne]
    intro e
    have := h.vq (by omega) hk (e.trans hv.symm)
    omega
  rw [h1, h2, hv]
  simp only [bne_self_eq_false, Bool.false_eq_true, if_false]

theorem rm_inc {v : Int} : ∀ {l : List Int}, l.Pairwise (· < ·) → rm v l = l.filter (fun x => x != v)
  | [], _ => rfl
  | x :: l, h => by
    rw [List.pairwise_cons] at h
    have ih := rm_inc (v := v) h.2
    unfold rm at ih ⊢
    rw [List.findIdx_cons, List.filter_cons]
    by_cases hx : x = v
    · subst hx
      simp only [beq_self_eq_true, cond_true, List.eraseIdx_cons_zero, bne_self_eq_false, Bool.false_eq_true, if_false]
      symm
      rw [List.filter_eq_self]
      intro y hy
      have := h.1 y hy
      simp only [bne_iff_ne]; omega
    · have h1 : (x == v) = false := by simpa using hx
      rw [h1]
      simp only [cond_false, List.eraseIdx_cons_succ, ih]
      rw [if_pos (by simpa using hx)]

theorem RInv.conf (h : RInv n p es) (k : Nat) : (rOf es k).conf.Pairwise (· < ·) := by
  rw [rOf_conf, List.pairwise_map]
  exact (h.inc.filter _).imp fun h => h

theorem RInv.drop (h : RInv n p es) (v : Int) : RInv n p (dropV v es) where
  inc := h.inc.filter _
  pos := fun e he => h.pos e (List.mem_filter.1 he).1
  re := fun e he => h.re e (List.mem_filter.1 he).1
  mon := h.mon.filter _
  cs := fun e he => h.cs e (List.mem_filter.1 he).1
  ver := fun e he => h.ver e (List.mem_filter.1 he).1

theorem abort_rOf (h : RInv n p es) {k : Nat} (hk : k < n) {v : Int} (hv : v ≠ 0) : abort1 v (rOf es k) = rOf (dropV v es) k := by
  have huq := h.uq hk
  have hconf : rm v (rOf es k).conf = (rOf (dropV v es) k).conf := by
    rw [rm_inc (h.conf k), rOf_conf, rOf_conf, List.filter_map]
    unfold dropV
    rw [List.filter_filter, List.filter_filter]
    congr 1
    apply List.filter_congr
    intro x _
    simp only [Function.comp, Bool.and_comm]
  by_cases hx : ∃ x ∈ es, x.r = (k : Int)
  · obtain ⟨x, hx, hr⟩ := hx
    obtain ⟨a1, a2, a3⟩ := rOf_some hx hr fun y hy hyr => huq y hy x hx hyr hr
    by_cases hxv : x.v = v
    · have hA : hitA v (rOf es k) = true := by unfold hitA; exact decide_eq_true ⟨hv, by rw [a1, hxv]⟩
      obtain ⟨b1, b2, b3⟩ := rOf_none (es := dropV v es) (k := k) fun e he hr' => by
        obtain ⟨he, hne⟩ := List.mem_filter.1 he
        have := huq e he x hx hr' hr
        subst this
        simp [hxv] at hne
      refine RS.ext' hconf ?_ ?_ ?_
      · unfold abort1; simp only [hA, if_true]; rw [b1]
      · unfold abort1; simp only [hA, if_true]; rw [b2]
      · unfold abort1; simp only [hA, if_true]; rw [b3]
    · have hA : hitA v (rOf es k) = false := by unfold hitA; exact decide_eq_false fun h => hxv (by rw [← h.2, a1])
      have hm : x ∈ dropV v es := List.mem_filter.2 ⟨hx, by simpa using hxv⟩
      obtain ⟨b1, b2, b3⟩ := rOf_some hm hr fun y hy hyr => huq y (List.mem_filter.1 hy).1 x hx hyr hr
      refine RS.ext' hconf ?_ ?_ ?_
      · unfold abort1; simp only [hA, Bool.false_eq_true, if_false]; rw [a1, b1]
      · unfold abort1; simp only [hA, Bool.false_eq_true, if_false]; rw [a2, b2]
      · unfold abort1; simp only [hA, Bool.false_eq_true, if_false]; rw [a3, b3]
  · obtain ⟨a1, a2, a3⟩ := rOf_none (es := es) (k := k) fun e he hr => hx ⟨e, he, hr⟩
    obtain ⟨b1, b2, b3⟩ := rOf_none (es := dropV v es) (k := k) fun e he hr => hx ⟨e, (List.mem_filter.1 he).1, hr⟩
    have hA : hitA v (rOf es k) = false := by unfold hitA; exact decide_eq_false fun h => hv (by rw [← h.2, a1])
    refine RS.ext' hconf ?_ ?_ ?_
    · unfold abort1; simp only [hA, Bool.false_eq_true, if_false]; rw [a1, b1]
    · unfold abort1; simp only [hA, Bool.false_eq_true, if_false]; rw [a2, b2]
    · unfold abort1; simp only [hA, Bool.false_eq_true, if_false]; rw [a3, b3]

theorem abort_state (h : RInv n p es) {v : Int} (hv : v ≠ 0) : (stateD n es).map (abort1 v) = stateD n (dropV v es) := by
  unfold stateD
  rw [List.map_map]
  exact range_eq fun k hk => abort_rOf h hk hv

/-- A version is known to a ring exactly if it is in the list. -/
theorem hit_iff (h : RInv n p es) (hn : 0 < n) (v : Int) : (stateD n es).any (hit v) = true ↔ ∃ e ∈ es, e.v = v := by
  rw [List.any_eq_true]
  constructor
  · rintro ⟨x, hx, hh⟩
    obtain ⟨k, hk, rfl⟩ := List.mem_map.1 hx
    have hk := List.mem_range.1 hk
    unfold hit at hh
    rw [Bool.or_eq_true] at hh
    rcases hh with hh | hh
    · unfold hitA at hh
      obtain ⟨h1, h2⟩ := of_decide_eq_true hh
      by_cases hx : ∃ x ∈ es, x.r = (k : Int)
      · obtain ⟨x, hx, hr⟩ := hx
        obtain ⟨a1, _⟩ := rOf_some hx hr fun y hy hyr => h.uq hk y hy x hx hyr hr
        exact ⟨x, hx, by rw [← a1, h2]⟩
      · obtain ⟨a1, _⟩ := rOf_none (es := es) (k := k) fun e he hr => hx ⟨e, he, hr⟩
        rw [a1] at h2; exact absurd h2.symm h1
    · obtain ⟨y, hy, h2⟩ := List.any_eq_true.1 hh
      rw [rOf_conf] at hy
      obtain ⟨e, he, rfl⟩ := List.mem_map.1 hy
      exact ⟨e, (List.mem_filter.1 he).1, by simpa using h2⟩
  · rintro ⟨e, he, rfl⟩
    obtain ⟨r0, r1⟩ := h.re e he
    have hp := h.pos e he
    by_cases hr : e.r < n
    · refine ⟨rOf es e.r.toNat, List.mem_map.2 ⟨_, List.mem_range.2 (by omega), rfl⟩, ?_⟩
      have er : e.r = ((e.r.toNat : Nat) : Int) := by omega
      obtain ⟨a1, _⟩ := rOf_some he er fun y hy hyr => h.uq (k := e.r.toNat) (by omega) y hy e he hyr er
      unfold hit hitA
      rw [Bool.or_eq_true]
      exact .inl (decide_eq_true ⟨by omega, a1⟩)
    · refine ⟨rOf es 0, List.mem_map.2 ⟨0, List.mem_range.2 hn, rfl⟩, ?_⟩
      unfold hit
      rw [Bool.or_eq_true]
      right
      rw [List.any_eq_true]
      refine ⟨e.v, ?_, by simp⟩
      rw [rOf_conf]
      exact List.mem_map.2 ⟨e, List.mem_filter.2 ⟨he, by simp; omega⟩, rfl⟩

/-! ### The active version -/

theorem act_iff (h : RInv n p es) {r : Int} (r0 : 0 ≤ r) (r1 : r < n) : (actD es r < 0 ∧ (rOf es r.toNat).act = 0 ∧ (rOf es r.toNat).good = 0 ∧ (rOf es r.toNat).bad = 0 ∧ ∀ e ∈ es, e.r ≠ r) ∨
    ∃ hk : (actD es r).toNat < es.length, 0 ≤ actD es r ∧ es[(actD es r).toNat].r = r ∧ (rOf es r.toNat).act = es[(actD es r).toNat].v ∧ (rOf es r.toNat).good = es[(actD es r).toNat].c1 ∧ (rOf es r.toNat).bad = es[(actD es r).toNat].c2 ∧ (rOf es r.toNat).act ≠ 0 := by
  have er : ((r.toNat : Nat) : Int) = r := by omega
  unfold actD
  rcases fidx_cases (fun x => x == r) (reE es) with ⟨g1, g2, _⟩ | ⟨g2, g3⟩
  · right
    rw [g2]
    simp only [Int.toNat_natCast]
    have hk : (reE es).findIdx (fun x => x == r) < es.length := by simpa using g1
    have hr : es[(reE es).findIdx (fun x => x == r)].r = r := by
      have := List.findIdx_getElem (w := g1)
      simpa using this
    obtain ⟨a1, a2, a3⟩ := rOf_some (k := r.toNat) (List.getElem_mem hk) (by rw [hr, er]) fun y hy hyr => h.uq (by omega) y hy _ (List.getElem_mem hk) hyr (by rw [hr, er])
    refine ⟨hk, by omega, hr, a1, a2, a3, ?_⟩
    rw [a1]
    have := h.pos _ (List.getElem_mem hk)
    omega
  · left
    rw [g2]
    rw [List.any_eq_false] at g3
    have hne : ∀ e ∈ es, e.r ≠ r := fun e he hr => g3 e.r (List.mem_map.2 ⟨e, he, rfl⟩) (by simp [hr])
    obtain ⟨a1, a2, a3⟩ := rOf_none (es := es) (k := r.toNat) fun e he hr => hne e he (by rw [hr, er])
    exact ⟨by decide, a1, a2, a3, hne⟩

theorem set_mem {es : List Ent} {k : Nat} (hk : k < es.length) {y x : Ent} (hx : x ≠ y) (hxk : x ≠ es[k]) : x ∈ es.set k y ↔ x ∈ es := by
  constructor
  · intro h
    rcases List.mem_or_eq_of_mem_set h with h | h
    · exact h
    · exact absurd h hx
  · intro h
    obtain ⟨i, hi, rfl⟩ := List.getElem_of_mem h
    have : i ≠ k := fun e => hxk (by subst e; rfl)
    rw [List.mem_iff_getElem]
    exact ⟨i, by simpa using hi, by rw [List.getElem_set_ne (Ne.symm this)]⟩

/-- The list with one version's samples changed. -/
theorem set_cnt (h : RInv n p es) {k : Nat} (hk : k < es.length) (hr : es[k].r < n) (x y : Int) : (stateD n es).set es[k].r.toNat { rOf es es[k].r.toNat with good := x, bad := y } = stateD n (es.set k { es[k] with c1 := x, c2 := y }) := by
  have hre := (h.re _ (List.getElem_mem hk)).1
  have conf : ∀ j, (rOf (es.set k { es[k] with c1 := x, c2 := y }) j).conf = (rOf es j).conf := fun j => by
    have e := map_set_same (f := fun e : Ent => (e.v, decide ((j : Int) < e.r))) hk (y := { es[k] with c1 := x, c2 := y }) rfl
    rw [rOf_conf', rOf_conf', e]
  unfold stateD
  refine range_set (fun j hj hne => ?_) ?_
  · obtain ⟨a1, a2, a3⟩ := rOf_same (es' := es.set k { es[k] with c1 := x, c2 := y }) (h.uq hj) fun z hz => by
      refine (set_mem hk (fun e => ?_) (fun e => ?_)).symm
      · rw [e] at hz; simp only at hz; omega
      · rw [e] at hz; omega
    exact RS.ext' (conf j).symm a1 a2 a3
  · have hm : ({ es[k] with c1 := x, c2 := y } : Ent) ∈ es.set k { es[k] with c1 := x, c2 := y } := List.mem_iff_getElem.2 ⟨k, by simpa using hk, by simp⟩
    have er : ((es[k].r.toNat : Nat) : Int) = es[k].r := by omega
    obtain ⟨b1, b2, b3⟩ := rOf_some (k := es[k].r.toNat) hm er.symm fun z hz hzr => by
      rcases List.mem_or_eq_of_mem_set hz with hz | hz
      · -- z is the old entry: it was replaced
        have h1 := h.uq (k := es[k].r.toNat) (by omega) z hz _ (List.getElem_mem hk) hzr er.symm
        obtain ⟨i, hi, hiz⟩ := List.getElem_of_mem ‹z ∈ es.set k _›
        rw [List.length_set] at hi
        by_cases e : i = k
        · subst e; rw [← hiz]; simp
        · rw [List.getElem_set_ne (Ne.symm e)] at hiz
          have : es[i].v = es[k].v := by rw [hiz, h1]
          exact absurd (h.vq hi hk this) e
      · exact hz
    obtain ⟨a1, _⟩ := rOf_some (k := es[k].r.toNat) (List.getElem_mem hk) er.symm fun z hz hzr => h.uq (by omega) z hz _ (List.getElem_mem hk) hzr er.symm
    exact RS.ext' (conf _) (by rw [b1]; exact a1.symm) b2 b3

end Go.RM

/-
  Rollouts, plainly: every step does the same to both.
-/
namespace Go.RM
set_option linter.unusedSimpArgs false
set_option linter.unusedVariables false
open Rol

variable {n : Nat} {p : PP} {es : List Ent}

theorem RInv.setCnt (h : RInv n p es) {k : Nat} (hk : k < es.length) {x y : Int} (ho : okC x y) (hv : verdictI p.b1 p.b2 x y p.need p.pm ≠ 3) : RInv n p (es.set k { es[k] with c1 := x, c2 := y }) := by
  have hm : ∀ (j : Nat) (hj : j < (es.set k { es[k] with c1 := x, c2 := y }).length), (es.set k { es[k] with c1 := x, c2 := y })[j].v = (es[j]'(by simpa using hj)).v ∧ (es.set k { es[k] with c1 := x, c2 := y })[j].r = (es[j]'(by simpa using hj)).r := fun j hj => by
    rw [List.getElem_set]
    split
    · rename_i e; subst e; exact ⟨rfl, rfl⟩
    · exact ⟨rfl, rfl⟩
  refine ⟨?_, fun e he => ?_, fun e he => ?_, ?_, fun e he => ?_, fun e he hr => ?_⟩
  · rw [List.pairwise_iff_getElem]
    intro i j hi hj hij
    rw [(hm i hi).1, (hm j hj).1]
    exact List.pairwise_iff_getElem.1 h.inc i j _ _ hij
  · rcases List.mem_or_eq_of_mem_set he with he | rfl
    · exact h.pos e he
    · have := h.pos _ (List.getElem_mem hk); exact this
  · rcases List.mem_or_eq_of_mem_set he with he | rfl
    · exact h.re e he
    · have := h.re _ (List.getElem_mem hk); exact this
  · rw [List.pairwise_iff_getElem]
    intro i j hi hj hij
    rw [(hm i hi).2, (hm j hj).2]
    exact List.pairwise_iff_getElem.1 h.mon i j _ _ hij
  · rcases List.mem_or_eq_of_mem_set he with he | rfl
    · exact h.cs e he
    · exact ho
  · rcases List.mem_or_eq_of_mem_set he with he | rfl
    · exact h.ver e he hr
    · exact hv

theorem verdict0 (hp : OkP p) : verdictI p.b1 p.b2 0 0 p.need p.pm ≠ 3 := by
  unfold verdictI
  have h1 := ways_le hp.base okC00
  have hw : waysI p.b1 p.b2 0 0 = allI p.b1 p.b2 0 0 := by
    unfold waysI allI
    rw [show (0 : Int).toNat + (0 : Int).toNat = 0 from rfl, show (0 : Int).toNat + 1 = 0 + 1 from rfl]
    have := tl_all (p.b1.toNat + (0 : Int).toNat) (p.b2.toNat + (0 : Int).toNat) 0
    rw [show (p.b1.toNat + (0 : Int).toNat) = p.b1.toNat + (0 : Int).toNat from rfl] at this
    rw [show (0 : Nat) + 1 = 0 + 1 from rfl, this, Nat.add_comm]
  have hpm := hp.par
  unfold okP at hpm
  rw [hw]
  have hpos : 0 < allI p.b1 p.b2 0 0 := by omega
  have hlt : allI p.b1 p.b2 0 0 * p.pm < allI p.b1 p.b2 0 0 * 1000 := Int.mul_lt_mul_of_pos_left hpm.2.2.2 hpos
  rw [if_neg (by omega)]
  split <;> decide

/-- A version goes on to the next ring. -/
theorem set_adv (h : RInv n p es) {k : Nat} (hk : k < es.length) (hr : es[k].r < n) (hfree : es[k].r + 1 < n → ∀ e ∈ es, e.r ≠ es[k].r + 1) :
    (if es[k].r.toNat + 1 < (stateD n es).length then (stateD n es).set (es[k].r.toNat + 1) { rg (stateD n es) (es[k].r.toNat + 1) with act := es[k].v } else stateD n es).set es[k].r.toNat ⟨(rOf es es[k].r.toNat).conf ++ [es[k].v], 0, 0, 0⟩ = stateD n (es.set k { es[k] with r := es[k].r + 1, c1 := 0, c2 := 0 }) := by
  have hre := (h.re _ (List.getElem_mem hk)).1
  have er : ((es[k].r.toNat : Nat) : Int) = es[k].r := by omega
  rw [state_len]
  generalize hi : es[k].r.toNat = i at er
  have hin : i < n := by omega
  -- entries of ring i: only the one
  have huq := h.uq hin
  have hself : ∀ j, (hj : j < es.length) → es[j].r = (i : Int) → j = k := fun j hj e => by
    have := huq _ (List.getElem_mem hj) _ (List.getElem_mem hk) e er.symm
    exact h.vq hj hk (by rw [this])
  have hmem : ∀ z, z ∈ es.set k { es[k] with r := es[k].r + 1, c1 := 0, c2 := 0 } → z = { es[k] with r := es[k].r + 1, c1 := 0, c2 := 0 } ∨ (z ∈ es ∧ z.r ≠ (i : Int)) := fun z hz => by
    obtain ⟨j, hj, rfl⟩ := List.getElem_of_mem hz
    rw [List.length_set] at hj
    by_cases e : j = k
    · subst e; left; simp
    · right
      rw [List.getElem_set_ne (Ne.symm e)]
      exact ⟨List.getElem_mem hj, fun e2 => e (hself j hj e2)⟩
  have hnew : ({ es[k] with r := es[k].r + 1, c1 := 0, c2 := 0 } : Ent) ∈ es.set k { es[k] with r := es[k].r + 1, c1 := 0, c2 := 0 } := List.mem_iff_getElem.2 ⟨k, by simpa using hk, by simp⟩
  have confNe : ∀ j, j ≠ i → (rOf (es.set k { es[k] with r := es[k].r + 1, c1 := 0, c2 := 0 }) j).conf = (rOf es j).conf := fun j hj => by
    have e := map_set_same (f := fun e : Ent => (e.v, decide ((j : Int) < e.r))) hk (y := { es[k] with r := es[k].r + 1, c1 := 0, c2 := 0 }) (by
      simp only [Prod.mk.injEq, decide_eq_decide, true_and]; omega)
    rw [rOf_conf', rOf_conf', e]
  have confEq : (rOf (es.set k { es[k] with r := es[k].r + 1, c1 := 0, c2 := 0 }) i).conf = (rOf es i).conf ++ [es[k].v] := by
    rw [rOf_conf, rOf_conf, List.set_eq_take_append_cons_drop, if_pos hk]
    have hlate : (es.drop (k + 1)).filter (fun e => decide ((i : Int) < e.r)) = [] := by
      rw [List.filter_eq_nil_iff]
      intro x hx
      obtain ⟨j, hj, rfl⟩ := List.getElem_of_mem hx
      rw [List.length_drop] at hj
      rw [List.getElem_drop]
      have := (List.pairwise_iff_getElem.1 h.mon k (k + 1 + j) hk (by omega) (by omega)).1
      simp only [decide_eq_true_eq]; omega
    have hold : es.filter (fun e => decide ((i : Int) < e.r)) = (es.take k).filter (fun e => decide ((i : Int) < e.r)) := by
      have h0 := List.filter_append (p := fun e : Ent => decide ((i : Int) < e.r)) (es.take k) (es.drop k)
      rw [List.take_append_drop, List.drop_eq_getElem_cons hk, List.filter_cons, hlate, if_neg (by simp only [decide_eq_true_eq]; omega), List.append_nil] at h0
      exact h0
    rw [List.filter_append, List.filter_cons, hlate, hold]
    rw [if_pos (by simp only [decide_eq_true_eq]; omega)]
    simp
  have actI : (rOf (es.set k { es[k] with r := es[k].r + 1, c1 := 0, c2 := 0 }) i).act = 0 ∧ (rOf (es.set k { es[k] with r := es[k].r + 1, c1 := 0, c2 := 0 }) i).good = 0 ∧ (rOf (es.set k { es[k] with r := es[k].r + 1, c1 := 0, c2 := 0 }) i).bad = 0 := rOf_none fun e he => by
    rcases hmem e he with rfl | ⟨_, h2⟩
    · simp only; omega
    · exact h2
  have other : ∀ j, j < n → j ≠ i → (j ≠ i + 1) → rOf es j = rOf (es.set k { es[k] with r := es[k].r + 1, c1 := 0, c2 := 0 }) j := fun j hj h1 h2 => by
    obtain ⟨a1, a2, a3⟩ := rOf_same (es' := es.set k { es[k] with r := es[k].r + 1, c1 := 0, c2 := 0 }) (h.uq hj) fun z hz => by
      refine (set_mem hk (fun e => ?_) (fun e => ?_)).symm
      · rw [e] at hz; simp only at hz; omega
      · rw [e] at hz; omega
    exact RS.ext' (confNe j h1).symm a1 a2 a3
  by_cases hnx : i + 1 < n
  · rw [if_pos hnx, rg_state hnx]
    have hf := hfree (by omega)
    obtain ⟨z1, z2, z3⟩ := rOf_none (es := es) (k := i + 1) fun e he hr => hf e he (by omega)
    obtain ⟨b1, b2, b3⟩ := rOf_some (k := i + 1) hnew (by simp only; omega) fun z hz hzr => by
      rcases hmem z hz with h1 | ⟨h1, _⟩
      · exact h1
      · exact absurd (by omega) (hf z h1)
    have step1 : (stateD n es).set (i + 1) { rOf es (i + 1) with act := es[k].v } = (List.range n).map fun j => if j = i then rOf es i else rOf (es.set k { es[k] with r := es[k].r + 1, c1 := 0, c2 := 0 }) j := by
      unfold stateD
      refine range_set (fun j hj hne => ?_) ?_
      · by_cases e : j = i
        · rw [if_pos e, e]
        · rw [if_neg e]; exact other j hj e hne
      · rw [if_neg (by omega)]
        exact RS.ext' (confNe _ (by omega)) b1 (b2.trans z2.symm) (b3.trans z3.symm)
    rw [step1]
    unfold stateD
    refine range_set (fun j hj hne => by rw [if_neg hne]) ?_
    exact RS.ext' confEq actI.1 actI.2.1 actI.2.2
  · rw [if_neg hnx]
    unfold stateD
    refine range_set (fun j hj hne => other j hj hne (by omega)) ?_
    exact RS.ext' confEq actI.1 actI.2.1 actI.2.2

theorem RInv.adv (h : RInv n p es) (hp : OkP p) {k : Nat} (hk : k < es.length) (hr : es[k].r < n) (hfree : es[k].r + 1 < n → ∀ e ∈ es, e.r ≠ es[k].r + 1) : RInv n p (es.set k { es[k] with r := es[k].r + 1, c1 := 0, c2 := 0 }) := by
  have hre := (h.re _ (List.getElem_mem hk)).1
  refine ⟨?_, fun e he => ?_, fun e he => ?_, ?_, fun e he => ?_, fun e he hr' => ?_⟩
  · rw [List.pairwise_iff_getElem]
    intro i j hi hj hij
    have hm : ∀ (j : Nat) (hj : j < (es.set k { es[k] with r := es[k].r + 1, c1 := 0, c2 := 0 }).length), (es.set k { es[k] with r := es[k].r + 1, c1 := 0, c2 := 0 })[j].v = (es[j]'(by simpa using hj)).v := fun j hj => by
      rw [List.getElem_set]
      split
      · rename_i e; subst e; rfl
      · rfl
    rw [hm i hi, hm j hj]
    exact List.pairwise_iff_getElem.1 h.inc i j _ _ hij
  · rcases List.mem_or_eq_of_mem_set he with he | rfl
    · exact h.pos e he
    · have := h.pos _ (List.getElem_mem hk); exact this
  · rcases List.mem_or_eq_of_mem_set he with he | rfl
    · exact h.re e he
    · simp only; omega
  · rw [List.pairwise_iff_getElem]
    intro i j hi hj hij
    rw [List.length_set] at hi hj
    have hm := List.pairwise_iff_getElem.1 h.mon i j hi hj hij
    rw [List.getElem_set, List.getElem_set]
    by_cases e1 : k = i
    · subst e1
      rw [if_pos rfl, if_neg (by omega)]
      have hne : es[j].r ≠ es[k].r := fun e => by have := hm.2 e.symm; omega
      simp only; omega
    · rw [if_neg e1]
      by_cases e2 : k = j
      · subst e2
        rw [if_pos rfl]
        have hne : es[i].r ≠ es[k].r := fun e => by have := hm.2 e; omega
        simp only
        refine ⟨by omega, fun e => ?_⟩
        rw [e]
        rcases Nat.lt_or_ge (es[k].r.toNat + 1) n with h3 | h3
        · exact absurd e (hfree (by omega) _ (List.getElem_mem hi))
        · omega
      · rw [if_neg e2]; exact hm
  · rcases List.mem_or_eq_of_mem_set he with he | rfl
    · exact h.cs e he
    · exact okC00
  · rcases List.mem_or_eq_of_mem_set he with he | rfl
    · exact h.ver e he hr'
    · exact verdict0 hp

theorem RInv.start (h : RInv n p es) (hp : OkP p) (hn : 0 < n) {v : Int} (hv : 1 ≤ v) (hno : ∀ e ∈ es, e.r ≠ 0) (hst : ¬ (es ≠ [] ∧ v ≤ lastV es)) : RInv n p (es ++ [⟨v, 0, 0, 0⟩]) := by
  have hlast : ∀ e ∈ es, e.v < v := fun e he => by
    have hne : es ≠ [] := List.ne_nil_of_mem he
    have h1 : ¬ v ≤ lastV es := fun h => hst ⟨hne, h⟩
    have hl : es.length - 1 < es.length := by have := List.length_pos_iff.2 hne; omega
    have h2 : lastV es = es[es.length - 1].v := by
      unfold lastV lastI
      rw [List.getLast?_eq_getElem?, List.length_map, List.getElem?_eq_getElem (by simpa using hl)]; simp
    obtain ⟨i, hi, rfl⟩ := List.getElem_of_mem he
    rcases Nat.lt_or_eq_of_le (show i ≤ es.length - 1 by omega) with h3 | h3
    · have := List.pairwise_iff_getElem.1 h.inc i _ hi hl h3; omega
    · subst h3; omega
  refine ⟨?_, fun e he => ?_, fun e he => ?_, ?_, fun e he => ?_, fun e he hr' => ?_⟩
  · rw [List.pairwise_append]
    refine ⟨h.inc, List.pairwise_singleton _ _, fun a ha b hb => ?_⟩
    rw [List.mem_singleton] at hb; subst hb
    exact hlast a ha
  · rw [List.mem_append, List.mem_singleton] at he
    rcases he with he | rfl
    · exact h.pos e he
    · exact hv
  · rw [List.mem_append, List.mem_singleton] at he
    rcases he with he | rfl
    · exact h.re e he
    · simp only; omega
  · rw [List.pairwise_append]
    refine ⟨h.mon, List.pairwise_singleton _ _, fun a ha b hb => ?_⟩
    rw [List.mem_singleton] at hb; subst hb
    have h1 := (h.re a ha).1
    have h2 := hno a ha
    simp only; omega
  · rw [List.mem_append, List.mem_singleton] at he
    rcases he with he | rfl
    · exact h.cs e he
    · exact okC00
  · rw [List.mem_append, List.mem_singleton] at he
    rcases he with he | rfl
    · exact h.ver e he hr'
    · exact verdict0 hp

theorem state_start (h : RInv n p es) (hn : 0 < n) {v : Int} (hno : ∀ e ∈ es, e.r ≠ 0) : (stateD n es).set 0 { rOf es 0 with act := v } = stateD n (es ++ [⟨v, 0, 0, 0⟩]) := by
  unfold stateD
  obtain ⟨z1, z2, z3⟩ := rOf_none (es := es) (k := 0) fun e he => hno e he
  refine range_set (fun j hj hne => ?_) ?_
  · rw [rOf_app]; unfold put1
    rw [if_neg (by simp only; omega), if_neg (by simp only; omega)]
  · rw [rOf_app]; unfold put1
    rw [if_neg (by simp), if_pos (by simp)]
    exact RS.ext' rfl rfl z2.symm z3.symm

/-- All versions are confirmed in the first ring, but for the active one. -/
theorem conf0 (h : RInv n p es) (hno : ∀ e ∈ es, e.r ≠ 0) : (rOf es 0).conf = es.map (·.v) := by
  rw [rOf_conf]
  congr 1
  rw [List.filter_eq_self]
  intro e he
  have := (h.re e he).1
  have := hno e he
  simp only [decide_eq_true_eq]; omega

theorem mal_iff {e : Ev} : unusedB e = true ↔ (malB e ∨ (e.kind ≠ 2 ∧ (e.g ≠ 0 ∨ e.b ≠ 0))) := by
  unfold unusedB malB
  simp only [Bool.or_eq_true, Bool.and_eq_true, Bool.not_eq_true', beq_iff_eq, bne_iff_ne, Bool.and_true, Bool.or_eq_false_iff, Bool.and_eq_false_iff, beq_eq_false_iff_ne]
  constructor
  · rintro ((⟨h1, h2⟩ | ⟨h1, h2⟩) | ⟨h1, h2⟩)
    · exact .inl (.inl ⟨h1, h2⟩)
    · exact .inl (.inr ⟨by omega, h2⟩)
    · exact .inr ⟨h1, h2⟩
  · rintro ((⟨h1, h2⟩ | ⟨h1, h2⟩) | ⟨h1, h2⟩)
    · exact .inl (.inl ⟨h1, h2⟩)
    · exact .inl (.inr ⟨by omega, h2⟩)
    · exact .inr ⟨h1, h2⟩

/-- Every step does the same to both. -/
theorem sim (h : RInv n p es) (hp : OkP p) (hn : 0 < n) (e : Ev) : (stepR p (stateD n es) e).1 = (stepD p n es e).1 ∧ ((stepR p (stateD n es) e).1 = 0 → (stepR p (stateD n es) e).2 = stateD n (stepD p n es e).2 ∧ RInv n p (stepD p n es e).2) := by
  have same : ∀ c : Int, c ≠ 0 → ((c, stateD n es) : Int × List RS).1 = ((c, es) : Int × List Ent).1 ∧ (((c, stateD n es) : Int × List RS).1 = 0 → ((c, stateD n es) : Int × List RS).2 = stateD n ((c, es) : Int × List Ent).2 ∧ RInv n p ((c, es) : Int × List Ent).2) := fun c hc => ⟨rfl, fun h => absurd h hc⟩
  unfold stepR stepD
  by_cases hk : e.kind < 1 ∨ e.kind > 4
  · rw [if_pos hk, if_pos hk]; exact same 4 (by decide)
  rw [if_neg hk, if_neg hk]
  by_cases hu : unusedB e = true
  · rw [if_pos hu]
    rcases mal_iff.1 hu with h1 | h1
    · rw [if_pos h1]; exact same 5 (by decide)
    · rw [if_pos h1]
      split <;> exact same 5 (by decide)
  rw [if_neg hu, if_neg fun h => hu (mal_iff.2 (.inl h)), if_neg fun h => hu (mal_iff.2 (.inr h)), state_len]
  by_cases hr : e.ring < 0 ∨ e.ring ≥ (n : Int)
  · rw [if_pos hr, if_pos hr]; exact same 3 (by decide)
  rw [if_neg hr, if_neg hr]
  have hmal : ¬ malB e := fun h => hu (mal_iff.2 (.inl h))
  have er : ((e.ring.toNat : Nat) : Int) = e.ring := by omega
  have hri : e.ring.toNat < n := by omega
  by_cases k1 : e.kind = 1
  · rw [if_pos k1, if_neg (by omega), if_pos k1]
    have hr0 : e.ring = 0 := Decidable.byContradiction fun h => hmal (.inl ⟨.inl k1, h⟩)
    unfold startR
    by_cases hv : e.ver < 1 ∨ e.ver > 1000000000
    · rw [if_pos hv, if_pos hv]; exact same 3 (by decide)
    rw [if_neg hv, if_neg hv, rg_state hn]
    have ha := act_iff h (r := 0) (by omega) (by omega)
    rw [hr0]
    rcases ha with ⟨a1, a2, _, _, a5⟩ | ⟨hk, a1, a2, a3, a4, a5, a6⟩
    · rw [if_neg (by rw [show (0 : Int).toNat = 0 from rfl] at a2; rw [a2]; decide), if_neg (by omega : ¬ actD es 0 ≥ 0)]
      rw [conf0 h a5]
      have hs : (e.ver ≤ lastI (es.map (·.v))) ↔ (es ≠ [] ∧ e.ver ≤ lastV es) := by
        unfold lastV
        constructor
        · intro hle
          refine ⟨fun hnil => ?_, hle⟩
          subst hnil
          have : lastI (([] : List Ent).map (·.v)) = 0 := rfl
          omega
        · exact fun h => h.2
      by_cases hst : e.ver ≤ lastI (es.map (·.v))
      · rw [if_pos hst, if_pos (hs.1 hst)]; exact same 16 (by decide)
      · rw [if_neg hst, if_neg fun h => hst (hs.2 h)]
        refine ⟨rfl, fun _ => ⟨?_, ?_⟩⟩
        · have := state_start (v := e.ver) h hn a5
          exact this
        · exact h.start hp hn (by omega) a5 fun h => hst (hs.2 h)
    · have a6 : (rOf es 0).act ≠ 0 := a6
      rw [if_pos a6, if_pos a1]; exact same 15 (by decide)
  rw [if_neg k1]
  by_cases k4 : e.kind = 4
  · rw [if_neg (by omega), if_neg (by omega), if_pos k4]
    by_cases hany : es.any (fun x => x.v == e.ver) = true
    · obtain ⟨x, hx, hxv⟩ := List.any_eq_true.1 hany
      have hxv : x.v = e.ver := by simpa using hxv
      have hit : (stateD n es).any (hit e.ver) = true := (hit_iff h hn e.ver).2 ⟨x, hx, hxv⟩
      rw [if_pos hit, if_pos hany]
      have hfi : es.findIdx (fun x => x.v == e.ver) < es.length := List.findIdx_lt_length_of_exists ⟨x, hx, by simpa using hxv⟩
      have hfv : es[es.findIdx (fun x => x.v == e.ver)].v = e.ver := by
        have := List.findIdx_getElem (w := hfi)
        simpa using this
      have hpos := h.pos x hx
      rw [erase_dropV h hfi, hfv]
      exact ⟨rfl, fun _ => ⟨abort_state h (by omega), h.drop _⟩⟩
    · have hit : ¬ (stateD n es).any (hit e.ver) = true := fun hh => by
        obtain ⟨x, hx, hxv⟩ := (hit_iff h hn e.ver).1 hh
        exact hany (List.any_eq_true.2 ⟨x, hx, by simpa using hxv⟩)
      rw [if_neg hit, if_neg hany]; exact same 6 (by decide)
  rw [if_neg k4, if_neg k1]
  have k3' : e.kind ≠ 2 → e.kind = 3 := fun h => by omega
  have ha := act_iff h (r := e.ring) (by omega) (by omega)
  by_cases k2 : e.kind = 2
  · rw [if_pos k2, if_pos k2]
    unfold reportR
    rw [rg_state hri]
    by_cases ho : okC e.g e.b
    · rw [if_neg (show ¬ ¬ okC e.g e.b from fun h => h ho), if_neg (show ¬ (e.kind = 2 ∧ ¬ okC e.g e.b) from fun h => h.2 ho)]
      rcases ha with ⟨a1, a2, _, _, a5⟩ | ⟨hk, a1, a2, a3, a4, a5, a6⟩
      · rw [if_pos a2, if_pos a1]; exact same 11 (by decide)
      · rw [if_neg a6, if_neg (show ¬ actD es e.ring < 0 by omega), eg_eq hk, a4, a5, a3]
        generalize hkk : (actD es e.ring).toNat = k at hk a2 a3 a4 a5 ⊢
        have hrk : es[k].r < n := by omega
        by_cases hs : okC (es[k].c1 + e.g) (es[k].c2 + e.b)
        · rw [if_neg (show ¬ ¬ okC (es[k].c1 + e.g) (es[k].c2 + e.b) from fun h => h hs), if_neg (show ¬ ¬ okC (es[k].c1 + e.g) (es[k].c2 + e.b) from fun h => h hs)]
          by_cases hv : verdictI p.b1 p.b2 (es[k].c1 + e.g) (es[k].c2 + e.b) p.need p.pm = 3
          · rw [if_pos hv, if_pos hv, erase_dropV h hk]
            refine ⟨rfl, fun _ => ⟨?_, h.drop _⟩⟩
            have hpos := h.pos _ (List.getElem_mem hk)
            rw [← abort_state h (by omega)]
            simp only
            rw [List.map_set]
            have hget : ((stateD n es).map (abort1 es[k].v))[e.ring.toNat]? = some (abort1 es[k].v (rOf es e.ring.toNat)) := by
              unfold stateD; simp [hri]
            have hsame : abort1 es[k].v { rOf es e.ring.toNat with good := es[k].c1 + e.g, bad := es[k].c2 + e.b } = abort1 es[k].v (rOf es e.ring.toNat) := by
              have hA : hitA es[k].v (rOf es e.ring.toNat) = true := by unfold hitA; exact decide_eq_true ⟨by omega, a3⟩
              have hA2 : hitA es[k].v { rOf es e.ring.toNat with good := es[k].c1 + e.g, bad := es[k].c2 + e.b } = true := hA
              unfold abort1
              simp only [hA, hA2, if_true]
            apply List.ext_getElem?
            intro j
            rw [List.getElem?_set]
            split
            · rename_i e1; subst e1
              rw [if_pos (by simp [state_len, hri]), hget]
              exact congrArg some hsame
            · rfl
          · rw [if_neg hv, if_neg hv]
            refine ⟨rfl, fun _ => ⟨?_, h.setCnt hk hs hv⟩⟩
            have := set_cnt h hk hrk (es[k].c1 + e.g) (es[k].c2 + e.b)
            rw [a2] at this
            exact this
        · rw [if_pos hs, if_pos hs]; exact same 10 (by decide)
    · rw [if_pos ho, if_pos ⟨k2, ho⟩]; exact same 3 (by decide)
  rw [if_neg k2, if_neg (show ¬ (e.kind = 2 ∧ ¬ okC e.g e.b) from fun h => k2 h.1), if_pos (k3' k2), if_neg k2]
  unfold advanceR
  rw [rg_state hri]
  rcases ha with ⟨a1, a2, _, _, a5⟩ | ⟨hk, a1, a2, a3, a4, a5, a6⟩
  · rw [if_pos a2, if_pos a1]; exact same 11 (by decide)
  rw [if_neg a6, if_neg (show ¬ actD es e.ring < 0 by omega), eg_eq hk, a4, a5]
  generalize hkk : (actD es e.ring).toNat = k at hk a2 a3 a4 a5 ⊢
  have hrk : es[k].r < n := by omega
  by_cases hv : verdictI p.b1 p.b2 es[k].c1 es[k].c2 p.need p.pm ≠ 2
  · rw [if_pos hv, if_pos hv]; exact same 11 (by decide)
  rw [if_neg hv, if_neg hv, state_len]
  have hnext : ¬ (e.ring.toNat + 1 < n ∧ (rg (stateD n es) (e.ring.toNat + 1)).act ≠ 0) → ¬ (e.ring + 1 < n ∧ actD es (e.ring + 1) ≥ 0) → (0, (if e.ring.toNat + 1 < n then (stateD n es).set (e.ring.toNat + 1) { rg (stateD n es) (e.ring.toNat + 1) with act := (rOf es e.ring.toNat).act } else stateD n es).set e.ring.toNat ⟨(rOf es e.ring.toNat).conf ++ [(rOf es e.ring.toNat).act], 0, 0, 0⟩).2 = stateD n (es.set k { es[k] with r := e.ring + 1, c1 := 0, c2 := 0 }) ∧ RInv n p (es.set k { es[k] with r := e.ring + 1, c1 := 0, c2 := 0 }) := fun _ hf => by
    have hfree : es[k].r + 1 < n → ∀ x ∈ es, x.r ≠ es[k].r + 1 := fun hlt x hx hxr => by
      rw [a2] at hlt hxr
      rcases act_iff h (r := e.ring + 1) (by omega) (by omega) with ⟨_, _, _, _, b5⟩ | ⟨_, b1, _⟩
      · exact b5 x hx hxr
      · exact hf ⟨hlt, b1⟩
    have h1 := set_adv h hk hrk hfree
    have h2 := h.adv hp hk hrk hfree
    rw [state_len] at h1
    simp only [a2] at h1 h2
    rw [a3]
    exact ⟨h1, h2⟩
  by_cases hlt : e.ring + 1 < n
  · rw [rg_state (by omega : e.ring.toNat + 1 < n)] at hnext ⊢
    rcases act_iff h (r := e.ring + 1) (by omega) (by omega) with ⟨b1, b2, _, _, b5⟩ | ⟨hk2, b1, _, _, _, _, b6⟩
    · rw [show (e.ring + 1).toNat = e.ring.toNat + 1 by omega] at b2
      have c1 : ¬ (e.ring.toNat + 1 < n ∧ (rOf es (e.ring.toNat + 1)).act ≠ 0) := fun h => h.2 b2
      have c2 : ¬ (e.ring + 1 < n ∧ actD es (e.ring + 1) ≥ 0) := fun h => by omega
      rw [if_neg c1, if_neg c2]
      exact ⟨rfl, fun _ => hnext c1 c2⟩
    · rw [show (e.ring + 1).toNat = e.ring.toNat + 1 by omega] at b6
      rw [if_pos ⟨by omega, b6⟩, if_pos ⟨hlt, b1⟩]; exact same 15 (by decide)
  · have c1 : ¬ (e.ring.toNat + 1 < n ∧ (rg (stateD n es) (e.ring.toNat + 1)).act ≠ 0) := fun h => by omega
    have c2 : ¬ (e.ring + 1 < n ∧ actD es (e.ring + 1) ≥ 0) := fun h => hlt h.1
    rw [if_neg c1, if_neg c2]
    exact ⟨rfl, fun _ => hnext c1 c2⟩

end Go.RM

