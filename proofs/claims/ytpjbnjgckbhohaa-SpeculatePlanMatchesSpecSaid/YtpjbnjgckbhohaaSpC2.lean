import Derived.Test.YtpjbnjgckbhohaaSpC
/-
  speculate: results, what is decided; as contracts, the program's and the document's.
-/
namespace Go.RM
set_option linter.unusedSimpArgs false
set_option linter.unusedVariables false
namespace Sp
variable {F : Nat → Option RFunc}

def confl (x y : TR) : Bool := decide (x.r = y.r) && (x.ok != y.ok)
def resL (n : Int) : List TR → Int → List TR → Int × Int
  | _, _, [] => (0, 0)
  | pre, i, x :: l => if runE n x.r ≠ 0 then (runE n x.r, i) else if pre.any (confl x) = true then (19, i) else resL n (pre ++ [x]) (i + 1) l
def resE (n : Int) (l : List TR) : Int × Int := if n < 0 ∨ n > 8 then (3, -2) else if l.length > 16 then (2, -1) else resL n [] 0 l

theorem resx_c {f n1 : Nat} (hF : F f = some (rf_speculate_resultsx1 n1)) (h1 : SameC F n1) {fl : Nat} {H : Heap} {b : Nat} {x a : TR} {v w : AV} (hb : Box H b (trC v x)) (hv : Ints H v x.r.w) (hw : Ints H w a.r.w) :
    Ret F fl f [.agg (trC w a), .ptr b 0] H fun r H' => r = .bool (confl x a) ∧ Keep H.length H H' := by
  refine v_speculate_resultsx1 hF _ _ _ _ ?_
  intro H4 d4
  have k4 := d4.keep
  have b4 := hb.frame (k4.get _ hb.lt)
  refine ⟨b, 0, rfl, _, _, b4.loadN (o := 0) (n := 2) (by simp), ?_⟩
  refine h1 (hv.keep k4) (hw.keep k4) fun H10 k10 => ⟨_, rfl, fun ht => ?_, fun hf => ?_⟩
  · have k := k4.call k10
    have b10 := hb.frame (k.get _ hb.lt)
    refine ⟨_, b10.load (o := 0 + 2) rfl, ?_, k⟩
    unfold confl
    rw [ht]; rfl
  · refine ⟨?_, k4.call k10⟩
    unfold confl
    rw [Bool.eq_false_iff.2 hf]; rfl

abbrev ResC (F : Nat → Option RFunc) (f : Nat) : Prop := ∀ {fl H Q v} {n : Int} {l : List TR}, Arr tTR H v l → fl ≤ H.length → (∀ H', Keep H.length H H' → Q (fp (resE n l)) H') → Ret F fl f [i64 n, v] H Q
theorem results_c {f n1 n2 n3 n4 : Nat} (hF : F f = some (rf_speculate_results n1 n2 n3)) (h1 : RunCodeC F n1) (h2 : ContainsRC F n3) (h3 : F n2 = some (rf_speculate_resultsx1 n4)) (h4 : SameC F n4) : ResC F f := fun {fl H Q v n l} hv hfl hq => by
  refine v_speculate_results hF _ _ ?_
  intro H2 d2
  have k2 := d2.keep
  have v2 := hv.keep k2
  unfold resE at hq
  refine ⟨fun h => ?_, fun h => ⟨_, v2.len, fun h16 => ?_, fun h16 => ⟨_, v2.len, ?_⟩⟩⟩
  · rw [if_pos h] at hq; exact hq H2 k2
  · rw [if_neg h, if_pos (by omega)] at hq; exact hq H2 k2
  · rw [if_neg h, if_neg (by omega)] at hq
    refine ⟨fun m _ _ i H' => ∃ j : Nat, i = j ∧ j + m = l.length ∧ Keep H.length H H' ∧ resL n [] 0 l = resL n (l.take j) j (l.drop j), l.length, ⟨0, rfl, by omega, k2, rfl⟩, ?_⟩
    rintro m _ _ _ H17 ⟨j, rfl, hm, k17, he⟩
    refine ⟨fun hlt => ?_, fun hge => ?_⟩
    · have hj : j < l.length := by omega
      rw [List.drop_eq_getElem_cons hj, resL] at he
      obtain ⟨w, g1, _, g2⟩ := tr_get (hv.keep k17) hj
      refine ⟨_, _, _, g1, ?_⟩
      intro b22 H23 n23
      have e22 := n23.b_eq
      have k23 := k17.call n23.keep
      obtain ⟨H24, p1, p2, p3⟩ := n23.box.put (fl := fl) (v := .agg (trC w l[j])) (n := 3) (o := 0) rfl (by simp) (by
        show (true && (w.scalar && (true && true))) = true
        rw [g2.scal.2]; rfl) (by rw [e22]; exact k17.fl hfl)
      have p2' : Box H24 b22 (trC w l[j]) := p2
      refine ⟨H24, p1, _, _, p2'.loadN (o := 0) (n := 2) (by simp), ?_⟩
      have hl17 : H17.length ≤ H23.length := n23.keep.len
      have k24' : Keep H17.length H17 H24 := n23.keep.tr (p3.keep (by omega) hl17)
      have k24 := k17.call k24'
      have w24 := g2.keep k24'
      refine h1 w24 fun H28 k28' => ⟨_, rfl, fun hc => ?_, fun hc => ?_⟩
      · rw [if_pos hc] at he
        have := hq H28 (k24.call k28')
        rw [he] at this; exact this
      · rw [if_neg hc] at he
        have k28 := k24.call k28'
        obtain ⟨s30, u1, u2⟩ := (hv.keep k28).upto (n := j) (by omega)
        refine ⟨s30, u1, ?_⟩
        have b28 := p2'.frame (k28'.get _ p2'.lt)
        have w28 := w24.keep k28'
        refine h2 (p := confl l[j]) u2 (fun w' a H' ha hk hw' => resx_c h3 h4 (b28.frame (hk.get _ b28.lt)) (w28.keep hk) hw') fun H32 k32' => ⟨_, rfl, fun ht => ?_, fun hf => ⟨m - 1, by omega, j + 1, wsucc hj hv.small, by omega, k28.call k32', ?_⟩⟩
        · rw [if_pos ht] at he
          have := hq H32 (k28.call k32')
          rw [he] at this; exact this
        · rw [if_neg hf] at he
          rw [List.take_succ_eq_append_getElem hj]; exact he
    · rw [List.drop_eq_nil_of_le (by omega), resL] at he
      rw [he] at hq
      exact hq H17 k17

/-- What is decided, from what has been decided on. -/
def hitP (a b : List Int) (x : TR) : Bool := decide (x.r = ⟨((a.length + b.length : Nat) : Int), a⟩)
def decS (l : List TR) : Nat → List Int → List Int → List Int × List Int
  | 0, a, b => (a, b)
  | m + 1, a, b => match l.find? (hitP a b) with
    | none => (a, b)
    | some x => if x.ok then decS l m (a ++ [((a.length + b.length : Nat) : Int)]) b else decS l m a (b ++ [((a.length + b.length : Nat) : Int)])
def decR (n : Int) (l : List TR) : List Int × List Int := decS l n.toNat [] []

theorem fidx_find {p : TR → Bool} {l : List TR} : (fidx p l = -1 ∧ l.find? p = none) ∨ ∃ i : Nat, ∃ h : i < l.length, fidx p l = i ∧ l.find? p = some l[i] := by
  unfold fidx
  cases h : l.findIdx? p with
  | none =>
    rw [List.findIdx?_eq_none_iff] at h
    refine .inl ⟨rfl, List.find?_eq_none.2 fun x hx => by simp [h x hx]⟩
  | some i =>
    obtain ⟨h1, h2, h3⟩ := List.findIdx?_eq_some_iff_getElem.1 h
    refine .inr ⟨i, h1, rfl, ?_⟩
    rw [List.find?_eq_some_iff_getElem]
    exact ⟨h2, i, h1, rfl, fun j hj => by have := h3 j hj; simpa using this⟩

/-- As Decide answers it. -/
def decA (n : Int) (l : List TR) : List Int × List Int := if resE n l = (0, 0) then decR n l else ([], [])
abbrev DecC (F : Nat → Option RFunc) (f : Nat) : Prop := ∀ {fl H Q v} {n : Int} {l : List TR}, Arr tTR H v l → fl ≤ H.length →
  (∀ a b H', Keep H.length H H' → Own H.length H' 1 a (decA n l).1.length (ints (decA n l).1) → Own H.length H' 1 b (decA n l).2.length (ints (decA n l).2) → Q (.tuple [a, b, fp (resE n l)]) H') → Ret F fl f [i64 n, v] H Q

theorem own_less {n m e k : Nat} {H : Heap} {v : AV} {cs : List AV} (h : Own n H e v k cs) (hm : m ≤ n) : Own m H e v k cs := by
  rcases h.out with g | ⟨b, off, lim, kb, h1, h2, h3⟩
  · exact ⟨h.small, .inl g⟩
  · exact ⟨h.small, .inr ⟨b, off, lim, kb, h1, Nat.le_trans hm h2, h3⟩⟩
theorem own_ints {n : Nat} {H : Heap} {v : AV} {l : List Int} (h : Own n H 1 v l.length (ints l)) : Ints H v l := ⟨⟨l.map fun x => [i64 x], All2.ints l, by rw [← Row.flat]; exact h.sl⟩⟩

theorem decx_c {f n1 : Nat} (hF : F f = some (rf_speculate_Decidex1 n1)) (h1 : SameC F n1) {fl : Nat} {H : Heap} {b8 b25 : Nat} {x : TR} {a b : List Int} {lv w : AV} (hb : Cell H b25 (i64 ((a.length + b.length : Nat) : Int))) (hc : Cell H b8 lv) (hl : Ints H lv a) (hw : Ints H w x.r.w) :
    Ret F fl f [.agg (trC w x), .ptr b25 0, .ptr b8 0] H fun r H' => r = .bool (hitP a b x) ∧ Keep H.length H H' := by
  refine v_speculate_Decidex1 hF _ _ _ _ _ ?_
  intro H5 d5
  have k5 := d5.keep
  refine ⟨b25, 0, rfl, _, (hb.keep k5).load, b8, 0, rfl, _, (hc.keep k5).load, hl.scal, ?_⟩
  exact h1 (a := x.r) (b := ⟨((a.length + b.length : Nat) : Int), a⟩) (hw.keep k5) (hl.keep k5) fun H14 k14 => ⟨_, rfl, rfl, k5.call k14⟩

theorem decide_c {f n1 n2 n3 n4 : Nat} (hF : F f = some (rf_speculate_Decide n1 n2 n3)) (h1 : ResC F n1) (h2 : F n2 = some (rf_speculate_Decidex1 n4)) (h3 : IndexRC F n3) (h4 : SameC F n4) : DecC F f := fun {fl H Q v n l} hv hfl hq => by
  refine v_speculate_Decide hF _ _ ?_
  intro H2 d2
  have k2 := d2.keep
  refine h1 (hv.keep k2) (k2.fl hfl) fun H5 k5' => ⟨_, _, rfl, ?_⟩
  have k5 := k2.call k5'
  intro H7 d7
  have k7 := k5.call d7.keep
  have h7 := k7.len
  unfold decA at hq
  refine ⟨fun hn => ?_, fun hn => ?_⟩
  · have : resE n l ≠ (0, 0) := fun e => hn ⟨by rw [e], by rw [e], trivial⟩
    rw [if_neg this] at hq
    exact hq _ _ H7 k7 Own.nil Own.nil
  · obtain ⟨z1, z2, _⟩ := Classical.not_not.1 hn
    have hz : resE n l = (0, 0) := Prod.ext z1 z2
    rw [if_pos hz, hz] at hq
    have hn8 : 0 ≤ n ∧ n ≤ 8 := by
      unfold resE at hz
      split at hz
      · simp at hz
      · omega
    intro b8 H9 n9
    have e8 := n9.b_eq
    have l8 := n9.lt
    unfold decR at hq
    refine ⟨fun m _ _ v17 rv H' => ∃ (c : Nat) (lv : AV) (a b : List Int), v17 = c ∧ c + m = n.toNat ∧ Keep H7.length H7 H' ∧ Cell H' b8 lv ∧ Own H7.length H' 1 lv a.length (ints a) ∧ Own H7.length H' 1 rv b.length (ints b) ∧ (∀ x, At lv x → x ≠ b8 ∧ ¬ At rv x) ∧ (∀ x, At rv x → x ≠ b8) ∧ a.length + b.length = c ∧ decS l n.toNat [] [] = decS l m a b, n.toNat,
      ⟨0, .empty, [], [], rfl, by omega, n9.keep, n9.cell, Own.nil, Own.nil, fun x hx => absurd hx at_empty, fun x hx => absurd hx at_empty, rfl, rfl⟩, ?_⟩
    rintro m _ _ _ rv H24 ⟨c, lv, a, b, rfl, hm, k24, c8, oa, ob, dj, dj2, hab, he⟩
    have k24' := k7.call k24
    refine ⟨fun hlt => ?_, fun hge => ?_⟩
    · obtain ⟨m', rfl⟩ : ∃ m', m = m' + 1 := ⟨m - 1, by omega⟩
      rw [decS] at he
      intro b25 H26 n26
      have e25 := n26.b_eq
      obtain ⟨H27, p1, p2, p3⟩ := n26.cell.put (fl := fl) (w := i64 (c : Int)) (by rw [e25]; exact k24'.fl hfl) ⟨rfl, rfl⟩
      have k27 : Keep H24.length H24 H27 := n26.keep.tr (p3.keep (by omega) n26.keep.len)
      have c8' := c8.keep k27
      have oa' := oa.keep k27
      have ob' := ob.keep k27
      rw [← hab] at p2
      refine ⟨H27, p1, ?_⟩
      refine h3 (p := hitP a b) (hv.keep (k24'.call k27)) (fun w x H' hx hk hw => decx_c h2 h4 (p2.keep hk) (c8'.keep hk) ((own_ints oa').keep hk) hw) fun H29 k29 => ⟨_, rfl, fun hneg => ?_, fun hpos => ?_⟩
      · rcases fidx_find (p := hitP a b) (l := l) with ⟨_, f2⟩ | ⟨i, hi, f1, _⟩
        · rw [f2] at he
          rw [he] at hq
          refine ⟨_, (c8'.keep k29).load, hq _ _ H29 ((k24'.call k27).call k29) (own_less (oa'.keep k29) h7) (own_less (ob'.keep k29) h7)⟩
        · omega
      · rcases fidx_find (p := hitP a b) (l := l) with ⟨f1, _⟩ | ⟨i, hi, f1, f2⟩
        · omega
        · rw [f2] at he
          simp only at he
          rw [f1]
          have k29' := (k24'.call k27).call k29
          have c29 := c8'.keep k29
          have oa29 := oa'.keep k29
          have ob29 := ob'.keep k29
          have p29 := p2.keep k29
          obtain ⟨_, _, o1, _⟩ := tr_get (hv.keep k29') hi
          have kb : Keep H7.length H7 H29 := (k24.call k27).call k29
          refine ⟨_, o1, fun ht => ?_, fun hf => ?_⟩
          · rw [if_pos ht] at he
            refine ⟨_, c29.load, _, p29.load, ?_⟩
            intro b36 H37 n36
            have c37 := c29.keep n36.keep
            have oa37 := oa29.keep n36.keep
            have ob37 := ob29.keep n36.keep
            have kb37 := kb.call n36.keep
            obtain ⟨a38, H39, q1, q2, q3, q4, q5⟩ := Own.push (fl := fl) (bytes := 8) (e := 1) (by decide) oa37 (n36.sl (n := 1) rfl) (Nat.le_trans kb37.low kb37.len) (k7.fl hfl) rfl (by omega) (by decide)
            have c39 : Cell H39 b8 lv := by
              obtain ⟨k, x1, x2, x3⟩ := c37
              exact ⟨k, by rw [q4 b8 (get_lt x1) fun ha => (dj b8 ha).1 rfl]; exact x1, x2, x3⟩
            obtain ⟨H40, r1, r2, r3⟩ := c39.put (fl := fl) (w := a38) (by rw [e8]; exact k7.fl hfl) q2.scal
            have hpa : Own H7.length H39 1 a38 (a ++ [((a.length + b.length : Nat) : Int)]).length (ints (a ++ [((a.length + b.length : Nat) : Int)])) := by simpa [ints] using q2
            have hlt8 : b8 < H37.length := c37.lt
            have hnb : ∀ x, At a38 x → x ≠ b8 := fun x hx e => by
              rcases q5 x hx with h | h
              · exact (dj x h).1 e
              · omega
            refine ⟨a38, H39, q1, H40, r1, m', by omega, c + 1, a38, a ++ [((a.length + b.length : Nat) : Int)], b, wsucc (n := n.toNat) (by omega) (by omega), by omega, ?_, r2, hpa.frame fun x hx => r3.get x (hnb x hx), ob37.frame fun x hx => ?_, fun x hx => ⟨hnb x hx, fun hx2 => ?_⟩, dj2, by simp; omega, he⟩
            · refine ⟨kb.low, by rw [r3.len]; exact Nat.le_trans kb37.len q3, fun x hx => ?_⟩
              have hx37 : x < H37.length := Nat.lt_of_lt_of_le hx kb37.len
              rw [r3.get x (by omega), q4 x hx37 fun ha => by have := (oa37.at_lt ha).1; omega, kb37.get x hx]
            · rw [r3.get x (dj2 x hx), q4 x (ob37.at_lt hx).2 fun ha => (dj x ha).2 hx]
            · rcases q5 x hx with h | h
              · exact (dj x h).2 hx2
              · have := (ob37.at_lt hx2).2; omega
          · rw [if_neg hf] at he
            refine ⟨_, p29.load, ?_⟩
            intro b43 H44 n43
            have c37 := c29.keep n43.keep
            have oa37 := oa29.keep n43.keep
            have ob37 := ob29.keep n43.keep
            have kb37 := kb.call n43.keep
            obtain ⟨a45, H46, q1, q2, q3, q4, q5⟩ := Own.push (fl := fl) (bytes := 8) (e := 1) (by decide) ob37 (n43.sl (n := 1) rfl) (Nat.le_trans kb37.low kb37.len) (k7.fl hfl) rfl (by omega) (by decide)
            have c39 : Cell H46 b8 lv := by
              obtain ⟨k, x1, x2, x3⟩ := c37
              exact ⟨k, by rw [q4 b8 (get_lt x1) fun ha => dj2 b8 ha rfl]; exact x1, x2, x3⟩
            have hpb : Own H7.length H46 1 a45 (b ++ [((a.length + b.length : Nat) : Int)]).length (ints (b ++ [((a.length + b.length : Nat) : Int)])) := by simpa [ints] using q2
            have hlt8 : b8 < H44.length := c37.lt
            refine ⟨a45, H46, q1, m', by omega, c + 1, lv, a, b ++ [((a.length + b.length : Nat) : Int)], wsucc (n := n.toNat) (by omega) (by omega), by omega, ?_, c39, oa37.frame fun x hx => q4 x (oa37.at_lt hx).2 (dj x hx).2, hpb, fun x hx => ⟨(dj x hx).1, fun hx2 => ?_⟩, fun x hx e => ?_, by simp; omega, he⟩
            · refine ⟨kb.low, Nat.le_trans kb37.len q3, fun x hx => ?_⟩
              have hx37 : x < H44.length := Nat.lt_of_lt_of_le hx kb37.len
              rw [q4 x hx37 fun ha => by have := (ob37.at_lt ha).1; omega, kb37.get x hx]
            · rcases q5 x hx2 with h | h
              · exact (dj x hx).2 h
              · have := (oa37.at_lt hx).2; omega
            · rcases q5 x hx with h | h
              · exact dj2 x h e
              · omega
    · have : m = 0 := by omega
      subst this
      rw [decS] at he
      rw [he] at hq
      exact ⟨_, c8.load, hq _ _ H24 k24' (own_less oa h7) (own_less ob h7)⟩

end Sp
end Go.RM

