import Derived.Test.YtceemplcjkjphaaDeS5
/-
  The document's simulation in the heap: a block of 27 cells, the sent values and the results.
-/
namespace Go.RM
set_option linter.unusedSimpArgs false
set_option linter.unusedVariables false
namespace De
variable {F : Nat → Option RFunc}

structure Wd where
  sent : List (List Int)
  taken : List Nat
  next : List Nat
  since : List Int
  seen : List Bool
  tick : Int
  res : List Res

inductive Wh where
  | w | sent (i : Nat) | res
  deriving DecidableEq

abbrev nats (l : List Nat) : List AV := l.map fun (x : Nat) => i64 (x : Int)
def wcell (cv sv : AV) (svs : List AV) (tk nx : List Nat) (si : List Int) (se : List Bool) (t : Int) (rv : AV) : List AV :=
  [cv, sv] ++ (svs ++ (nats tk ++ (nats nx ++ (ints si ++ (se.map AV.bool ++ [i64 t, rv])))))

/-- The lengths of the fields. -/
structure Lens (svs : List AV) (tk nx : List Nat) (si : List Int) (se : List Bool) : Prop where
  sv : svs.length = 4
  tk : tk.length = 4
  nx : nx.length = 5
  si : si.length = 5
  se : se.length = 5

section
variable {cv sv rv : AV} {svs : List AV} {tk nx : List Nat} {si : List Int} {se : List Bool} {t : Int}

theorem wcell_len (l : Lens svs tk nx si se) : (wcell cv sv svs tk nx si se t rv).length = 27 := by
  simp [wcell, l.sv, l.tk, l.nx, l.si, l.se]
theorem wcell_sent (l : Lens svs tk nx si se) {c : Nat} (hc : c < 4) : (wcell cv sv svs tk nx si se t rv)[2 + c]? = svs[c]? := by
  have := l.sv
  unfold wcell
  rw [List.getElem?_append_right (by simp), List.getElem?_append_left (by simp; omega)]
  congr 1; simp
theorem wcell_tk (l : Lens svs tk nx si se) {c : Nat} (hc : c < 4) : (wcell cv sv svs tk nx si se t rv)[6 + c]? = (nats tk)[c]? := by
  have := l.sv; have := l.tk
  unfold wcell
  rw [List.getElem?_append_right (by simp; omega), List.getElem?_append_right (by simp; omega), List.getElem?_append_left (by simp; omega)]
  congr 1; simp; omega
theorem wcell_nx (l : Lens svs tk nx si se) {p : Nat} (hp : p < 5) : (wcell cv sv svs tk nx si se t rv)[10 + p]? = (nats nx)[p]? := by
  have := l.sv; have := l.tk; have := l.nx
  unfold wcell
  rw [List.getElem?_append_right (by simp; omega), List.getElem?_append_right (by simp; omega), List.getElem?_append_right (by simp; omega), List.getElem?_append_left (by simp; omega)]
  congr 1; simp; omega
theorem wcell_si (l : Lens svs tk nx si se) {p : Nat} (hp : p < 5) : (wcell cv sv svs tk nx si se t rv)[15 + p]? = (ints si)[p]? := by
  have := l.sv; have := l.tk; have := l.nx; have := l.si
  unfold wcell
  rw [List.getElem?_append_right (by simp; omega), List.getElem?_append_right (by simp; omega), List.getElem?_append_right (by simp; omega), List.getElem?_append_right (by simp; omega), List.getElem?_append_left (by simp; omega)]
  congr 1; simp; omega
theorem wcell_se (l : Lens svs tk nx si se) {p : Nat} (hp : p < 5) : (wcell cv sv svs tk nx si se t rv)[20 + p]? = (se.map AV.bool)[p]? := by
  have := l.sv; have := l.tk; have := l.nx; have := l.si; have := l.se
  unfold wcell
  rw [List.getElem?_append_right (by simp; omega), List.getElem?_append_right (by simp; omega), List.getElem?_append_right (by simp; omega), List.getElem?_append_right (by simp; omega), List.getElem?_append_right (by simp; omega), List.getElem?_append_left (by simp; omega)]
  congr 1; simp; omega
theorem wcell_t (l : Lens svs tk nx si se) : (wcell cv sv svs tk nx si se t rv)[25]? = some (i64 t) := by
  have := l.sv; have := l.tk; have := l.nx; have := l.si; have := l.se
  unfold wcell
  rw [List.getElem?_append_right (by simp), List.getElem?_append_right (by simp; omega), List.getElem?_append_right (by simp; omega), List.getElem?_append_right (by simp; omega), List.getElem?_append_right (by simp; omega), List.getElem?_append_right (by simp; omega)]
  simp [l.sv, l.tk, l.nx, l.si, l.se]
theorem wcell_rv (l : Lens svs tk nx si se) : (wcell cv sv svs tk nx si se t rv)[26]? = some rv := by
  have := l.sv; have := l.tk; have := l.nx; have := l.si; have := l.se
  unfold wcell
  rw [List.getElem?_append_right (by simp), List.getElem?_append_right (by simp; omega), List.getElem?_append_right (by simp; omega), List.getElem?_append_right (by simp; omega), List.getElem?_append_right (by simp; omega), List.getElem?_append_right (by simp; omega)]
  simp [l.sv, l.tk, l.nx, l.si, l.se]

theorem wset_sent (l : Lens svs tk nx si se) {c : Nat} (hc : c < 4) (x : AV) : (wcell cv sv svs tk nx si se t rv).set (2 + c) x = wcell cv sv (svs.set c x) tk nx si se t rv := by
  have := l.sv
  unfold wcell
  rw [List.set_append_right _ _ (by simp), List.set_append_left _ _ (by simp; omega)]
  congr 3; simp
theorem wset_tk (l : Lens svs tk nx si se) {c : Nat} (hc : c < 4) (x : Nat) : (wcell cv sv svs tk nx si se t rv).set (6 + c) (i64 (x : Int)) = wcell cv sv svs (tk.set c x) nx si se t rv := by
  have := l.sv; have := l.tk
  unfold wcell nats
  rw [List.set_append_right _ _ (by simp; omega), List.set_append_right _ _ (by simp; omega), List.set_append_left _ _ (by simp; omega), List.map_set]
  congr 4; simp; omega
theorem wset_nx (l : Lens svs tk nx si se) {p : Nat} (hp : p < 5) (x : Nat) : (wcell cv sv svs tk nx si se t rv).set (10 + p) (i64 (x : Int)) = wcell cv sv svs tk (nx.set p x) si se t rv := by
  have := l.sv; have := l.tk; have := l.nx
  unfold wcell nats
  rw [List.set_append_right _ _ (by simp; omega), List.set_append_right _ _ (by simp; omega), List.set_append_right _ _ (by simp; omega), List.set_append_left _ _ (by simp; omega), List.map_set]
  congr 5; simp; omega
theorem wset_si (l : Lens svs tk nx si se) {p : Nat} (hp : p < 5) (x : Int) : (wcell cv sv svs tk nx si se t rv).set (15 + p) (i64 x) = wcell cv sv svs tk nx (si.set p x) se t rv := by
  have := l.sv; have := l.tk; have := l.nx; have := l.si
  unfold wcell ints
  rw [List.set_append_right _ _ (by simp; omega), List.set_append_right _ _ (by simp; omega), List.set_append_right _ _ (by simp; omega), List.set_append_right _ _ (by simp; omega), List.set_append_left _ _ (by simp; omega), List.map_set]
  congr 6; simp; omega
theorem wset_se (l : Lens svs tk nx si se) {p : Nat} (hp : p < 5) (x : Bool) : (wcell cv sv svs tk nx si se t rv).set (20 + p) (.bool x) = wcell cv sv svs tk nx si (se.set p x) t rv := by
  have := l.sv; have := l.tk; have := l.nx; have := l.si; have := l.se
  unfold wcell
  rw [List.set_append_right _ _ (by simp; omega), List.set_append_right _ _ (by simp; omega), List.set_append_right _ _ (by simp; omega), List.set_append_right _ _ (by simp; omega), List.set_append_right _ _ (by simp; omega), List.set_append_left _ _ (by simp; omega), List.map_set]
  congr 7; simp; omega
theorem wset_t (l : Lens svs tk nx si se) (x : Int) : (wcell cv sv svs tk nx si se t rv).set 25 (i64 x) = wcell cv sv svs tk nx si se x rv := by
  have := l.sv; have := l.tk; have := l.nx; have := l.si; have := l.se
  unfold wcell
  rw [List.set_append_right _ _ (by simp), List.set_append_right _ _ (by simp; omega), List.set_append_right _ _ (by simp; omega), List.set_append_right _ _ (by simp; omega), List.set_append_right _ _ (by simp; omega), List.set_append_right _ _ (by simp; omega)]
  have e : 25 - [cv, sv].length - svs.length - (nats tk).length - (nats nx).length - (ints si).length - (se.map AV.bool).length = 0 := by simp [l.sv, l.tk, l.nx, l.si, l.se]
  rw [e]; rfl
theorem wset_rv (l : Lens svs tk nx si se) (x : AV) : (wcell cv sv svs tk nx si se t rv).set 26 x = wcell cv sv svs tk nx si se t x := by
  have := l.sv; have := l.tk; have := l.nx; have := l.si; have := l.se
  unfold wcell
  rw [List.set_append_right _ _ (by simp), List.set_append_right _ _ (by simp; omega), List.set_append_right _ _ (by simp; omega), List.set_append_right _ _ (by simp; omega), List.set_append_right _ _ (by simp; omega), List.set_append_right _ _ (by simp; omega)]
  have e : 26 - [cv, sv].length - svs.length - (nats tk).length - (nats nx).length - (ints si).length - (se.map AV.bool).length = 1 := by simp [l.sv, l.tk, l.nx, l.si, l.se]
  rw [e]; rfl
theorem wset_clear (l : Lens svs tk nx si se) : splice (wcell cv sv svs tk nx si se t rv) 20 [.bool false, .bool false, .bool false, .bool false, .bool false] = wcell cv sv svs tk nx si [false, false, false, false, false] t rv := by
  have h1 := l.sv; have h2 := l.tk; have h3 := l.nx; have h4 := l.si; have h5 := l.se
  match svs, h1, tk, h2, nx, h3, si, h4, se, h5 with
  | [_, _, _, _], _, [_, _, _, _], _, [_, _, _, _, _], _, [_, _, _, _, _], _, [_, _, _, _, _], _ => rfl
end

/-- The document's simulation in the heap. -/
structure Wst (H0 : Heap) (caps : List Int) (scr : List (List Op)) (own : Nat → Option Wh) (H : Heap) (wb : Nat) (cv sv : AV) (svs : List AV) (rv : AV) (d : Wd) : Prop where
  k : Keep H0.length H0 H
  box : Box H wb (wcell cv sv svs d.taken d.next d.since d.seen d.tick rv)
  cap : Ints H0 cv caps
  scr : Arr (tArr tOp) H0 sv scr
  lens : Lens svs d.taken d.next d.since d.seen
  slen : d.sent.length = 4
  sent : ∀ (i : Nat) v l, svs[i]? = some v → d.sent[i]? = some l → Gr H0.length H 1 v l.length (ints l)
  res : Own H0.length H 4 rv d.res.length (d.res.map resC).flatten
  oW : own wb = some .w ∧ H0.length ≤ wb
  oS : ∀ (i : Nat) v b, svs[i]? = some v → At v b → own b = some (.sent i)
  oR : ∀ b, At rv b → own b = some .res

section
variable {H0 : Heap} {caps : List Int} {scr : List (List Op)} {own : Nat → Option Wh} {H : Heap} {wb : Nat} {cv sv rv : AV} {svs : List AV} {d : Wd}

theorem Wst.keep {H' : Heap} (h : Wst H0 caps scr own H wb cv sv svs rv d) (hk : Keep H.length H H') : Wst H0 caps scr own H' wb cv sv svs rv d where
  k := h.k.call hk
  box := h.box.frame (hk.get _ h.box.lt)
  cap := h.cap
  scr := h.scr
  lens := h.lens
  slen := h.slen
  sent := fun i v l h1 h2 => (h.sent i v l h1 h2).keep hk
  res := h.res.keep hk
  oW := h.oW
  oS := h.oS
  oR := h.oR

theorem ad (a c : Nat) : a + Int.toNat (c : Int) * 1 = a + c := by rw [Int.toNat_natCast, Nat.mul_one]

theorem Wst.ldC (h : Wst H0 caps scr own H wb cv sv svs rv d) : rload H none wb 0 = some cv := h.box.load rfl
theorem Wst.ldS (h : Wst H0 caps scr own H wb cv sv svs rv d) : rload H none wb (0 + 1) = some sv := h.box.load rfl
theorem Wst.ldSent (h : Wst H0 caps scr own H wb cv sv svs rv d) {c : Nat} (hc : c < 4) : ∃ v, svs[c]? = some v ∧ rload H none wb (0 + 2 + Int.toNat (c : Int) * 1) = some v := by
  have hl := h.lens.sv
  refine ⟨svs[c]'(by omega), List.getElem?_eq_getElem _, ?_⟩
  rw [ad, Nat.zero_add]
  exact h.box.load (by rw [wcell_sent h.lens hc, List.getElem?_eq_getElem])
theorem Wst.ldTaken (h : Wst H0 caps scr own H wb cv sv svs rv d) {c : Nat} (hc : c < 4) : rload H none wb (0 + 6 + Int.toNat (c : Int) * 1) = some (i64 ((d.taken.getD c 0 : Nat) : Int)) := by
  have hl := h.lens.tk
  rw [ad, Nat.zero_add]
  exact h.box.load (by rw [wcell_tk h.lens hc, List.getElem?_map, List.getElem?_eq_getElem (by omega), List.getD_eq_getElem?_getD, List.getElem?_eq_getElem (by omega)]; rfl)
theorem Wst.ldNext (h : Wst H0 caps scr own H wb cv sv svs rv d) {p : Nat} (hp : p < 5) : rload H none wb (0 + 10 + Int.toNat (p : Int) * 1) = some (i64 ((d.next.getD p 0 : Nat) : Int)) := by
  have hl := h.lens.nx
  rw [ad, Nat.zero_add]
  exact h.box.load (by rw [wcell_nx h.lens hp, List.getElem?_map, List.getElem?_eq_getElem (by omega), List.getD_eq_getElem?_getD, List.getElem?_eq_getElem (by omega)]; rfl)
theorem Wst.ldSince (h : Wst H0 caps scr own H wb cv sv svs rv d) {p : Nat} (hp : p < 5) : rload H none wb (0 + 15 + Int.toNat (p : Int) * 1) = some (i64 (d.since.getD p 0)) := by
  have hl := h.lens.si
  rw [ad, Nat.zero_add]
  exact h.box.load (by rw [wcell_si h.lens hp, List.getElem?_map, List.getElem?_eq_getElem (by omega), List.getD_eq_getElem?_getD, List.getElem?_eq_getElem (by omega)]; rfl)
theorem Wst.ldSeen (h : Wst H0 caps scr own H wb cv sv svs rv d) {p : Nat} (hp : p < 5) : rload H none wb (0 + 20 + Int.toNat (p : Int) * 1) = some (.bool (d.seen.getD p false)) := by
  have hl := h.lens.se
  rw [ad, Nat.zero_add]
  exact h.box.load (by rw [wcell_se h.lens hp, List.getElem?_map, List.getElem?_eq_getElem (by omega), List.getD_eq_getElem?_getD, List.getElem?_eq_getElem (by omega)]; rfl)
theorem Wst.ldTick (h : Wst H0 caps scr own H wb cv sv svs rv d) : rload H none wb (0 + 25) = some (i64 d.tick) := h.box.load (wcell_t h.lens)
theorem Wst.ldRes (h : Wst H0 caps scr own H wb cv sv svs rv d) : rload H none wb (0 + 26) = some rv := h.box.load (wcell_rv h.lens)

/-- The fields that are numbers are others. -/
theorem Wst.setN {H' : Heap} {tk nx : List Nat} {si : List Int} {se : List Bool} {t : Int} (h : Wst H0 caps scr own H wb cv sv svs rv d) (hl : Lens svs tk nx si se) (hb : Box H' wb (wcell cv sv svs tk nx si se t rv)) (hx : KeepX wb H H') :
    Wst H0 caps scr own H' wb cv sv svs rv { d with taken := tk, next := nx, since := si, seen := se, tick := t } where
  k := h.k.tr (hx.keep h.oW.2 (Nat.le_trans h.k.low h.k.len))
  box := hb
  cap := h.cap
  scr := h.scr
  lens := hl
  slen := h.slen
  sent := fun i v l h1 h2 => (h.sent i v l h1 h2).frame fun b hb' => hx.get b fun e => by
    have := h.oS i v b h1 hb'
    rw [e, h.oW.1] at this; cases this
  res := h.res.frame fun b hb' => hx.get b fun e => by
    have := h.oR b hb'
    rw [e, h.oW.1] at this; cases this
  oW := h.oW
  oS := h.oS
  oR := h.oR

theorem Wst.putN {fl o : Nat} {x : AV} {tk nx : List Nat} {si : List Int} {se : List Bool} {t : Int} (h : Wst H0 caps scr own H wb cv sv svs rv d) (hfl : fl ≤ H0.length) (hx : Scal x) (ho : o < 27)
    (he : (wcell cv sv svs d.taken d.next d.since d.seen d.tick rv).set o x = wcell cv sv svs tk nx si se t rv) (hl : Lens svs tk nx si se) :
    ∃ H', putA fl H wb o 1 x = some H' ∧ H'.length = H.length ∧ Wst H0 caps scr own H' wb cv sv svs rv { d with taken := tk, next := nx, since := si, seen := se, tick := t } := by
  have hwl := wcell_len (cv := cv) (sv := sv) (rv := rv) (t := d.tick) h.lens
  obtain ⟨H', p1, p2, p3⟩ := h.box.put (fl := fl) (v := x) (n := 1) (o := o) (by rw [hx.1]; rfl) (by rw [hwl]; omega) (by rw [hx.1, List.all_cons, hx.2]; rfl) (Nat.le_trans hfl h.oW.2)
  rw [hx.1, splice_one (by rw [hwl]; exact ho), he] at p2
  exact ⟨H', p1, p3.len, h.setN hl p2 p3⟩

theorem Wst.putTaken {fl c : Nat} (h : Wst H0 caps scr own H wb cv sv svs rv d) (hfl : fl ≤ H0.length) (hc : c < 4) (x : Nat) :
    ∃ H', putA fl H wb (0 + 6 + Int.toNat (c : Int) * 1) 1 (i64 (x : Int)) = some H' ∧ H'.length = H.length ∧ Wst H0 caps scr own H' wb cv sv svs rv { d with taken := d.taken.set c x } := by
  rw [ad, Nat.zero_add]
  exact h.putN hfl ⟨rfl, rfl⟩ (by omega) (wset_tk h.lens hc x) { h.lens with tk := by rw [List.length_set]; exact h.lens.tk }
theorem Wst.putNext {fl p : Nat} (h : Wst H0 caps scr own H wb cv sv svs rv d) (hfl : fl ≤ H0.length) (hp : p < 5) (x : Nat) :
    ∃ H', putA fl H wb (0 + 10 + Int.toNat (p : Int) * 1) 1 (i64 (x : Int)) = some H' ∧ H'.length = H.length ∧ Wst H0 caps scr own H' wb cv sv svs rv { d with next := d.next.set p x } := by
  rw [ad, Nat.zero_add]
  exact h.putN hfl ⟨rfl, rfl⟩ (by omega) (wset_nx h.lens hp x) { h.lens with nx := by rw [List.length_set]; exact h.lens.nx }
theorem Wst.putSince {fl p : Nat} (h : Wst H0 caps scr own H wb cv sv svs rv d) (hfl : fl ≤ H0.length) (hp : p < 5) (x : Int) :
    ∃ H', putA fl H wb (0 + 15 + Int.toNat (p : Int) * 1) 1 (i64 x) = some H' ∧ H'.length = H.length ∧ Wst H0 caps scr own H' wb cv sv svs rv { d with since := d.since.set p x } := by
  rw [ad, Nat.zero_add]
  exact h.putN hfl ⟨rfl, rfl⟩ (by omega) (wset_si h.lens hp x) { h.lens with si := by rw [List.length_set]; exact h.lens.si }
theorem Wst.putSeen {fl p : Nat} (h : Wst H0 caps scr own H wb cv sv svs rv d) (hfl : fl ≤ H0.length) (hp : p < 5) (x : Bool) :
    ∃ H', putA fl H wb (0 + 20 + Int.toNat (p : Int) * 1) 1 (.bool x) = some H' ∧ H'.length = H.length ∧ Wst H0 caps scr own H' wb cv sv svs rv { d with seen := d.seen.set p x } := by
  rw [ad, Nat.zero_add]
  exact h.putN hfl ⟨rfl, rfl⟩ (by omega) (wset_se h.lens hp x) { h.lens with se := by rw [List.length_set]; exact h.lens.se }
theorem Wst.putTick {fl : Nat} (h : Wst H0 caps scr own H wb cv sv svs rv d) (hfl : fl ≤ H0.length) (x : Int) :
    ∃ H', putA fl H wb (0 + 25) 1 (i64 x) = some H' ∧ H'.length = H.length ∧ Wst H0 caps scr own H' wb cv sv svs rv { d with tick := x } :=
  h.putN hfl ⟨rfl, rfl⟩ (by omega) (wset_t h.lens x) h.lens
theorem Wst.putClear {fl : Nat} (h : Wst H0 caps scr own H wb cv sv svs rv d) (hfl : fl ≤ H0.length) :
    ∃ H', putA fl H wb (0 + 20) 5 (.agg [(.bool false), (.bool false), (.bool false), (.bool false), (.bool false)]) = some H' ∧ H'.length = H.length ∧ Wst H0 caps scr own H' wb cv sv svs rv { d with seen := [false, false, false, false, false] } := by
  have hwl := wcell_len (cv := cv) (sv := sv) (rv := rv) (t := d.tick) h.lens
  obtain ⟨H', p1, p2, p3⟩ := h.box.put (fl := fl) (v := .agg [(.bool false), (.bool false), (.bool false), (.bool false), (.bool false)]) (n := 5) (o := 0 + 20) rfl (by rw [hwl]; omega) rfl (Nat.le_trans hfl h.oW.2)
  rw [show (AV.agg [(.bool false), (.bool false), (.bool false), (.bool false), (.bool false)]).cells = [.bool false, .bool false, .bool false, .bool false, .bool false] from rfl, Nat.zero_add, wset_clear h.lens] at p2
  exact ⟨H', p1, p3.len, h.setN { h.lens with se := rfl } p2 p3⟩

/-- A value is sent. -/
theorem Wst.pushSent {fl c b : Nat} {x : Int} {v : AV} {H1 : Heap} (h : Wst H0 caps scr own H wb cv sv svs rv d) (hfl : fl ≤ H0.length) (hc : c < 4) (hv : svs[c]? = some v) (n : NewB H 1 [i64 x] b H1) (hl : (d.sent.getD c []).length ≤ 2 ^ 29) :
    ∃ a H2, appA fl true 1 8 H1 v (.slice b 0 1 (some 1)) = some (a, H2) ∧ ∃ H3, putA fl H2 wb (0 + 2 + Int.toNat (c : Int) * 1) 1 a = some H3 ∧
      ∃ own', Wst H0 caps scr own' H3 wb cv sv (svs.set c a) rv { d with sent := d.sent.set c (d.sent.getD c [] ++ [x]) } := by
  have k1 := n.keep
  have h1 := h.keep k1
  have hcs : c < d.sent.length := by rw [h.slen]; exact hc
  have hcv : c < svs.length := (List.getElem?_eq_some_iff.1 hv).1
  have gl : d.sent.getD c [] = d.sent[c] := by rw [List.getD_eq_getElem?_getD, List.getElem?_eq_getElem hcs]; rfl
  rw [gl] at hl ⊢
  have hgr := h1.sent c v _ hv (List.getElem?_eq_getElem hcs)
  obtain ⟨a, H2, p1, p2, p3, p4, p5⟩ := Gr.pushB (fl := fl) (free := true) (bytes := 8) hgr (n.sl (n := 1) rfl) (Nat.le_trans h1.k.low h1.k.len) hfl rfl (by omega) (by decide)
  refine ⟨a, H2, p1, ?_⟩
  have nwb : ¬ At v wb := fun ha => by
    have := h.oS c v wb hv ha
    rw [h.oW.1] at this; cases this
  have hbx : Box H2 wb _ := h1.box.frame (p4 wb h1.box.lt nwb)
  have hwl := wcell_len (cv := cv) (sv := sv) (rv := rv) (t := d.tick) h.lens
  obtain ⟨H3, q1, q2, q3⟩ := hbx.put (fl := fl) (v := a) (n := 1) (o := 2 + c) (by rw [p2.sl.scal.1]; rfl) (by rw [hwl]; omega) (by rw [p2.sl.scal.1, List.all_cons, p2.sl.scal.2]; rfl) (Nat.le_trans hfl h.oW.2)
  rw [p2.sl.scal.1, splice_one (by rw [hwl]; omega), wset_sent h.lens hc] at q2
  refine ⟨H3, by rw [ad, Nat.zero_add]; exact q1, fun y => if y < H1.length then own y else some (.sent c), ?_⟩
  have hown : ∀ y, y < H1.length → (fun y => if y < H1.length then own y else some (.sent c)) y = own y := fun y hy => if_pos hy
  have hownc : ∀ y, H1.length ≤ y → (fun y => if y < H1.length then own y else some (.sent c)) y = some (.sent c) := fun y hy => if_neg (by omega)
  generalize (fun y => if y < H1.length then own y else some (Wh.sent c)) = own' at hown hownc
  have wl := h1.box.lt
  have hfr : ∀ y, y < H1.length → own y ≠ some (.sent c) → y ≠ wb → H3[y]? = H1[y]? := fun y hy h1' h2 => by
    rw [q3.get y h2, p4 y hy fun ha => h1' (h.oS c v y hv ha)]
  have lens' : Lens (svs.set c a) d.taken d.next d.since d.seen := { h.lens with sv := by rw [List.length_set]; exact h.lens.sv }
  refine ⟨?_, q2, h.cap, h.scr, lens', by rw [List.length_set]; exact h.slen, fun i w l e1 e2 => ?_, ?_, ⟨by rw [hown wb wl]; exact h.oW.1, h.oW.2⟩, fun i w y e1 e2 => ?_, fun y hy => ?_⟩
  · have hH : H0.length ≤ H1.length := Nat.le_trans h1.k.low h1.k.len
    refine ⟨h.k.low, by rw [q3.len]; exact Nat.le_trans h1.k.len p3, fun y hy => ?_⟩
    rw [q3.get y (by have := h.oW.2; omega), p4 y (by omega) fun ha => by have := (hgr.at_lt ha).1; omega, h1.k.get y hy]
  · by_cases e : i = c
    · subst e
      rw [List.getElem?_set_self hcv] at e1
      rw [List.getElem?_set_self hcs] at e2
      cases e1; cases e2
      have : Gr H0.length H2 1 a (d.sent[i] ++ [x]).length (ints (d.sent[i] ++ [x])) := by simpa [ints] using p2
      exact this.frame fun y hy => q3.get y fun e => by
        have := p5 y hy; omega
    · rw [List.getElem?_set_ne (Ne.symm e)] at e1 e2
      have hg := h1.sent i w l e1 e2
      exact hg.frame fun y hy => hfr y (hg.at_lt hy).2 (by rw [h.oS i w y e1 hy]; simp [e]) fun e' => by
        have := h.oS i w y e1 hy
        rw [e', h.oW.1] at this; cases this
  · exact h1.res.frame fun y hy => hfr y (h1.res.at_lt hy).2 (by rw [h.oR y hy]; simp) fun e' => by
      have := h.oR y hy
      rw [e', h.oW.1] at this; cases this
  · by_cases e : i = c
    · subst e
      rw [List.getElem?_set_self hcv] at e1
      cases e1
      exact hownc y (p5 y e2)
    · rw [List.getElem?_set_ne (Ne.symm e)] at e1
      have hil : i < svs.length := (List.getElem?_eq_some_iff.1 e1).1
      have hg := h1.sent i w (d.sent[i]'(by have := h.slen; have := h.lens.sv; omega)) e1 (List.getElem?_eq_getElem _)
      rw [hown y (hg.at_lt e2).2]; exact h.oS i w y e1 e2
  · rw [hown y (h1.res.at_lt hy).2]; exact h.oR y hy

/-- A result is noted. -/
theorem Wst.pushRes {fl b : Nat} {r : Res} {H1 : Heap} (h : Wst H0 caps scr own H wb cv sv svs rv d) (hfl : fl ≤ H0.length) (n : NewB H 4 (resC r) b H1) (hl : d.res.length ≤ 2 ^ 29) :
    ∃ a H2, appA fl true 4 32 H1 rv (.slice b 0 1 (some 1)) = some (a, H2) ∧ ∃ H3, putA fl H2 wb (0 + 26) 1 a = some H3 ∧
      ∃ own', Wst H0 caps scr own' H3 wb cv sv svs a { d with res := d.res ++ [r] } := by
  have k1 := n.keep
  have h1 := h.keep k1
  obtain ⟨a, H2, p1, p2, p3, p4, p5⟩ := Own.push (fl := fl) (bytes := 32) (e := 4) (by decide) h1.res (n.sl (n := 1) rfl) (Nat.le_trans h1.k.low h1.k.len) hfl rfl (by omega) (by decide)
  refine ⟨a, H2, p1, ?_⟩
  have nwb : ¬ At rv wb := fun ha => by
    have := h.oR wb ha
    rw [h.oW.1] at this; cases this
  have hbx : Box H2 wb _ := h1.box.frame (p4 wb h1.box.lt nwb)
  have hwl := wcell_len (cv := cv) (sv := sv) (rv := rv) (t := d.tick) h.lens
  obtain ⟨H3, q1, q2, q3⟩ := hbx.put (fl := fl) (v := a) (n := 1) (o := 26) (by rw [p2.scal.1]; rfl) (by rw [hwl]; omega) (by rw [p2.scal.1, List.all_cons, p2.scal.2]; rfl) (Nat.le_trans hfl h.oW.2)
  rw [p2.scal.1, splice_one (by rw [hwl]; omega), wset_rv h.lens] at q2
  refine ⟨H3, q1, fun y => if y < H1.length then own y else some .res, ?_⟩
  have hown : ∀ y, y < H1.length → (fun y => if y < H1.length then own y else some .res) y = own y := fun y hy => if_pos hy
  have hownc : ∀ y, H1.length ≤ y → (fun y => if y < H1.length then own y else some .res) y = some .res := fun y hy => if_neg (by omega)
  generalize (fun y => if y < H1.length then own y else some Wh.res) = own' at hown hownc
  have wl := h1.box.lt
  have hfr : ∀ y, y < H1.length → own y ≠ some .res → y ≠ wb → H3[y]? = H1[y]? := fun y hy h1' h2 => by
    rw [q3.get y h2, p4 y hy fun ha => h1' (h.oR y ha)]
  refine ⟨?_, q2, h.cap, h.scr, h.lens, h.slen, fun i w l e1 e2 => ?_, ?_, ⟨by rw [hown wb wl]; exact h.oW.1, h.oW.2⟩, fun i w y e1 e2 => ?_, fun y hy => ?_⟩
  · have hH : H0.length ≤ H1.length := Nat.le_trans h1.k.low h1.k.len
    refine ⟨h.k.low, by rw [q3.len]; exact Nat.le_trans h1.k.len p3, fun y hy => ?_⟩
    rw [q3.get y (by have := h.oW.2; omega), p4 y (by omega) fun ha => by have := (h1.res.at_lt ha).1; omega, h1.k.get y hy]
  · have hg := h1.sent i w l e1 e2
    exact hg.frame fun y hy => hfr y (hg.at_lt hy).2 (by rw [h.oS i w y e1 hy]; simp) fun e' => by
      have := h.oS i w y e1 hy
      rw [e', h.oW.1] at this; cases this
  · have e1 : (d.res ++ [r]).length = d.res.length + 1 := by simp
    have e2 : (List.map resC (d.res ++ [r])).flatten = (d.res.map resC).flatten ++ resC r := by simp
    show Own H0.length H3 4 a (d.res ++ [r]).length (List.map resC (d.res ++ [r])).flatten
    rw [e1, e2]
    exact p2.frame fun y hy => q3.get y fun e => by
      rcases p5 y hy with h1' | h1'
      · have := h.oR y h1'
        rw [e, h.oW.1] at this; cases this
      · omega
  · have hil : i < svs.length := (List.getElem?_eq_some_iff.1 e1).1
    have hg := h1.sent i w (d.sent[i]'(by have := h.slen; have := h.lens.sv; omega)) e1 (List.getElem?_eq_getElem _)
    rw [hown y (hg.at_lt e2).2]; exact h.oS i w y e1 e2
  · rcases p5 y hy with h1' | h1'
    · rw [hown y (h1.res.at_lt h1').2]; exact h.oR y h1'
    · exact hownc y h1'

end
end De
end Go.RM

/-
  The document's simulation: which process is next, and what it can do.
-/
namespace Go.RM
set_option linter.unusedSimpArgs false
set_option linter.unusedVariables false
namespace De
variable {F : Nat → Option RFunc}

def OkP (scr : List (List Op)) (d : Wd) (p : Nat) : Prop := d.seen.getD p false = false ∧ d.next.getD p 0 < (scr.getD p []).length

def PickIs (ok : Nat → Prop) (si : Nat → Int) (n : Nat) (best : Int) : Prop := (best = -1 ∧ ∀ p, p < n → ¬ ok p) ∨ ∃ b : Nat, b < n ∧ best = b ∧ ok b ∧ ∀ p, p < n → ok p → si b < si p ∨ (si b = si p ∧ b ≤ p)

theorem pick_skip {ok : Nat → Prop} {si : Nat → Int} {n : Nat} {best : Int} (h : PickIs ok si n best) (hn : ¬ ok n) : PickIs ok si (n + 1) best := by
  rcases h with ⟨h1, h2⟩ | ⟨b, h1, h2, h3, h4⟩
  · refine .inl ⟨h1, fun p hp => ?_⟩
    rcases Nat.lt_succ_iff_lt_or_eq.1 hp with h | rfl
    · exact h2 p h
    · exact hn
  · refine .inr ⟨b, by omega, h2, h3, fun p hp ho => ?_⟩
    rcases Nat.lt_succ_iff_lt_or_eq.1 hp with h | rfl
    · exact h4 p h ho
    · exact absurd ho hn
theorem pick_first {ok : Nat → Prop} {si : Nat → Int} {n : Nat} {best : Int} (h : PickIs ok si n best) (hb : best < 0) (hn : ok n) : PickIs ok si (n + 1) n := by
  rcases h with ⟨h1, h2⟩ | ⟨b, h1, h2, _⟩
  · refine .inr ⟨n, by omega, rfl, hn, fun p hp ho => ?_⟩
    rcases Nat.lt_succ_iff_lt_or_eq.1 hp with h | rfl
    · exact absurd ho (h2 p h)
    · exact .inr ⟨rfl, Nat.le_refl _⟩
  · omega
theorem pick_less {ok : Nat → Prop} {si : Nat → Int} {n b : Nat} (h : PickIs ok si n b) (hl : si n < si b) (hn : ok n) : PickIs ok si (n + 1) n := by
  rcases h with ⟨h1, _⟩ | ⟨b', h1, h2, h3, h4⟩
  · omega
  · have : b' = b := by omega
    subst this
    refine .inr ⟨n, by omega, rfl, hn, fun p hp ho => ?_⟩
    rcases Nat.lt_succ_iff_lt_or_eq.1 hp with h | rfl
    · rcases h4 p h ho with h | h
      · exact .inl (by omega)
      · exact .inl (by omega)
    · exact .inr ⟨rfl, Nat.le_refl _⟩
theorem pick_more {ok : Nat → Prop} {si : Nat → Int} {n b : Nat} (h : PickIs ok si n b) (hl : ¬ si n < si b) : PickIs ok si (n + 1) b := by
  rcases h with ⟨h1, _⟩ | ⟨b', h1, h2, h3, h4⟩
  · omega
  · have : b' = b := by omega
    subst this
    refine .inr ⟨b', by omega, rfl, h3, fun p hp ho => ?_⟩
    rcases Nat.lt_succ_iff_lt_or_eq.1 hp with h | rfl
    · exact h4 p h ho
    · rcases Int.lt_or_eq_of_le (show si b' ≤ si p by omega) with h | h
      · exact .inl h
      · exact .inr ⟨h, by omega⟩

abbrev PickC (F : Nat → Option RFunc) (f : Nat) : Prop := ∀ {fl H0 caps scr own H wb cv sv svs rv d Q}, Wst H0 caps scr own H wb cv sv svs rv d → scr.length ≤ 5 →
  (∀ best, PickIs (OkP scr d) (fun p => d.since.getD p 0) scr.length best → Q (i64 best) H) → Ret F fl f [.ptr wb 0] H Q
theorem pick_c {f : Nat} (hF : F f = some rf_FWorld_pick) : PickC F f := fun {fl H0 caps scr own H wb cv sv svs rv d Q} h h5 hq => by
  refine v_FWorld_pick hF _ _ ?_
  refine ⟨fun m v b => ∃ j : Nat, v = j ∧ j + m = scr.length ∧ PickIs (OkP scr d) (fun p => d.since.getD p 0) j b, scr.length, ⟨0, rfl, by omega, .inl ⟨rfl, fun p hp => by omega⟩⟩, ?_⟩
  rintro m _ best ⟨j, rfl, hm, hp⟩
  refine ⟨_, h.ldS, _, (h.scr.keep h.k).len, fun hlt => ?_, fun hge => ?_⟩
  · have hj : j < scr.length := by omega
    have hj5 : j < 5 := by omega
    have hw := wsucc (i := j) (n := scr.length) hj (by omega)
    refine ⟨⟨by omega, by omega⟩, _, h.ldSeen hj5, fun hns => ?_, fun hs => ⟨m - 1, by omega, j + 1, hw, by omega, pick_skip hp fun ho => ?_⟩⟩
    · obtain ⟨w, g1, g2⟩ := arr_getK h.scr h.k hj
      have gs : scr.getD j [] = scr[j] := by rw [List.getD_eq_getElem?_getD, List.getElem?_eq_getElem hj]; rfl
      refine ⟨⟨by omega, by omega⟩, _, h.ldNext hj5, _, h.ldS, _, g1, _, (g2.keep h.k).len, fun hl => ?_, fun hl => ⟨m - 1, by omega, j + 1, hw, by omega, pick_skip hp fun ho => ?_⟩⟩
      · have ho : OkP scr d j := ⟨Bool.eq_false_iff.2 hns, by rw [gs]; omega⟩
        refine ⟨fun hb => ⟨m - 1, by omega, j + 1, hw, by omega, pick_first hp hb ho⟩, fun hb => ?_⟩
        have hb2 : ∃ b : Nat, best = b ∧ b < j := by
          rcases hp with ⟨h1, _⟩ | ⟨b, h1, h2, _⟩
          · omega
          · exact ⟨b, h2, h1⟩
        obtain ⟨b, rfl, hbj⟩ := hb2
        have hb5 : b < 5 := by omega
        exact ⟨⟨by omega, by omega⟩, _, h.ldSince hj5, ⟨by omega, by omega⟩, _, h.ldSince hb5, fun hls => ⟨m - 1, by omega, j + 1, hw, by omega, pick_less hp hls ho⟩, fun hls => ⟨m - 1, by omega, j + 1, hw, by omega, pick_more hp hls⟩⟩
      · have := ho.2
        rw [gs] at this; omega
    · rw [ho.1] at hs; exact absurd hs (by simp)
  · have : j = scr.length := by omega
    subst this
    exact hq _ hp

/-- The document's state and the program's. -/
structure Rel (caps : List Int) (scr : List (List Op)) (d : Wd) (s : Sys) : Prop where
  tick : s.tick = d.tick
  res : s.res = d.res
  blen : s.buf.length = caps.length
  olen : s.ops.length = scr.length
  silen : s.since.length = scr.length
  buf : ∀ c, c < caps.length → d.taken.getD c 0 ≤ (d.sent.getD c []).length ∧ s.buf.getD c [] = (d.sent.getD c []).drop (d.taken.getD c 0)
  ops : ∀ p, p < scr.length → s.ops.getD p [] = (scr.getD p []).drop (d.next.getD p 0)
  since : ∀ p, p < scr.length → s.since.getD p 0 = d.since.getD p 0
  sm : ∀ c, (d.sent.getD c []).length ≤ s.res.length
  nx : ∀ p, p < scr.length → d.next.getD p 0 ≤ (scr.getD p []).length

def choiceE (caps : List Int) (s : Sys) (o : Op) (p : Nat) : Int := if (tryP caps s.buf o (s.tick - s.since.getD p 0)).1.2.2 then (tryP caps s.buf o (s.tick - s.since.getD p 0)).1.1 else -2

theorem getD_get {α : Type} {l : List α} {i : Nat} {a : α} (h : i < l.length) : l.getD i a = l[i] := by rw [List.getD_eq_getElem?_getD, List.getElem?_eq_getElem h]; rfl

theorem drop_cons {α : Type} {l : List α} {n : Nat} {o : α} {r : List α} (h : l.drop n = o :: r) : ∃ hn : n < l.length, l[n] = o ∧ r = l.drop (n + 1) := by
  have hn : n < l.length := by
    rcases Nat.lt_or_ge n l.length with h' | h'
    · exact h'
    · rw [List.drop_eq_nil_of_le h'] at h; cases h
  rw [List.drop_eq_getElem_cons hn] at h
  cases h
  exact ⟨hn, rfl, rfl⟩

theorem recvP_some {buf : List (List Int)} {c : Nat} (hc : c < buf.length) {v : Int} {l : List Int} (h : buf.getD c [] = v :: l) : recvP buf c = some (v, buf.set c l) := by
  unfold recvP
  rw [getD_get hc] at h
  rw [Int.toNat_natCast, List.getElem?_eq_getElem hc, h]
theorem recvP_none {buf : List (List Int)} {c : Nat} (hc : c < buf.length) (h : buf.getD c [] = []) : recvP buf c = none := by
  unfold recvP
  rw [getD_get hc] at h
  rw [Int.toNat_natCast, List.getElem?_eq_getElem hc, h]

section
variable {caps : List Int} {scr : List (List Op)} {d : Wd} {s : Sys}
/-- Is there a value to be received? -/
theorem Rel.recv (h : Rel caps scr d s) {c : Nat} (hc : c < caps.length) : (d.taken.getD c 0 < (d.sent.getD c []).length → recvP s.buf c = some ((d.sent.getD c []).getD (d.taken.getD c 0) 0, s.buf.set c ((d.sent.getD c []).drop (d.taken.getD c 0 + 1)))) ∧
    (¬ d.taken.getD c 0 < (d.sent.getD c []).length → recvP s.buf c = none) := by
  obtain ⟨h1, h2⟩ := h.buf c hc
  have hb : c < s.buf.length := by rw [h.blen]; exact hc
  refine ⟨fun hl => recvP_some hb ?_, fun hl => recvP_none hb ?_⟩
  · rw [h2, List.drop_eq_getElem_cons hl, getD_get hl]
  · rw [h2, List.drop_eq_nil_of_le (by omega)]
end

abbrev ChoiceC (F : Nat → Option RFunc) (f : Nat) : Prop := ∀ {fl H0 caps scr own H wb cv sv svs rv d Q s} {p : Nat} {o : Op} {r : List Op}, Wst H0 caps scr own H wb cv sv svs rv d → Rel caps scr d s → Ok caps s → caps.length ≤ 4 → scr.length ≤ 5 → s.tick ≤ 100000 → p < scr.length → s.ops.getD p [] = o :: r →
  (∀ H', Keep H.length H H' → Q (i64 (choiceE caps s o p)) H') → Ret F fl f [.ptr wb 0, i64 p] H Q
theorem choice_c {f : Nat} (hF : F f = some rf_FWorld_Choice) : ChoiceC F f := fun {fl H0 caps scr own H wb cv sv svs rv d Q s p o r} h hr hok hc4 hp5 htick hp ho hq => by
  refine v_FWorld_Choice hF _ _ _ ?_
  have hp5' : p < 5 := by omega
  obtain ⟨w, g1, g2⟩ := arr_getK h.scr h.k hp
  have hops := hr.ops p hp
  rw [ho, getD_get hp] at hops
  obtain ⟨hn, e1, e2⟩ := drop_cons hops.symm
  obtain ⟨w2, g3, g4⟩ := op_getK g2 h.k hn
  rw [e1] at g3 g4
  refine ⟨_, h.ldS, _, g1, ⟨by omega, by omega⟩, _, h.ldNext hp5', _, _, _, _, _, g3, ?_⟩
  intro H13 d13
  have k13 := d13.keep
  have h13 := h.keep k13
  refine ⟨g4.scal, _, h13.ldTick, ⟨by omega, by omega⟩, _, h13.ldSince hp5', ?_⟩
  have hcode := hok.ops _ (List.mem_of_getElem? (getD_some ho)) o (by simp)
  obtain ⟨⟨k1, k2⟩, c1, c2, c3⟩ := code_ok hcode
  have hsi := hr.since p hp
  have hti := hr.tick
  have hsb := hok.since (s.since.getD p 0) (by rw [getD_get (show p < s.since.length by rw [hr.silen]; exact hp)]; exact List.getElem_mem _)
  have htk0 := hok.tick
  have hwait : IntKind.wrap .i64 (d.tick - d.since.getD p 0) = s.tick - s.since.getD p 0 := by
    rw [wrap64 (by omega) (by omega)]; omega
  rw [hwait]
  have done : ∀ H', Keep H13.length H13 H' → ∀ x, choiceE caps s o p = x → Q (i64 x) H' := fun H' k' x e => by
    rw [← e]; exact hq H' (k13.call k')
  unfold choiceE at done
  generalize hwd : s.tick - s.since.getD p 0 = waited at done
  have svl : ∀ {c : Nat}, c < 4 → ∃ v, svs[c]? = some v ∧ lenA v = some (d.sent.getD c []).length ∧ rload H13 none wb (0 + 2 + Int.toNat (c : Int) * 1) = some v := fun {c} hc => by
    obtain ⟨v, a1, a2⟩ := h13.ldSent hc
    have hcs : c < d.sent.length := by rw [h.slen]; exact hc
    refine ⟨v, a1, ?_, a2⟩
    rw [getD_get hcs]
    exact (h13.sent c v _ a1 (List.getElem?_eq_getElem hcs)).sl.len
  refine ⟨fun e1 => ?_, fun ne1 => ⟨fun e2 => ?_, fun ne2 => ?_⟩⟩
  · -- send
    obtain ⟨b0, b1⟩ := c1 (by omega)
    obtain ⟨c, hc⟩ := Int.eq_ofNat_of_zero_le b0
    have hcl : c < caps.length := by omega
    have hc4' : c < 4 := by omega
    rw [hc]
    obtain ⟨v, a1, a2, a3⟩ := svl hc4'
    obtain ⟨b2, b3⟩ := hr.buf c hcl
    have hsm := hr.sm c
    have hsum := hok.sum
    refine ⟨⟨by omega, by omega⟩, _, a3, _, a2, ⟨by omega, by omega⟩, _, h13.ldTaken hc4', _, h13.ldC, _, (h.cap.keep h13.k).int hcl, ?_⟩
    rw [wrap64 (by omega) (by omega)]
    have hbl : ((s.buf.getD c []).length : Int) = (d.sent.getD c []).length - d.taken.getD c 0 := by rw [b3, List.length_drop]; omega
    have hcap : ((s.buf.getD c []).length : Int) ≤ caps[c] := by
      have hcb : c < s.buf.length := by rw [hr.blen]; exact hcl
      have := hok.buf c _ (List.getElem?_eq_getElem hcb)
      rw [getD_get hcl] at this
      rw [getD_get hcb]; exact this
    refine ⟨fun hlt => done H13 (Keep.refl _) _ ?_, fun hlt => done H13 (Keep.refl _) _ ?_⟩
    · have e : (tryP caps s.buf o waited).1 = (o.c, o.v, true) := by
        unfold tryP
        rw [if_pos e1, hc, Int.toNat_natCast, getD_get hcl, if_neg (by omega)]
      rw [e, if_pos rfl, hc]
    · have e : (tryP caps s.buf o waited).1 = (0, 0, false) := by
        unfold tryP
        rw [if_pos e1, hc, Int.toNat_natCast, getD_get hcl, if_pos (by omega)]
      rw [e, if_neg (by simp)]
  · -- receive
    obtain ⟨b0, b1⟩ := c1 (by omega)
    obtain ⟨c, hc⟩ := Int.eq_ofNat_of_zero_le b0
    have hcl : c < caps.length := by omega
    have hc4' : c < 4 := by omega
    rw [hc]
    obtain ⟨v, a1, a2, a3⟩ := svl hc4'
    obtain ⟨r1, r2⟩ := hr.recv hcl
    refine ⟨⟨by omega, by omega⟩, _, a3, _, a2, ⟨by omega, by omega⟩, _, h13.ldTaken hc4', fun hlt => done H13 (Keep.refl _) _ ?_, fun hlt => done H13 (Keep.refl _) _ ?_⟩
    · unfold tryP
      rw [if_neg ne1, if_pos e2, hc, r1 (by omega)]; rfl
    · unfold tryP
      rw [if_neg ne1, if_pos e2, hc, r2 (by omega)]; rfl
  · -- select, sleep
    have hw8 := g4.keep h13.k
    have hcs : ∀ c ∈ o.cs, 0 ≤ c ∧ c < caps.length := by
      rcases Int.lt_or_eq_of_le k2 with h | h
      · exact (c2 (by omega)).1
      · have : codeE o caps.length = 0 := hcode
        unfold codeE at this
        rw [if_neg (by omega), if_neg (by omega), if_neg (by omega)] at this
        split at this
        · simp at this
        · rename_i hx
          have : o.cs = [] := List.eq_nil_of_length_eq_zero (by omega)
          rw [this]; intro c hc; simp at hc
    have hcs3 : o.k = 4 → o.cs = [] := fun e4 => by
      have : codeE o caps.length = 0 := hcode
      unfold codeE at this
      rw [if_neg (by omega), if_neg (by omega), if_neg (by omega)] at this
      split at this
      · simp at this
      · exact List.eq_nil_of_length_eq_zero (by omega)
    refine ⟨fun m v => ∃ j : Nat, v = j ∧ j + m = o.cs.length ∧ firstP s.buf o.cs = firstP s.buf (o.cs.drop j), o.cs.length, ⟨0, rfl, by omega, by rw [List.drop_zero]⟩, ?_⟩
    rintro m _ ⟨j, rfl, hm, he⟩
    refine ⟨_, hw8.len, fun hlt => ?_, fun hge => ?_⟩
    · have hj : j < o.cs.length := by omega
      have h3 : o.k = 3 := by
        rcases Int.lt_or_eq_of_le k2 with h | h
        · omega
        · rw [hcs3 h] at hj; simp at hj
      obtain ⟨b0, b1⟩ := hcs _ (List.getElem_mem hj)
      obtain ⟨c, hc⟩ := Int.eq_ofNat_of_zero_le b0
      have hcl : c < caps.length := by omega
      have hc4' : c < 4 := by omega
      rw [List.drop_eq_getElem_cons hj, firstP, hc] at he
      obtain ⟨v, a1, a2, a3⟩ := svl hc4'
      obtain ⟨r1, r2⟩ := hr.recv hcl
      refine ⟨_, hw8.int hj, ?_⟩
      rw [hc]
      refine ⟨⟨by omega, by omega⟩, _, a3, _, a2, ⟨by omega, by omega⟩, _, h13.ldTaken hc4', fun hlt => done H13 (Keep.refl _) _ ?_, fun hlt => ⟨m - 1, by omega, j + 1, wsucc hj g4.small, by omega, ?_⟩⟩
      · rw [r1 (by omega)] at he
        unfold tryP
        rw [if_neg ne1, if_neg ne2, if_pos h3, he]; rfl
      · rw [r2 (by omega)] at he
        exact he
    · rw [List.drop_eq_nil_of_le (by omega), firstP] at he
      have e : (tryP caps s.buf o waited).1 = (-1, 0, decide (o.w ≥ 0) && decide (waited ≥ o.w)) := by
        unfold tryP
        rw [if_neg ne1, if_neg ne2]
        split
        · rw [he]
        · have := c3 (by omega)
          rw [decide_eq_true (show o.w ≥ 0 by omega), Bool.true_and]
      rw [e] at done
      refine ⟨fun ⟨x1, x2⟩ => done H13 (Keep.refl _) _ ?_, fun hx => done H13 (Keep.refl _) _ ?_⟩
      · rw [if_pos (by simp only [Bool.and_eq_true, decide_eq_true_eq]; exact ⟨x2, x1⟩)]
      · rw [if_neg (by simp only [Bool.and_eq_true, decide_eq_true_eq]; exact fun ⟨y1, y2⟩ => hx ⟨y2, y1⟩)]

end De
end Go.RM

/-
  The order of the turns, and what a turn can do: in plain terms.
-/
namespace Go.RM
set_option linter.unusedSimpArgs false
set_option linter.unusedVariables false
namespace De

def Lex (key : Nat → Int) (a b : Nat) : Prop := key a < key b ∨ (key a = key b ∧ a < b)
theorem Lex.ne {key : Nat → Int} {a b : Nat} (h : Lex key a b) : a ≠ b := by
  rintro rfl
  unfold Lex at h; omega

theorem insP_lex {key : Nat → Int} {x : Nat} : ∀ {l : List Nat}, l.Pairwise (Lex key) → (∀ y ∈ l, y < x) → (insP key x l).Pairwise (Lex key)
  | [], _, _ => by rw [insP]; exact List.pairwise_cons.2 ⟨fun _ h => by simp at h, List.Pairwise.nil⟩
  | y :: l, h, hx => by
    obtain ⟨h1, h2⟩ := List.pairwise_cons.1 h
    rw [insP]
    split
    · rename_i hlt
      refine List.pairwise_cons.2 ⟨fun z hz => ?_, h⟩
      rcases List.mem_cons.1 hz with rfl | hz
      · exact .inl hlt
      · have := h1 z hz
        unfold Lex at this ⊢; omega
    · rename_i hlt
      refine List.pairwise_cons.2 ⟨fun z hz => ?_, insP_lex h2 fun y hy => hx y (List.mem_cons_of_mem _ hy)⟩
      rcases insP_mem.1 hz with rfl | hz
      · have := hx y (by simp)
        unfold Lex; omega
      · exact h1 z hz

theorem sort_lex {key : Nat → Int} : ∀ n, (sortP key (List.range n)).Pairwise (Lex key)
  | 0 => List.Pairwise.nil
  | n + 1 => by
    rw [List.range_succ, sort_snoc]
    exact insP_lex (sort_lex n) fun y hy => sort_mem.1 hy

theorem turns_fst {caps : List Int} : ∀ {l : List Nat} {s : Sys} {b b' : Bool}, (turnsP caps l s b).1 = (turnsP caps l s b').1
  | [], _, _, _ => rfl
  | p :: l, s, b, b' => by rw [turnsP, turnsP]; exact turns_fst

theorem getD_set {α : Type} {l : List α} {i j : Nat} {a d : α} (h : i < l.length) : (l.set i a).getD j d = if j = i then a else l.getD j d := by
  rw [List.getD_eq_getElem?_getD, List.getD_eq_getElem?_getD]
  by_cases e : j = i
  · subst e; rw [if_pos rfl, List.getElem?_set_self h]; rfl
  · rw [if_neg e, List.getElem?_set_ne (Ne.symm e)]
theorem getD_set_ne {α : Type} {l : List α} {i j : Nat} {a d : α} (h : j ≠ i) : (l.set i a).getD j d = l.getD j d := by
  rw [List.getD_eq_getElem?_getD, List.getD_eq_getElem?_getD, List.getElem?_set_ne (Ne.symm h)]

theorem turn_other {caps : List Int} {s : Sys} {p q : Nat} (h : q ≠ p) : (turnP caps s p).1.ops.getD q [] = s.ops.getD q [] ∧ (turnP caps s p).1.since.getD q 0 = s.since.getD q 0 := by
  rcases turn_cases (caps := caps) s p with ⟨e, _, _⟩ | ⟨o, r, _, _, _, e⟩
  · rw [e]; exact ⟨rfl, rfl⟩
  · rw [e]; exact ⟨getD_set_ne h, getD_set_ne h⟩

def hasP (s : Sys) (p : Nat) : Bool := !(s.ops.getD p []).isEmpty

theorem turns_filter {caps : List Int} : ∀ {l : List Nat} {s : Sys} {b : Bool}, l.Nodup → (turnsP caps l s b).1 = (turnsP caps (l.filter (hasP s)) s b).1
  | [], _, _, _ => rfl
  | p :: l, s, b, h => by
    obtain ⟨h1, h2⟩ := List.nodup_cons.1 h
    rw [List.filter_cons]
    by_cases hp : hasP s p = true
    · rw [if_pos hp, turnsP, turnsP, turns_filter h2]
      have : l.filter (hasP (turnP caps s p).1) = l.filter (hasP s) := List.filter_congr fun q hq => by
        unfold hasP
        rw [(turn_other (fun e => h1 (by rw [← e]; exact hq))).1]
      rw [this]
    · have e : s.ops.getD p [] = [] := by
        unfold hasP at hp
        cases hx : s.ops.getD p [] with
        | nil => rfl
        | cons => rw [hx] at hp; exact absurd rfl hp
      have et : turnP caps s p = (s, false) := by unfold turnP; rw [e]
      rw [if_neg hp, turnsP, et, turns_filter h2]
      exact turns_fst

/-- What is still to come in a tick. -/
structure Rest (key : Nat → Int) (scr : List (List Op)) (d : Wd) (rest : List Nat) : Prop where
  pw : rest.Pairwise (Lex key)
  mem : ∀ p, p ∈ rest → p < scr.length ∧ OkP scr d p ∧ d.since.getD p 0 = key p
  all : ∀ p, p < scr.length → OkP scr d p → p ∈ rest

theorem Rest.tail {key : Nat → Int} {scr : List (List Op)} {d d' : Wd} {p : Nat} {r : List Nat} (h : Rest key scr d (p :: r)) (h1 : ∀ q, q ≠ p → (OkP scr d' q ↔ OkP scr d q)) (h2 : ¬ OkP scr d' p) (h3 : ∀ q, q ≠ p → d'.since.getD q 0 = d.since.getD q 0) : Rest key scr d' r := by
  obtain ⟨a, b⟩ := List.pairwise_cons.1 h.pw
  refine ⟨b, fun q hq => ?_, fun q hq ho => ?_⟩
  · have hne : q ≠ p := (a q hq).ne.symm
    obtain ⟨c1, c2, c3⟩ := h.mem q (by simp [hq])
    exact ⟨c1, (h1 q hne).2 c2, by rw [h3 q hne]; exact c3⟩
  · have hne : q ≠ p := fun e => h2 (e ▸ ho)
    rcases List.mem_cons.1 (h.all q hq ((h1 q hne).1 ho)) with e | h
    · exact absurd e hne
    · exact h

theorem Rest.pick {key : Nat → Int} {scr : List (List Op)} {d : Wd} {rest : List Nat} {best : Int} (h : Rest key scr d rest) (hp : PickIs (OkP scr d) (fun p => d.since.getD p 0) scr.length best) : (rest = [] ∧ best = -1) ∨ ∃ p r, rest = p :: r ∧ best = (p : Nat) := by
  cases rest with
  | nil =>
    rcases hp with ⟨h1, _⟩ | ⟨b, h1, h2, h3, _⟩
    · exact .inl ⟨rfl, h1⟩
    · have := h.all b h1 h3; simp at this
  | cons p r =>
    obtain ⟨p1, p2, p3⟩ := h.mem p (by simp)
    rcases hp with ⟨_, h2⟩ | ⟨b, h1, h2, h3, h4⟩
    · exact absurd p2 (h2 p p1)
    · refine .inr ⟨p, r, rfl, ?_⟩
      rcases List.mem_cons.1 (h.all b h1 h3) with rfl | hb
      · exact h2
      · have l := (List.pairwise_cons.1 h.pw).1 b hb
        have l2 := h4 p p1 p2
        have kb := (h.mem b (by simp [hb])).2.2
        simp only [p3, kb] at l2
        unfold Lex at l; omega

/-- A valid operation that waits has no value. -/
theorem code_v {o : Op} {n : Int} (h : codeE o n = 0) (h1 : o.k ≠ 1) : o.v = 0 := by
  obtain ⟨⟨k1, k2⟩, _⟩ := code_ok h
  unfold codeE at h
  rw [if_neg (by omega)] at h
  split at h
  · split at h
    · simp at h
    · rename_i h3; omega
  · split at h
    · split at h
      · simp at h
      · omega
    · split at h
      · simp at h
      · omega

theorem done_cases {caps : List Int} {buf : List (List Int)} {o : Op} {x : Int} (hc : codeE o caps.length = 0) (h : (tryP caps buf o x).1.2.2 = true) :
    (o.k = 1 ∧ (∃ c : Nat, c < caps.length ∧ o.c = c ∧ tryP caps buf o x = (((c : Int), o.v, true), buf.set c (buf.getD c [] ++ [o.v])))) ∨
    (o.k ≠ 1 ∧ ∃ c : Nat, c < caps.length ∧ ∃ v b, recvP buf c = some (v, b) ∧ tryP caps buf o x = (((c : Int), v, true), b)) ∨
    (o.k ≠ 1 ∧ 3 ≤ o.k ∧ o.v = 0 ∧ x ≥ o.w ∧ tryP caps buf o x = ((-1, 0, true), buf)) := by
  obtain ⟨⟨k1, k2⟩, c1, c2, c3⟩ := code_ok hc
  by_cases e1 : o.k = 1
  · obtain ⟨b0, b1⟩ := c1 (by omega)
    obtain ⟨c, hc⟩ := Int.eq_ofNat_of_zero_le b0
    refine .inl ⟨e1, c, by omega, hc, ?_⟩
    unfold tryP at h ⊢
    rw [if_pos e1] at h ⊢
    split
    · rename_i hx; rw [if_pos hx] at h; simp at h
    · rw [hc, Int.toNat_natCast]
  · by_cases e2 : o.k = 2
    · obtain ⟨b0, b1⟩ := c1 (by omega)
      obtain ⟨c, hc⟩ := Int.eq_ofNat_of_zero_le b0
      refine .inr (.inl ⟨e1, c, by omega, ?_⟩)
      unfold tryP at h ⊢
      rw [if_neg e1, if_pos e2, hc] at h ⊢
      cases hr : recvP buf c with
      | none => rw [hr] at h; simp at h
      | some y => obtain ⟨v, b⟩ := y; exact ⟨v, b, rfl, rfl⟩
    · have hv := code_v hc e1
      by_cases e3 : o.k = 3
      · obtain ⟨d1, _⟩ := c2 e3
        unfold tryP at h ⊢
        rw [if_neg e1, if_neg e2, if_pos e3] at h ⊢
        cases hr : firstP buf o.cs with
        | none =>
          rw [hr] at h
          refine .inr (.inr ⟨e1, by omega, hv, ?_, ?_⟩)
          · simp only [Bool.and_eq_true, decide_eq_true_eq] at h; exact h.2
          · simp only at h ⊢; rw [h]
        | some y =>
          obtain ⟨c, v, b⟩ := y
          obtain ⟨f1, f2⟩ := first_shape hr
          obtain ⟨b0, b1⟩ := d1 c f1
          obtain ⟨c', rfl⟩ := Int.eq_ofNat_of_zero_le b0
          exact .inr (.inl ⟨e1, c', by omega, v, b, f2, rfl⟩)
      · unfold tryP at h ⊢
        rw [if_neg e1, if_neg e2, if_neg e3] at h ⊢
        refine .inr (.inr ⟨e1, by omega, hv, by simpa using h, ?_⟩)
        simp only at h; rw [h]

theorem Rel.turn {caps : List Int} {scr : List (List Op)} {d : Wd} {s : Sys} {p : Nat} {o : Op} {r : List Op} {sent' : List (List Int)} {taken' : List Nat} {buf' : List (List Int)} {se : List Bool} {R : Res} {t : Int} (h : Rel caps scr d s) (hp : p < scr.length) (hn : p < d.next.length) (hsi : p < d.since.length) (ho : s.ops.getD p [] = o :: r)
    (h1 : buf'.length = caps.length) (h2 : ∀ c, c < caps.length → taken'.getD c 0 ≤ (sent'.getD c []).length ∧ buf'.getD c [] = (sent'.getD c []).drop (taken'.getD c 0)) (h3 : ∀ c, (sent'.getD c []).length ≤ s.res.length + 1) :
    Rel caps scr { sent := sent', taken := taken', next := d.next.set p (d.next.getD p 0 + 1), since := d.since.set p t, seen := se, tick := d.tick, res := d.res ++ [R] } { buf := buf', ops := s.ops.set p r, since := s.since.set p t, tick := s.tick, res := s.res ++ [R] } := by
  refine ⟨h.tick, by simp only [h.res], h1, by simpa using h.olen, by simpa using h.silen, h2, fun q hq => ?_, fun q hq => ?_, fun c => by simpa using h3 c, fun q hq => ?_⟩
  · simp only
    rw [getD_set (by rw [h.olen]; exact hp), getD_set hn]
    by_cases e : q = p
    · subst e
      rw [if_pos rfl, if_pos rfl]
      have := h.ops q hq
      rw [ho] at this
      exact (drop_cons this.symm).2.2
    · rw [if_neg e, if_neg e]; exact h.ops q hq
  · simp only
    rw [getD_set (by rw [h.silen]; exact hp), getD_set hsi]
    by_cases e : q = p
    · rw [if_pos e, if_pos e]
    · rw [if_neg e, if_neg e]; exact h.since q hq
  · simp only
    rw [getD_set hn]
    split
    · rename_i e
      subst e
      have := h.ops q hq
      rw [ho] at this
      obtain ⟨a, _⟩ := drop_cons this.symm
      omega
    · exact h.nx q hq

end De
end Go.RM

/-
  The document's simulation: a tick.
-/
namespace Go.RM
set_option linter.unusedSimpArgs false
set_option linter.unusedVariables false
namespace De
variable {F : Nat → Option RFunc}

/-- A result is noted, the process goes on to its next operation, and the next process is looked for. -/
theorem note_c {n1 fl : Nat} (h1 : PickC F n1) {H0 : Heap} {caps : List Int} {scr : List (List Op)} {own : Nat → Option Wh} {H : Heap} {wb : Nat} {cv sv rv : AV} {svs : List AV} {d : Wd} {p : Nat} {ch v : Int} {Q : AV → Heap → Prop}
    (w : Wst H0 caps scr own H wb cv sv svs rv d) (hfl : fl ≤ H0.length) (h5 : scr.length ≤ 5) (hp : p < 5) (ht : 0 ≤ d.tick ∧ d.tick ≤ 100000) (hres : d.res.length ≤ 2 ^ 29) (hnx : d.next.getD p 0 ≤ 9223372036854775806)
    (hq : ∀ best H' own' rv', Wst H0 caps scr own' H' wb cv sv svs rv' { d with next := d.next.set p (d.next.getD p 0 + 1), since := d.since.set p (d.tick + 1), res := d.res ++ [⟨d.tick, p, ch, v⟩] } →
      PickIs (OkP scr { d with next := d.next.set p (d.next.getD p 0 + 1), since := d.since.set p (d.tick + 1), res := d.res ++ [⟨d.tick, p, ch, v⟩] }) (fun q => (d.since.set p (d.tick + 1)).getD q 0) scr.length best → Q (i64 best) H') :
    ∃ e46, rload H none wb (0 + 26) = some e46 ∧ ∀ (b47 : Nat) (H48 : Heap), NewB H 4 [i64 d.tick, i64 p, i64 ch, i64 v] b47 H48 → ∃ (a49 : AV) (H50 : Heap), appA fl true 4 32 H48 e46 (.slice b47 0 1 (some 1)) = some (a49, H50) ∧ ∃ H51 : Heap, putA fl H50 wb (0 + 26) 1 a49 = some H51 ∧
      (0 ≤ (p : Int) ∧ (p : Int) < ((5 : Nat) : Int)) ∧ ∃ (e52 : Int), rload H51 none wb ((0 + 10) + Int.toNat (p : Int) * 1) = some (.int .i64 e52) ∧ (0 ≤ (p : Int) ∧ (p : Int) < ((5 : Nat) : Int)) ∧ ∃ H53 : Heap, putA fl H51 wb ((0 + 10) + Int.toNat (p : Int) * 1) 1 (.int .i64 (IntKind.wrap .i64 (e52 + 1))) = some H53 ∧
      ∃ (e54 : Int), rload H53 none wb (0 + 25) = some (.int .i64 e54) ∧ (0 ≤ (p : Int) ∧ (p : Int) < ((5 : Nat) : Int)) ∧ ∃ H55 : Heap, putA fl H53 wb ((0 + 15) + Int.toNat (p : Int) * 1) 1 (.int .i64 (IntKind.wrap .i64 (e54 + 1))) = some H55 ∧ Ret F fl n1 [(.ptr wb 0)] H55 Q := by
  refine ⟨_, w.ldRes, ?_⟩
  intro b47 H48 n48
  obtain ⟨a, H50, q1, H51, q2, own', w51⟩ := w.pushRes (r := ⟨d.tick, p, ch, v⟩) hfl n48 hres
  refine ⟨a, H50, q1, H51, q2, ⟨by omega, by omega⟩, _, w51.ldNext hp, ⟨by omega, by omega⟩, ?_⟩
  have e1 : IntKind.wrap .i64 (((d.next.getD p 0 : Nat) : Int) + 1) = ((d.next.getD p 0 + 1 : Nat) : Int) := by rw [wrap64 (by omega) (by omega)]; omega
  rw [show (({ d with res := d.res ++ [⟨d.tick, p, ch, v⟩] } : Wd).next.getD p 0) = d.next.getD p 0 from rfl, e1]
  obtain ⟨H53, q3, _, w53⟩ := w51.putNext hfl hp (d.next.getD p 0 + 1)
  refine ⟨H53, q3, d.tick, w53.ldTick, ⟨by omega, by omega⟩, ?_⟩
  rw [wrap64 (by omega) (by omega)]
  obtain ⟨H55, q4, _, w55⟩ := w53.putSince hfl hp (d.tick + 1)
  refine ⟨H55, q4, h1 w55 h5 fun best hb => hq best H55 own' a w55 hb⟩

abbrev PassC (F : Nat → Option RFunc) (f : Nat) : Prop := ∀ {fl H0 caps scr own H wb cv sv svs rv d Q s}, Wst H0 caps scr own H wb cv sv svs rv d → Rel caps scr d s → Ok caps s → caps.length ≤ 4 → scr.length ≤ 5 → s.tick ≤ 100000 → fl ≤ H0.length →
  (∀ own' H' svs' rv' d', Wst H0 caps scr own' H' wb cv sv svs' rv' d' → Rel caps scr d' (stepP caps s).1 → Q .undef H') → Ret F fl f [.ptr wb 0] H Q
theorem pass_c {f n1 n2 : Nat} (hF : F f = some (rf_FWorld_Pass n1 n2)) (h1 : PickC F n1) (h2 : ChoiceC F n2) : PassC F f := fun {fl H0 caps scr own H wb cv sv svs rv d Q s} h hr hok hc4 h5 htick hfl hq => by
  refine v_FWorld_Pass hF _ _ ?_
  obtain ⟨H2, p1, p2, p3⟩ := h.putClear (fl := fl) hfl
  refine ⟨H2, p1, ?_⟩
  refine h1 p3 h5 fun best hb => ⟨_, rfl, ?_⟩
  have hlex := sort_lex (key := fun p => s.since.getD p 0) s.ops.length
  have hnd : (sortP (fun p => s.since.getD p 0) (List.range s.ops.length)).Nodup := hlex.imp Lex.ne
  have hT := turns_filter (caps := caps) (s := s) (b := false) hnd
  have hstep : (stepP caps s).1 = { (turnsP caps (sortP (fun p => s.since.getD p 0) (List.range s.ops.length)) s false).1 with tick := (turnsP caps (sortP (fun p => s.since.getD p 0) (List.range s.ops.length)) s false).1.tick + 1 } := rfl
  rw [hT] at hstep
  have hhas : ∀ p, p < scr.length → (hasP s p = true ↔ d.next.getD p 0 < (scr.getD p []).length) := fun p hp => by
    have := hr.ops p hp
    unfold hasP
    rw [this]
    rcases Nat.lt_or_ge (d.next.getD p 0) (scr.getD p []).length with h' | h'
    · rw [List.drop_eq_getElem_cons h']; simp [h']
    · rw [List.drop_eq_nil_of_le h']; exact ⟨fun h => by simp at h, fun h => by omega⟩
  have hrest : Rest (fun p => s.since.getD p 0) scr { d with seen := [false, false, false, false, false] } ((sortP (fun p => s.since.getD p 0) (List.range s.ops.length)).filter (hasP s)) := by
    refine ⟨hlex.filter _, fun p hp => ?_, fun p hp ho => ?_⟩
    · obtain ⟨a, b⟩ := List.mem_filter.1 hp
      have hp' : p < scr.length := by rw [← hr.olen]; exact sort_mem.1 a
      refine ⟨hp', ⟨?_, (hhas p hp').1 b⟩, (hr.since p hp').symm⟩
      show ([false, false, false, false, false] : List Bool).getD p false = false
      match p with
      | 0 | 1 | 2 | 3 | 4 => rfl
      | n + 5 => rfl
    · exact List.mem_filter.2 ⟨sort_mem.2 (by rw [hr.olen]; exact hp), (hhas p hp).2 ho.2⟩
  generalize (sortP (fun p => s.since.getD p 0) (List.range s.ops.length)).filter (hasP s) = rest0 at hstep hrest
  have hr2 : Rel caps scr { d with seen := [false, false, false, false, false] } s := ⟨hr.tick, hr.res, hr.blen, hr.olen, hr.silen, hr.buf, hr.ops, hr.since, hr.sm, hr.nx⟩
  refine ⟨fun m v H' => ∃ (rest : List Nat) (own2 : Nat → Option Wh) (svs2 : List AV) (rv2 : AV) (d2 : Wd) (s2 : Sys), m = rest.length ∧ Wst H0 caps scr own2 H' wb cv sv svs2 rv2 d2 ∧ Rel caps scr d2 s2 ∧ Ok caps s2 ∧ s2.tick = s.tick ∧ Rest (fun p => s.since.getD p 0) scr d2 rest ∧
    PickIs (OkP scr d2) (fun p => d2.since.getD p 0) scr.length v ∧ (turnsP caps rest s2 false).1 = (turnsP caps rest0 s false).1, rest0.length, ⟨rest0, own, svs, rv, _, s, rfl, p3, hr2, hok, rfl, hrest, hb, rfl⟩, ?_⟩
  rintro m v H17 ⟨rest, own2, svs2, rv2, d2, s2, rfl, w2, r2, ok2, ht2, rs, pk, he⟩
  have tk0 := ok2.tick
  have ht3 := r2.tick
  rcases rs.pick pk with ⟨rfl, rfl⟩ | ⟨p, r, rfl, rfl⟩
  · refine ⟨fun hx => by omega, fun _ => ?_⟩
    rw [turnsP] at he
    obtain ⟨H95, q1, _, q3⟩ := w2.putTick hfl (d2.tick + 1)
    refine ⟨_, w2.ldTick, H95, by rw [wrap64 (by omega) (by omega)]; exact q1, hq _ _ _ _ _ q3 ?_⟩
    rw [hstep, ← he]
    exact ⟨by simp only [ht3], r2.res, r2.blen, r2.olen, r2.silen, r2.buf, r2.ops, r2.since, r2.sm, r2.nx⟩
  · obtain ⟨m1, m2, m3⟩ := rs.mem p (by simp)
    have hp5 : p < 5 := by omega
    refine ⟨fun _ => ⟨⟨by omega, by omega⟩, ?_⟩, fun hx => absurd (Int.natCast_nonneg p) hx⟩
    obtain ⟨H18, q1, q2, w18⟩ := w2.putSeen hfl hp5 true
    refine ⟨H18, q1, ?_⟩
    have hops := r2.ops p m1
    rw [getD_get m1] at hops
    have hn : d2.next.getD p 0 < scr[p].length := by have := m2.2; rw [getD_get m1] at this; exact this
    rw [List.drop_eq_getElem_cons hn] at hops
    have r18 : Rel caps scr { d2 with seen := d2.seen.set p true } s2 := ⟨r2.tick, r2.res, r2.blen, r2.olen, r2.silen, r2.buf, r2.ops, r2.since, r2.sm, r2.nx⟩
    generalize hol : scr[p][d2.next.getD p 0] = o at hops
    generalize scr[p].drop (d2.next.getD p 0 + 1) = r' at hops
    have code := ok2.ops _ (List.mem_of_getElem? (getD_some hops)) o (by simp)
    have sumb := ok2.sum
    have lseen := w2.lens.se
    have lnext := w2.lens.nx
    have lsince := w2.lens.si
    have l4 := w2.slen
    have ltk := w2.lens.tk
    have okne : ∀ q, q ≠ p → ∀ (se : List Bool) (nx : List Nat), se = d2.seen.set p true → (nx = d2.next ∨ nx = d2.next.set p (d2.next.getD p 0 + 1)) → ∀ a b c e f, (OkP scr { sent := a, taken := b, next := nx, since := c, seen := se, tick := e, res := f } q ↔ OkP scr d2 q) := by
      rintro q hq se nx rfl hnx a b c e f
      unfold OkP
      simp only
      rw [getD_set_ne hq]
      rcases hnx with rfl | rfl
      · rfl
      · rw [getD_set_ne hq]
    have okp : ∀ nx a b c e f, ¬ OkP scr { sent := a, taken := b, next := nx, since := c, seen := d2.seen.set p true, tick := e, res := f } p := fun nx a b c e f ho => by
      have h0 := ho.1
      simp only at h0
      rw [getD_set (by omega), if_pos rfl] at h0
      cases h0
    rw [turnsP] at he
    refine h2 w18 r18 ok2 hc4 h5 (by omega) m1 hops fun H20 k20 => ⟨_, rfl, fun hx => ?_, fun hx => ?_⟩
    · -- it cannot be done now
      have w20 := w18.keep k20
      have et : (turnP caps s2 p).1 = s2 := by
        rcases turn_cases (caps := caps) s2 p with ⟨e, _⟩ | ⟨o', r'', e1, e2, _⟩
        · exact e
        · rw [hops] at e1; cases e1
          exfalso
          unfold choiceE at hx
          rw [if_pos e2] at hx
          rcases done_cases code e2 with ⟨_, c, _, _, e⟩ | ⟨_, c, _, _, _, _, e⟩ | ⟨_, _, _, _, e⟩ <;> rw [e] at hx <;> simp only at hx <;> omega
      rw [et] at he
      refine h1 w20 h5 fun best' hb' => ⟨_, rfl, r.length, by simp, r, own2, svs2, rv2, _, s2, rfl, w20, r18, ok2, ht2, ?_, hb', turns_fst.trans he⟩
      exact rs.tail (fun q hq => okne q hq _ _ rfl (.inl rfl) _ _ _ _ _) (okp _ _ _ _ _ _) fun q hq => rfl
    · have hd : (tryP caps s2.buf o (s2.tick - s2.since.getD p 0)).1.2.2 = true := Classical.byContradiction fun hn => hx (by unfold choiceE; rw [if_neg hn])
      have hch : choiceE caps s2 o p = (tryP caps s2.buf o (s2.tick - s2.since.getD p 0)).1.1 := by unfold choiceE; rw [if_pos hd]
      have et : (turnP caps s2 p).1 = { buf := (tryP caps s2.buf o (s2.tick - s2.since.getD p 0)).2, ops := s2.ops.set p r', since := s2.since.set p (s2.tick + 1), tick := s2.tick, res := s2.res ++ [⟨s2.tick, p, (tryP caps s2.buf o (s2.tick - s2.since.getD p 0)).1.1, (tryP caps s2.buf o (s2.tick - s2.since.getD p 0)).1.2.1⟩] } := by
        unfold turnP
        simp only [hops]
        rw [if_pos hd]
      have ok3 := turn_ok ok2 p
      have tk3 := turn_tick (caps := caps) (s := s2) p
      rw [hch]
      clear hx hch
      have w20 := w18.keep k20
      obtain ⟨w, g1, g2⟩ := arr_getK w20.scr w20.k m1
      obtain ⟨w', g3, g4⟩ := op_getK g2 w20.k hn
      rw [hol] at g3 g4
      refine ⟨_, w20.ldS, _, g1, ⟨by omega, by omega⟩, _, w20.ldNext hp5, _, _, _, _, _, g3, ?_⟩
      intro H36 d36
      have w36 := w20.keep d36.keep
      refine ⟨g4.scal, d2.tick, w36.ldTick, ?_⟩
      intro H39 d39
      have w39 := w36.keep d39.keep
      have hresl : d2.res.length ≤ 2 ^ 29 := by rw [← r2.res]; omega
      -- what is shown at the end
      have fin : ∀ (sent' : List (List Int)) (taken' : List Nat) (R : Res) best H' own' svs' rv', Wst H0 caps scr own' H' wb cv sv svs' rv' { sent := sent', taken := taken', next := d2.next.set p (d2.next.getD p 0 + 1), since := d2.since.set p (d2.tick + 1), seen := d2.seen.set p true, tick := d2.tick, res := d2.res ++ [R] } →
          PickIs (OkP scr { sent := sent', taken := taken', next := d2.next.set p (d2.next.getD p 0 + 1), since := d2.since.set p (d2.tick + 1), seen := d2.seen.set p true, tick := d2.tick, res := d2.res ++ [R] }) (fun q => (d2.since.set p (d2.tick + 1)).getD q 0) scr.length best →
          R = ⟨s2.tick, p, (tryP caps s2.buf o (s2.tick - s2.since.getD p 0)).1.1, (tryP caps s2.buf o (s2.tick - s2.since.getD p 0)).1.2.1⟩ →
          (tryP caps s2.buf o (s2.tick - s2.since.getD p 0)).2.length = caps.length →
          (∀ c, c < caps.length → taken'.getD c 0 ≤ (sent'.getD c []).length ∧ (tryP caps s2.buf o (s2.tick - s2.since.getD p 0)).2.getD c [] = (sent'.getD c []).drop (taken'.getD c 0)) → (∀ c, (sent'.getD c []).length ≤ s2.res.length + 1) →
          ∃ r19 : Int, i64 best = i64 r19 ∧ ∃ m', m' < (p :: r).length ∧ ∃ (rest : List Nat) (own2 : Nat → Option Wh) (svs2 : List AV) (rv2 : AV) (d2 : Wd) (s2 : Sys), m' = rest.length ∧ Wst H0 caps scr own2 H' wb cv sv svs2 rv2 d2 ∧ Rel caps scr d2 s2 ∧ Ok caps s2 ∧ s2.tick = s.tick ∧ Rest (fun p => s.since.getD p 0) scr d2 rest ∧
            PickIs (OkP scr d2) (fun p => d2.since.getD p 0) scr.length r19 ∧ (turnsP caps rest s2 false).1 = (turnsP caps rest0 s false).1 := by
        intro sent' taken' R best H' own' svs' rv' ww pp hR hbl hbuf hsm
        have rr := Rel.turn (o := o) (r := r') (se := d2.seen.set p true) (R := R) (t := d2.tick + 1) (buf' := (tryP caps s2.buf o (s2.tick - s2.since.getD p 0)).2) r2 m1 (by omega) (by omega) hops hbl hbuf hsm
        rw [← ht3, hR] at rr
        rw [← ht3] at ww pp
        rw [hR] at ww pp
        refine ⟨best, rfl, r.length, by simp, r, own', svs', rv', _, (turnP caps s2 p).1, rfl, ww, by rw [et]; exact rr, ok3, by rw [tk3, ht2], ?_, pp, turns_fst.trans he⟩
        exact rs.tail (fun q hq => okne q hq _ _ rfl (.inr rfl) _ _ _ _ _) (okp _ _ _ _ _ _) fun q hq => getD_set_ne hq
      have hnx : d2.next.getD p 0 ≤ 9223372036854775806 := by
        have := g2.small; omega
      have buf0 := r2.buf
      have sm0 := r2.sm
      rcases done_cases code hd with ⟨e1, c, hcl, hoc, ht⟩ | ⟨e1, c, hcl, v, b, hrv, ht⟩ | ⟨e1, e3, hv, _, ht⟩
      · -- send
        rw [ht] at fin ⊢
        simp only at fin ⊢
        have hc4' : c < 4 := by omega
        refine ⟨fun _ => ?_, fun hne => absurd e1 hne⟩
        obtain ⟨sv1, s1, s2'⟩ := w39.ldSent hc4'
        refine ⟨⟨by omega, by omega⟩, _, s2', ?_⟩
        intro b41 H42 n42
        have smc := sm0 c
        obtain ⟨a43, H44, u1, H45, u2, own3, w45⟩ := w39.pushSent hfl hc4' s1 n42 (by simp only; omega)
        refine ⟨a43, H44, u1, ⟨by omega, by omega⟩, H45, u2, ?_⟩
        refine note_c (d := { d2 with sent := d2.sent.set c (d2.sent.getD c [] ++ [o.v]), seen := d2.seen.set p true }) h1 w45 hfl h5 hp5 ⟨by simp only; omega, by simp only; omega⟩ hresl hnx ?_
        intro best' H' own' rv' ww pp
        have hbc : c < s2.buf.length := by rw [r2.blen]; exact hcl
        refine fin _ _ _ best' H' own' _ rv' ww pp (by rw [ht3]) (by rw [List.length_set]; exact r2.blen) (fun c' hc' => ?_) fun c' => ?_
        · obtain ⟨x1, x2⟩ := buf0 c' hc'
          rw [getD_set hbc, getD_set (by omega)]
          by_cases e : c' = c
          · subst e
            rw [if_pos rfl, if_pos rfl]
            refine ⟨by simp only [List.length_append]; omega, ?_⟩
            rw [x2, List.drop_append_of_le_length x1]
          · rw [if_neg e, if_neg e]; exact ⟨x1, x2⟩
        · rw [getD_set (by omega)]
          have := sm0 c'
          split
          · simp only [List.length_append, List.length_cons, List.length_nil]; omega
          · omega
      · -- receive
        rw [ht] at fin ⊢
        simp only at fin ⊢
        have hc4' : c < 4 := by omega
        refine ⟨fun h => absurd h e1, fun _ => ⟨fun _ => ?_, fun hne => absurd (Int.natCast_nonneg c) hne⟩⟩
        obtain ⟨sv1, s1, s2'⟩ := w39.ldSent hc4'
        obtain ⟨r1, r2'⟩ := r2.recv hcl
        have hlt : d2.taken.getD c 0 < (d2.sent.getD c []).length := Classical.byContradiction fun hn => by rw [r2' hn] at hrv; cases hrv
        have hrv2 := r1 hlt
        rw [hrv] at hrv2
        simp only [Option.some.injEq, Prod.mk.injEq] at hrv2
        obtain ⟨rfl, rfl⟩ := hrv2
        have hcs : c < d2.sent.length := by omega
        have hgr := w39.sent c sv1 _ s1 (List.getElem?_eq_getElem hcs)
        have hlt' : d2.taken.getD c 0 < d2.sent[c].length := by rw [← getD_get hcs (a := [])]; exact hlt
        have eget : getA H39 1 none sv1 ((d2.taken.getD c 0 : Nat) : Int) 0 = some (i64 ((d2.sent.getD c []).getD (d2.taken.getD c 0) 0)) := by
          refine hgr.sl.cell hlt' (by decide) ?_
          rw [Nat.mul_one, Nat.add_zero, List.getElem?_map, List.getElem?_eq_getElem hlt', getD_get hcs, getD_get hlt']; rfl
        have smc := sm0 c
        refine ⟨⟨by omega, by omega⟩, _, s2', ⟨by omega, by omega⟩, _, w39.ldTaken hc4', _, eget, ⟨by omega, by omega⟩, _, w39.ldTaken hc4', ⟨by omega, by omega⟩, ?_⟩
        have e1' : IntKind.wrap .i64 (((d2.taken.getD c 0 : Nat) : Int) + 1) = ((d2.taken.getD c 0 + 1 : Nat) : Int) := by rw [wrap64 (by omega) (by omega)]; omega
        rw [show ((({ d2 with seen := d2.seen.set p true } : Wd).taken.getD c 0 : Nat) : Int) = ((d2.taken.getD c 0 : Nat) : Int) from rfl, e1']
        obtain ⟨H65, u1, _, w65⟩ := w39.putTaken hfl hc4' (d2.taken.getD c 0 + 1)
        refine ⟨H65, u1, ?_⟩
        refine note_c (d := { d2 with taken := d2.taken.set c (d2.taken.getD c 0 + 1), seen := d2.seen.set p true }) h1 w65 hfl h5 hp5 ⟨by simp only; omega, by simp only; omega⟩ hresl hnx ?_
        intro best' H' own' rv' ww pp
        have hbc : c < s2.buf.length := by rw [r2.blen]; exact hcl
        refine fin _ _ _ best' H' own' _ rv' ww pp (by rw [ht3]) (by rw [List.length_set]; exact r2.blen) (fun c' hc' => ?_) fun c' => ?_
        · obtain ⟨x1, x2⟩ := buf0 c' hc'
          rw [getD_set hbc, getD_set (by omega)]
          by_cases e : c' = c
          · subst e
            rw [if_pos rfl, if_pos rfl]
            exact ⟨hlt, rfl⟩
          · rw [if_neg e, if_neg e]; exact ⟨x1, x2⟩
        · exact Nat.le_succ_of_le (sm0 c')
      · -- a time has come
        rw [ht] at fin ⊢
        simp only at fin ⊢
        refine ⟨fun h => absurd h e1, fun _ => ⟨fun hx => by omega, fun _ => ?_⟩⟩
        refine note_c (d := { d2 with seen := d2.seen.set p true }) h1 w39 hfl h5 hp5 ⟨by simp only; omega, by simp only; omega⟩ hresl hnx ?_
        intro best' H' own' rv' ww pp
        exact fin _ _ _ best' H' own' _ rv' ww pp (by rw [ht3, hv]) r2.blen buf0 fun c' => Nat.le_succ_of_le (sm0 c')

end De
end Go.RM

