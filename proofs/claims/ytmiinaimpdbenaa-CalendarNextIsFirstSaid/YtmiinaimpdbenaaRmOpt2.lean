/-
  The pass keeps what the code computes.
-/
import Derived.Test.YtmiinaimpdbenaaRmOpt
namespace Go.RM
set_option linter.unusedSimpArgs false
set_option linter.unusedVariables false

theorem rop_congr {call : Nat → Nat → List AV → Heap → Option (AV × Heap)} {fl : Nat} {free : Bool} {X Y : RX → AV} {H : Heap} {r : ROp} (h : ∀ rx ∈ r.rxs, X rx = Y rx) : rop call fl free X H r = rop call fl free Y H r := by
  have hm : ∀ {l : List RX}, (∀ rx ∈ l, X rx = Y rx) → l.map X = l.map Y := fun h => List.map_congr_left h
  have hm3 : ∀ {l : List (Nat × Nat × RX)}, (∀ rx ∈ l.map (·.2.2), X rx = Y rx) → (l.map fun p => (p.1, p.2.1, X p.2.2)) = (l.map fun p => (p.1, p.2.1, Y p.2.2)) := fun h =>
    List.map_congr_left fun p hp => by rw [h p.2.2 (List.mem_map.2 ⟨p, hp, rfl⟩)]
  have ho : ∀ {x : Option RX}, (∀ rx ∈ x.toList, X rx = Y rx) → x.map X = x.map Y := fun {x} h => by
    cases x with
    | none => rfl
    | some a => simp [h a (by simp)]
  cases r <;> simp only [ROp.rxs] at h <;> simp only [rop]
  case move => rw [h _ (by simp)]
  case pick => rw [h _ (by simp), h _ (by simp), h _ (by simp)]
  case box => rw [h _ (by simp)]
  case build => rw [hm3 h]
  case buildSlice => rw [hm3 h]
  case load => rw [h _ (by simp)]
  case store n x v ap => rw [h x (by simp), h v (by simp), hm (l := ap) fun rx hrx => h rx (by simp [hrx])]
  case nilCheck => rw [h _ (by simp)]
  case bin => rw [h _ (by simp), h _ (by simp)]
  case un => rw [h _ (by simp)]
  case convInt => rw [h _ (by simp)]
  case makeFunc => rw [hm h]
  case makeSlice => rw [h _ (by simp), h _ (by simp)]
  case slice e x lo hi mx => rw [h x (by simp), ho (x := lo) fun rx hrx => h rx (by simp at hrx ⊢; simp [hrx]), ho (x := hi) fun rx hrx => h rx (by simp at hrx ⊢; simp [hrx]), ho (x := mx) fun rx hrx => h rx (by simp at hrx ⊢; simp [hrx])]
  case sliceStr x lo hi => rw [h x (by simp), ho (x := lo) fun rx hrx => h rx (by simp at hrx ⊢; simp [hrx]), ho (x := hi) fun rx hrx => h rx (by simp at hrx ⊢; simp [hrx])]
  case fieldAddr => rw [h _ (by simp)]
  case field => rw [h _ (by simp)]
  case indexAddr => rw [h _ (by simp), h _ (by simp)]
  case indexArr => rw [h _ (by simp), h _ (by simp)]
  case indexStr => rw [h _ (by simp), h _ (by simp)]
  case extract => rw [h _ (by simp)]
  case call f l => rw [h f (by simp), hm (l := l) fun rx hrx => h rx (by simp [hrx])]
  case callS f l => rw [hm h]
  case len => rw [h _ (by simp)]
  case lenStr => rw [h _ (by simp)]
  case append => rw [h _ (by simp), h _ (by simp)]
  case copy => rw [h _ (by simp), h _ (by simp)]
  case clear => rw [h _ (by simp)]
  case min x l => rw [h x (by simp), hm (l := l) fun rx hrx => h rx (by simp [hrx])]
  case max x l => rw [h x (by simp), hm (l := l) fun rx hrx => h rx (by simp [hrx])]
  case tomb => rw [h _ (by simp)]
  case upd => rw [h _ (by simp), h _ (by simp)]

structure Rel (bv : List Nat) (fl : Nat) (HB0 HA0 : Heap) (EA : List AV) (HA : Heap) (EB : List AV) (HB : Heap) : Prop where
  len : EA.length = EB.length
  lt : ∀ x ∈ bv, x < EA.length
  fl0 : fl ≤ HB0.length
  hl : HB0.length ≤ HB.length
  le : Le HB HA
  fr : ∀ b, Tomb HB0 b → HA[b]? = HA0[b]? ∧ Tomb HB b
  eq : ∀ y, y ∉ bv → EA.getD y .undef = EB.getD y .undef
  box : ∀ x ∈ bv, (EA.getD x .undef = .undef ∧ EB.getD x .undef = .undef) ∨ ∃ b k, EA.getD x .undef = .ptr b 0 ∧ Tomb HB b ∧ HB0.length ≤ b ∧ HA[b]? = some k ∧ k.live = true ∧ EB.getD x .undef = .agg k.cells
  inj : ∀ x ∈ bv, ∀ x' ∈ bv, ∀ b, EA.getD x .undef = .ptr b 0 → EA.getD x' .undef = .ptr b 0 → x = x'

structure IL (bv : List Nat) (fl : Nat) (HB0 HA0 : Heap) (EA0 EB0 LA LB EA : List AV) (HA : Heap) (EB : List AV) (HB : Heap) (ks : List LK) (c : Curs) : Prop where
  rel : Rel bv fl HB0 HA0 EA HA EB HB
  la : LA.length = ks.length
  lb : LB.length = ks.length
  plain : ∀ j : Nat, ks[j]? = some LK.plain → LA[j]? = LB[j]?
  eq0 : ∀ y, y ∉ bv → EA0.getD y .undef = EB0.getD y .undef
  cur : ∀ x ∈ bv, RX.ev LB EB0 (c.get x) = EB.getD x .undef
  curlt : ∀ x i, c.get x = .loc i → i < ks.length
  old : ∀ x ∈ bv, c.fresh x = false → EA.getD x .undef = EA0.getD x .undef
  addr : ∀ (j x off : Nat) (g : Option (Nat × Bool)), ks[j]? = some (LK.addr x off g) → x ∈ bv ∧ guardPlain ks g = true ∧ (wantedB g LA = true → ∃ b, EA.getD x .undef = .ptr b 0 ∧ LA[j]? = some (AV.ptr b off))

theorem not_mem_of {bv : List Nat} {y : Nat} (h : (!memN y bv) = true) : y ∉ bv := fun hm => by rw [memN_iff.2 hm] at h; simp at h

theorem snoc_get {α : Type} {l : List α} {a : α} {j : Nat} {v : α} (h : (l ++ [a])[j]? = some v) : l[j]? = some v ∨ (j = l.length ∧ a = v) := by
  by_cases e : j < l.length
  · rw [List.getElem?_append_left e] at h; exact .inl h
  · rw [List.getElem?_append_right (by omega)] at h
    cases hq : j - l.length with
    | zero => rw [hq] at h; simp at h; exact .inr ⟨by omega, h⟩
    | succ q => rw [hq] at h; simp at h

theorem snoc_lt {α : Type} {l : List α} (a : α) {j : Nat} (h : j < l.length) : (l ++ [a])[j]? = l[j]? := List.getElem?_append_left h
theorem snoc_end {α : Type} (l : List α) (a : α) : (l ++ [a])[l.length]? = some a := by rw [List.getElem?_append_right (Nat.le_refl _)]; simp

theorem guard_lt {ks : List LK} {j : Nat} {b : Bool} (h : guardPlain ks (some (j, b)) = true) : ks[j]? = some .plain := by
  simp only [guardPlain] at h
  split at h
  · assumption
  · simp at h

theorem guard_snoc {ks : List LK} {g : Option (Nat × Bool)} (h : guardPlain ks g = true) (k : LK) : guardPlain (ks ++ [k]) g = true := by
  cases g with
  | none => rfl
  | some p =>
    obtain ⟨j, b⟩ := p
    have := guard_lt h
    simp only [guardPlain]
    rw [snoc_lt k (List.getElem?_eq_some_iff.1 this).1, this]

section
variable {bv : List Nat} {fl : Nat} {HB0 HA0 : Heap} {EA0 EB0 LA LB EA : List AV} {HA : Heap} {EB : List AV} {HB : Heap} {ks : List LK} {c : Curs}

theorem IL.wanted (I : IL bv fl HB0 HA0 EA0 EB0 LA LB EA HA EB HB ks c) {g : Option (Nat × Bool)} (h : guardPlain ks g = true) : wantedB g LA = wantedB g LB := by
  cases g with
  | none => rfl
  | some p =>
    obtain ⟨j, b⟩ := p
    simp only [wantedB, I.plain j (guard_lt h)]

theorem wanted_snoc {LA : List AV} (hl : LA.length = ks.length) {g : Option (Nat × Bool)} (h : guardPlain ks g = true) (v : AV) : wantedB g (LA ++ [v]) = wantedB g LA := by
  cases g with
  | none => rfl
  | some p =>
    obtain ⟨j, b⟩ := p
    have := (List.getElem?_eq_some_iff.1 (guard_lt h)).1
    simp only [wantedB, snoc_lt v (show j < LA.length by omega)]

theorem IL.plainX (I : IL bv fl HB0 HA0 EA0 EB0 LA LB EA HA EB HB ks c) {rx : RX} (h : plainRX bv ks rx = true) : RX.ev LA EA0 rx = RX.ev LB EB0 rx := by
  cases rx with
  | var y => exact I.eq0 y (not_mem_of h)
  | k v => rfl
  | loc j =>
    simp only [plainRX] at h
    split at h
    · rename_i hk
      simp only [RX.ev, List.getD_eq_getElem?_getD, I.plain j hk]
    · simp at h

theorem ev_snoc {LB : List AV} {rx : RX} {n : Nat} (hl : LB.length = n) (h : ∀ i, rx = .loc i → i < n) (v : AV) : RX.ev (LB ++ [v]) EB0 rx = RX.ev LB EB0 rx := by
  cases rx with
  | var y => rfl
  | k v => rfl
  | loc j =>
    have := h j rfl
    simp only [RX.ev, List.getD_eq_getElem?_getD, snoc_lt v (show j < LB.length by omega)]

theorem Rel.mono (R : Rel bv fl HB0 HA0 EA HA EB HB) {HB' HA' : Heap} (M : Mono HB HA HB' HA') : Rel bv fl HB0 HA0 EA HA' EB HB' where
  len := R.len
  lt := R.lt
  fl0 := R.fl0
  hl := Nat.le_trans R.hl M.len
  le := M.le
  fr := fun b t => ⟨(M.fr b (R.fr b t).2).1.trans (R.fr b t).1, (M.fr b (R.fr b t).2).2⟩
  eq := R.eq
  box := fun x hx => by
    rcases R.box x hx with h | ⟨b, k, h1, h2, h3, h4, h5⟩
    · exact .inl h
    · exact .inr ⟨b, k, h1, (M.fr b h2).2, h3, by rw [(M.fr b h2).1]; exact h4, h5⟩
  inj := R.inj

theorem getD_set_eq {E : List AV} {x : Nat} {v : AV} (h : x < E.length) : (E.set x v).getD x .undef = v := by simp [h]
theorem getD_set_ne {E : List AV} {x y : Nat} {v : AV} (h : y ≠ x) : (E.set x v).getD y .undef = E.getD y .undef := by
  simp only [List.getD_eq_getElem?_getD, List.getElem?_set_ne (Ne.symm h)]

theorem putDst_plain {d : Option Nat} (hd : dstPlain bv d = true) {v : AV} {E : List AV} {x : Nat} (hx : x ∈ bv) : (putDst d v E).getD x .undef = E.getD x .undef := by
  refine putDst_ne fun e => ?_
  subst e
  exact not_mem_of hd hx

theorem Rel.put (R : Rel bv fl HB0 HA0 EA HA EB HB) {d : Option Nat} (hd : dstPlain bv d = true) (v : AV) : Rel bv fl HB0 HA0 (putDst d v EA) HA (putDst d v EB) HB where
  len := by rw [putDst_len, putDst_len]; exact R.len
  lt := fun x hx => by rw [putDst_len]; exact R.lt x hx
  fl0 := R.fl0
  hl := R.hl
  le := R.le
  fr := R.fr
  eq := fun y hy => by
    cases d with
    | none => exact R.eq y hy
    | some z =>
      by_cases e : y = z
      · subst e
        by_cases hl : y < EA.length
        · simp only [putDst]; rw [getD_set_eq hl, getD_set_eq (by rw [← R.len]; exact hl)]
        · have h1 := R.len
          simp only [putDst, List.getD_eq_getElem?_getD]
          rw [List.getElem?_eq_none (by simp; omega), List.getElem?_eq_none (by simp; omega)]
      · simp only [putDst]; rw [getD_set_ne e, getD_set_ne e]; exact R.eq y hy
  box := fun x hx => by rw [putDst_plain hd hx, putDst_plain hd hx]; exact R.box x hx
  inj := fun x hx x' hx' b => by rw [putDst_plain hd hx, putDst_plain hd hx']; exact R.inj x hx x' hx' b

/-- A step that leaves the taken variables alone; 'k' is the kind of the new local. -/
theorem IL.next (I : IL bv fl HB0 HA0 EA0 EB0 LA LB EA HA EB HB ks c) {HB' HA' : Heap} (M : Mono HB HA HB' HA') {d : Option Nat} (hd : dstPlain bv d = true) {vA v : AV} {k : LK} (hput : d ≠ none → vA = v)
    (hk1 : k = .plain → vA = v) (hk2 : ∀ x off g, k = .addr x off g → x ∈ bv ∧ guardPlain ks g = true ∧ (wantedB g LA = true → ∃ b, EA.getD x .undef = .ptr b 0 ∧ vA = .ptr b off)) :
    IL bv fl HB0 HA0 EA0 EB0 (LA ++ [vA]) (LB ++ [v]) (putDst d vA EA) HA' (putDst d v EB) HB' (ks ++ [k]) c := by
  have hE : ∀ x ∈ bv, (putDst d vA EA).getD x .undef = EA.getD x .undef := fun x hx => putDst_plain hd hx
  refine ⟨?_, by simp [I.la], by simp [I.lb], fun j hj => ?_, I.eq0, fun x hx => ?_, fun x i h => ?_, fun x hx hf => ?_, fun j x off g hj => ?_⟩
  · cases d with
    | none => exact I.rel.mono M
    | some y => rw [hput (by simp)]; exact (I.rel.mono M).put hd v
  · rcases snoc_get hj with h | ⟨h1, h2⟩
    · have := (List.getElem?_eq_some_iff.1 h).1
      rw [snoc_lt vA (by rw [I.la]; exact this), snoc_lt v (by rw [I.lb]; exact this)]
      exact I.plain j h
    · subst h1
      have e1 := snoc_end LA vA
      have e2 := snoc_end LB v
      rw [I.la] at e1; rw [I.lb] at e2
      rw [e1, e2, hk1 h2]
  · rw [ev_snoc I.lb (I.curlt x), I.cur x hx, putDst_plain hd hx]
  · have := I.curlt x i h; simp; omega
  · rw [hE x hx]; exact I.old x hx hf
  · rcases snoc_get hj with h | ⟨h1, h2⟩
    · obtain ⟨a1, a2, a3⟩ := I.addr j x off g h
      refine ⟨a1, guard_snoc a2 k, fun hw => ?_⟩
      rw [wanted_snoc I.la a2] at hw
      obtain ⟨b, b1, b2⟩ := a3 hw
      exact ⟨b, by rw [hE x a1]; exact b1, by rw [snoc_lt vA (by rw [I.la]; exact (List.getElem?_eq_some_iff.1 h).1)]; exact b2⟩
    · subst h1
      obtain ⟨a1, a2, a3⟩ := hk2 x off g h2
      refine ⟨a1, guard_snoc a2 k, fun hw => ?_⟩
      rw [wanted_snoc I.la a2] at hw
      obtain ⟨b, b1, rfl⟩ := a3 hw
      have e1 := snoc_end LA (AV.ptr b off)
      rw [I.la] at e1
      exact ⟨b, by rw [hE x a1]; exact b1, e1⟩

theorem curs_has {c : Curs} {x : Nat} (h : c.has x = false) : c.fresh x = false ∧ c.get x = .var x := by
  induction c with
  | nil => exact ⟨rfl, rfl⟩
  | cons p l ih =>
    obtain ⟨y, r, f⟩ := p
    simp only [Curs.has, List.any_cons, Bool.or_eq_false_iff, beq_eq_false_iff_ne] at h
    obtain ⟨h1, h2⟩ := ih h.2
    have hne : ¬ y = x := h.1
    exact ⟨by simp [Curs.fresh, hne, h1], by simp [Curs.get, hne, h2]⟩

/-- A variable is made anew. -/
theorem IL.make (I : IL bv fl HB0 HA0 EA0 EB0 LA LB EA HA EB HB ks c) {x : Nat} (hx : x ∈ bv) (hc : c.has x = false) (hks : ks.any (LK.names x) = false) {cs : List AV} {e : Nat} :
    IL bv fl HB0 HA0 EA0 EB0 (LA ++ [.ptr HA.length 0]) (LB ++ [.agg cs]) (putDst (some x) (.ptr HA.length 0) EA) (HA ++ [{ cells := cs, e }]) (putDst (some x) (.agg cs) EB) (HB ++ [{ cells := [], e, live := false, clean := false }]) (ks ++ [.addr x 0 none]) ((x, .loc ks.length, true) :: c) := by
  have hlen := I.rel.le.len
  have hxl := I.rel.lt x hx
  have hgA : ∀ b : Nat, b < HA.length → (HA ++ [{ cells := cs, e := e : Blk }])[b]? = HA[b]? := fun b hb => List.getElem?_append_left hb
  have hgB : ∀ b : Nat, b < HB.length → (HB ++ [{ cells := [], e := e, live := false, clean := false : Blk }])[b]? = HB[b]? := fun b hb => List.getElem?_append_left hb
  have htB : ∀ b, Tomb HB b → Tomb (HB ++ [{ cells := [], e := e, live := false, clean := false : Blk }]) b := fun b t => by
    have := t.lt
    obtain ⟨k, t1, t2⟩ := t
    exact ⟨k, by rw [hgB b this]; exact t1, t2⟩
  have hnew : Tomb (HB ++ [{ cells := [], e := e, live := false, clean := false : Blk }]) HA.length := ⟨_, by rw [← hlen]; exact snoc_end _ _, rfl, rfl⟩
  have hnames : ∀ (j y off : Nat) (g : Option (Nat × Bool)), ks[j]? = some (LK.addr y off g) → y ≠ x := fun j y off g hj e => by
    subst e
    have : ks.any (LK.names y) = true := List.any_eq_true.2 ⟨_, List.mem_of_getElem? hj, by simp [LK.names]⟩
    rw [this] at hks; simp at hks
  have hEA : ∀ y, y ≠ x → (putDst (some x) (.ptr HA.length 0) EA).getD y .undef = EA.getD y .undef := fun y hy => getD_set_ne hy
  have hEB : ∀ y, y ≠ x → (putDst (some x) (.agg cs) EB).getD y .undef = EB.getD y .undef := fun y hy => getD_set_ne hy
  have hEAx : (putDst (some x) (.ptr HA.length 0) EA).getD x .undef = .ptr HA.length 0 := getD_set_eq hxl
  have hEBx : (putDst (some x) (.agg cs) EB).getD x .undef = .agg cs := getD_set_eq (by rw [← I.rel.len]; exact hxl)
  have hold : ∀ y ∈ bv, EA.getD y .undef ≠ .ptr HA.length 0 := fun y hy e => by
    rcases I.rel.box y hy with ⟨h, _⟩ | ⟨b, k, h1, h2, _⟩
    · rw [e] at h; simp [AV.undef] at h
    · rw [e] at h1; cases h1
      have := h2.lt; omega
  refine ⟨⟨by rw [putDst_len, putDst_len]; exact I.rel.len, fun y hy => by rw [putDst_len]; exact I.rel.lt y hy, I.rel.fl0, by have := I.rel.hl; simp; omega, ⟨by simp [hlen], fun b => ?_⟩, fun b t => ?_, fun y hy => ?_, fun y hy => ?_, fun y hy y' hy' b h1 h2 => ?_⟩,
    by simp [I.la], by simp [I.lb], fun j hj => ?_, I.eq0, fun y hy => ?_, fun y i h => ?_, fun y hy hf => ?_, fun j y off g hj => ?_⟩
  · by_cases hb : b < HB.length
    · rw [hgB b hb, hgA b (by omega)]
      rcases I.rel.le.get b with h | ⟨h1, h2⟩
      · exact .inl h
      · exact .inr ⟨htB b h1, h2⟩
    · by_cases hb2 : b = HB.length
      · subst hb2
        right
        exact ⟨by rw [hlen]; exact hnew, _, { cells := cs, e }, snoc_end _ _, by rw [hlen]; exact snoc_end _ _, rfl⟩
      · left
        rw [List.getElem?_eq_none (by simp; omega), List.getElem?_eq_none (by simp; omega)]
  · obtain ⟨f1, f2⟩ := I.rel.fr b t
    have := f2.lt
    exact ⟨by rw [hgA b (by omega)]; exact f1, htB b f2⟩
  · have hyx : y ≠ x := fun e => hy (e ▸ hx)
    rw [hEA y hyx, hEB y hyx]; exact I.rel.eq y hy
  · by_cases e : y = x
    · subst e
      exact .inr ⟨HA.length, { cells := cs, e }, hEAx, hnew, by have := I.rel.hl; omega, snoc_end _ _, rfl, hEBx⟩
    · rw [hEA y e, hEB y e]
      rcases I.rel.box y hy with h | ⟨b, k, h1, h2, h3, h4, h5⟩
      · exact .inl h
      · exact .inr ⟨b, k, h1, htB b h2, h3, by rw [hgA b (by have := h2.lt; omega)]; exact h4, h5⟩
  · by_cases e : y = x <;> by_cases e' : y' = x
    · rw [e, e']
    · exfalso
      rw [hEA y' e'] at h2
      rw [e, hEAx] at h1
      cases h1
      exact hold y' hy' h2
    · exfalso
      rw [hEA y e] at h1
      rw [e', hEAx] at h2
      cases h2
      exact hold y hy h1
    · rw [hEA y e] at h1; rw [hEA y' e'] at h2
      exact I.rel.inj y hy y' hy' b h1 h2
  · rcases snoc_get hj with h | ⟨_, h2⟩
    · have := (List.getElem?_eq_some_iff.1 h).1
      rw [snoc_lt _ (by rw [I.la]; exact this), snoc_lt _ (by rw [I.lb]; exact this)]
      exact I.plain j h
    · simp at h2
  · by_cases e : x = y
    · subst e
      have e2 := snoc_end LB (AV.agg cs)
      rw [I.lb] at e2
      simp only [Curs.get, if_true, RX.ev, List.getD_eq_getElem?_getD, e2, Option.getD_some]
      exact hEBx.symm
    · simp only [Curs.get, if_neg e]
      rw [ev_snoc I.lb (I.curlt y), I.cur y hy, hEB y (Ne.symm e)]
  · by_cases e : x = y
    · simp only [Curs.get, if_pos e, RX.loc.injEq] at h
      subst h; simp
    · simp only [Curs.get, if_neg e] at h
      have := I.curlt y i h; simp; omega
  · by_cases e : x = y
    · subst e; simp [Curs.fresh] at hf
    · simp only [Curs.fresh, if_neg e, Bool.false_or] at hf
      rw [hEA y (Ne.symm e)]; exact I.old y hy hf
  · rcases snoc_get hj with h | ⟨h1, h2⟩
    · obtain ⟨a1, a2, a3⟩ := I.addr j y off g h
      refine ⟨a1, guard_snoc a2 _, fun hw => ?_⟩
      rw [wanted_snoc I.la a2] at hw
      obtain ⟨b, b1, b2⟩ := a3 hw
      exact ⟨b, by rw [hEA y (hnames j y off g h)]; exact b1, by rw [snoc_lt _ (by rw [I.la]; exact (List.getElem?_eq_some_iff.1 h).1)]; exact b2⟩
    · simp only [LK.addr.injEq] at h2
      obtain ⟨rfl, rfl, rfl⟩ := h2
      subst h1
      have e1 := snoc_end LA (AV.ptr HA.length 0)
      rw [I.la] at e1
      exact ⟨hx, rfl, fun _ => ⟨_, hEAx, e1⟩⟩

/-- What an operand that stands for a taken variable's place is. -/
theorem IL.asBox (I : IL bv fl HB0 HA0 EA0 EB0 LA LB EA HA EB HB ks c) {p : RX} {x off : Nat} {g : Option (Nat × Bool)} (h : RM.asBox bv ks c p = some (x, off, g)) :
    x ∈ bv ∧ (wantedB g LA = true → ∀ b, EA.getD x .undef = .ptr b 0 → RX.ev LA EA0 p = .ptr b off) := by
  cases p with
  | k v => simp [RM.asBox] at h
  | var y =>
    simp only [RM.asBox] at h
    split at h
    · rename_i hc
      simp only [Bool.and_eq_true, Bool.not_eq_true'] at hc
      simp only [Option.some.injEq, Prod.mk.injEq] at h
      obtain ⟨rfl, rfl, rfl⟩ := h
      have hm := memN_iff.1 hc.1
      exact ⟨hm, fun _ b hb => by rw [I.old y hm hc.2] at hb; exact hb⟩
    · simp at h
  | loc j =>
    simp only [RM.asBox] at h
    split at h
    · rename_i x' off' g' hk
      simp only [Option.some.injEq, Prod.mk.injEq] at h
      obtain ⟨rfl, rfl, rfl⟩ := h
      obtain ⟨a1, _, a3⟩ := I.addr j _ _ _ hk
      refine ⟨a1, fun hw b hb => ?_⟩
      obtain ⟨b', b1, b2⟩ := a3 hw
      rw [hb] at b1; cases b1
      simp only [RX.ev, List.getD_eq_getElem?_getD, b2, Option.getD_some]
    · simp at h

theorem same_wanted {g h : Option (Nat × Bool)} (hs : sameGuard g h = true) {L : List AV} (hw : wantedB h L = true) : wantedB g L = true := by
  cases g with
  | none => rfl
  | some p =>
    cases h with
    | none => simp [sameGuard] at hs
    | some q =>
      simp only [sameGuard, Bool.and_eq_true, beq_iff_eq] at hs
      obtain ⟨i, b⟩ := p
      obtain ⟨j, b'⟩ := q
      simp only at hs
      obtain ⟨rfl, rfl⟩ := hs
      exact hw

/-- The value of a taken variable is its block's cells. -/
theorem IL.value (I : IL bv fl HB0 HA0 EA0 EB0 LA LB EA HA EB HB ks c) {x : Nat} (hx : x ∈ bv) {cs : List AV} (h : RX.ev LB EB0 (c.get x) = .agg cs) :
    ∃ b k, EA.getD x .undef = .ptr b 0 ∧ Tomb HB b ∧ HB0.length ≤ b ∧ HA[b]? = some k ∧ k.live = true ∧ k.cells = cs := by
  rw [I.cur x hx] at h
  rcases I.rel.box x hx with ⟨_, h'⟩ | ⟨b, k, h1, h2, h3, h4, h5, h6⟩
  · rw [h] at h'; simp [AV.undef] at h'
  · rw [h] at h6; cases h6
    exact ⟨b, k, h1, h2, h3, h4, h5, rfl⟩

/-- A store into a taken variable. -/
theorem IL.store (I : IL bv fl HB0 HA0 EA0 EB0 LA LB EA HA EB HB ks c) {x : Nat} (hx : x ∈ bv) {b : Nat} {k : Blk} (h1 : EA.getD x .undef = .ptr b 0) (h2 : Tomb HB b) (h3 : HB0.length ≤ b) (h4 : HA[b]? = some k) (h5 : k.live = true) {ncs : List AV} :
    IL bv fl HB0 HA0 EA0 EB0 (LA ++ [.undef]) (LB ++ [.agg ncs]) EA (HA.set b { k with cells := ncs, clean := false }) (putDst (some x) (.agg ncs) EB) HB (ks ++ [.no]) ((x, .loc ks.length, c.fresh x) :: c) := by
  have hbl := get_lt h4
  have hgA : ∀ y : Nat, y ≠ b → (HA.set b { k with cells := ncs, clean := false })[y]? = HA[y]? := fun y hy => List.getElem?_set_ne (by omega)
  have hgb : (HA.set b { k with cells := ncs, clean := false })[b]? = some { k with cells := ncs, clean := false } := List.getElem?_set_self hbl
  have hxl := I.rel.lt x hx
  have hEB : ∀ y, y ≠ x → (putDst (some x) (.agg ncs) EB).getD y .undef = EB.getD y .undef := fun y hy => getD_set_ne hy
  have hEBx : (putDst (some x) (.agg ncs) EB).getD x .undef = .agg ncs := getD_set_eq (by rw [← I.rel.len]; exact hxl)
  refine ⟨⟨by rw [putDst_len]; exact I.rel.len, I.rel.lt, I.rel.fl0, I.rel.hl, ⟨by simp [I.rel.le.len], fun y => ?_⟩, fun y t => ?_, fun y hy => ?_, fun y hy => ?_, I.rel.inj⟩,
    by simp [I.la], by simp [I.lb], fun j hj => ?_, I.eq0, fun y hy => ?_, fun y i h => ?_, fun y hy hf => ?_, fun j y off g hj => ?_⟩
  · by_cases e : y = b
    · subst e
      right
      refine ⟨h2, ?_⟩
      rcases I.rel.le.get y with h | ⟨_, k1, k2, g1, g2, g3⟩
      · rw [h4] at h
        exact ⟨k, _, h, hgb, rfl⟩
      · rw [h4] at g2; cases g2
        exact ⟨k1, _, g1, hgb, g3⟩
    · rw [hgA y e]; exact I.rel.le.get y
  · obtain ⟨f1, f2⟩ := I.rel.fr y t
    have := t.lt
    exact ⟨by rw [hgA y (by omega)]; exact f1, f2⟩
  · have hyx : y ≠ x := fun e => hy (e ▸ hx)
    rw [hEB y hyx]; exact I.rel.eq y hy
  · by_cases e : y = x
    · subst e
      exact .inr ⟨b, _, h1, h2, h3, hgb, h5, hEBx⟩
    · rw [hEB y e]
      rcases I.rel.box y hy with h | ⟨b', k', g1, g2, g3, g4, g5⟩
      · exact .inl h
      · have hne : b' ≠ b := fun e' => by subst e'; exact e (I.rel.inj y hy x hx b' g1 h1)
        exact .inr ⟨b', k', g1, g2, g3, by rw [hgA b' hne]; exact g4, g5⟩
  · rcases snoc_get hj with h | ⟨_, h2⟩
    · have := (List.getElem?_eq_some_iff.1 h).1
      rw [snoc_lt _ (by rw [I.la]; exact this), snoc_lt _ (by rw [I.lb]; exact this)]
      exact I.plain j h
    · simp at h2
  · by_cases e : x = y
    · subst e
      have e2 := snoc_end LB (AV.agg ncs)
      rw [I.lb] at e2
      simp only [Curs.get, if_true, RX.ev, List.getD_eq_getElem?_getD, e2, Option.getD_some]
      exact hEBx.symm
    · simp only [Curs.get, if_neg e]
      rw [ev_snoc I.lb (I.curlt y), I.cur y hy, hEB y (Ne.symm e)]
  · by_cases e : x = y
    · simp only [Curs.get, if_pos e, RX.loc.injEq] at h
      subst h; simp
    · simp only [Curs.get, if_neg e] at h
      have := I.curlt y i h; simp; omega
  · by_cases e : x = y
    · subst e
      simp only [Curs.fresh, if_true, Bool.or_self] at hf
      exact I.old x hy hf
    · simp only [Curs.fresh, if_neg e, Bool.false_or] at hf
      exact I.old y hy hf
  · rcases snoc_get hj with h | ⟨h1, h2⟩
    · obtain ⟨a1, a2, a3⟩ := I.addr j y off g h
      refine ⟨a1, guard_snoc a2 _, fun hw => ?_⟩
      rw [wanted_snoc I.la a2] at hw
      obtain ⟨b, b1, b2⟩ := a3 hw
      exact ⟨b, b1, by rw [snoc_lt _ (by rw [I.la]; exact (List.getElem?_eq_some_iff.1 h).1)]; exact b2⟩
    · simp at h2

end
end Go.RM
