/-
  A region: how each operation keeps the invariant.
-/
import Derived.Test.YtmiinaimpdbenaaRmRegion4
namespace Go.RM
set_option linter.unusedSimpArgs false
set_option linter.unusedVariables false

section
variable {P : Program} {vars : List Nat} {nt : Nat} {draw : Bool} {all : List Oper} {l : List ROper} {call : Nat → Nat → List AV → Heap → Option (AV × Heap)} {fl : Nat} {E L : List AV} {Hs : Nat → Heap} {n0 base : Nat}
variable {m0 : BMap} {w0 : World} {S : Nat → Bool} {p d : Nat} {m : BMap} {a : Act} {w : World}

theorem Inv.lt_size (I : Inv vars nt draw all l fl E L Hs n0 base m0 w0 S p d m a w) {b : Nat} {k : Blk} {lo : Loc} (ha : (hv Hs p d).act b = some k) (hm : m b = some lo) : lo.cb < w.heap.size := by
  by_cases hb : n0 ≤ b
  · exact (I.own b k lo hb ha hm).2.1
  · have := I.ro b lo (by omega) hm
    have := I.wsz
    omega

theorem Rk.mono {S' : Nat → Bool} (h : ∀ j, S j = true → S' j = true) {b b' : Nat} (r : Rk Hs S p d b b') : Rk Hs S' p d b b' :=
  let ⟨j, h1, h2⟩ := r; ⟨j, h j h1, h2⟩

/-- What an operation that yields its value does to the act. -/
structure OldKept (w w' : World) : Prop where
  os : w'.os = w.os
  tape : w'.tape = w.tape
  output : w'.output = w.output
  size : w.heap.size ≤ w'.heap.size

structure Ready (draw : Bool) (all : List Oper) (S : Nat → Bool) (i : Nat) : Prop where
  un : S i = false
  pre : ∀ k, preB draw (ancs [] all) k i = true → S k = true

theorem Inv.closed_set (I : Inv vars nt draw all l fl E L Hs n0 base m0 w0 S p d m a w) {i : Nat} (hr : Ready draw all S i) : ∀ j k, setS S i j = true → preB draw (ancs [] all) k j = true → setS S i k = true := fun j k hj hp => by
  rcases setS_true.1 hj with e | e
  · subst e; exact setS_true.2 (.inr (hr.pre k hp))
  · exact setS_true.2 (.inr (I.closed j k e hp))

theorem Inv.slt_set (I : Inv vars nt draw all l fl E L Hs n0 base m0 w0 S p d m a w) {i : Nat} (hi : i < all.length) : ∀ j, setS S i j = true → j < all.length := fun j hj => by
  rcases setS_true.1 hj with e | e
  · subst e; exact hi
  · exact I.slt j e

theorem Inv.solid_set (I : Inv vars nt draw all l fl E L Hs n0 base m0 w0 S p d m a w) {i : Nat} (hn : ¬ solidAt all l i) : ∀ j, solidAt all l j → (setS S i j = true ↔ j < p) := fun j hj => by
  rw [setS_true, ← I.solid j hj]
  constructor
  · rintro (e | e)
    · subst e; exact absurd hj hn
    · exact e
  · exact .inr

/-- An operation that leaves the old blocks alone, and makes no block. -/
theorem Inv.still (C : Ctx P vars nt draw all l call fl E L Hs n0) (I : Inv vars nt draw all l fl E L Hs n0 base m0 w0 S p d m a w) {i : Nat} {o : Oper} {ro : ROper} (ho : all[i]? = some o) (hc : Comp P vars nt draw (ancs [] all) all i o ro)
    (hr : Ready draw all S i) (hn : ¬ solidAt all l i) {w' : World} (hw : OldKept w w') (hold : ∀ c, c < w.heap.size → w'.heap[c]? = w.heap[c]?) {v : AV} {v' : Value} (hL : L[i]? = some v) (hv : VRel m v v') :
    Inv vars nt draw all l fl E L Hs n0 base m0 w0 (setS S i) p d m (a.put o.dst v') w' where
  hq := I.hq
  ns := I.ns
  qend := I.qend
  pstart := I.pstart
  slt := I.slt_set (List.getElem?_eq_some_iff.1 ho).1
  closed := I.closed_set hr
  solid := I.solid_set hn
  dom := fun b lo hm => by
    rcases I.dom b lo hm with h | ⟨j, h1, h2⟩ | h
    · exact .inl h
    · exact .inr (.inl ⟨j, setS_true.2 (.inr h1), h2⟩)
    · exact .inr (.inr h)
  wsz := Nat.le_trans I.wsz hw.size
  cells := fun b k lo ha hm => by
    obtain ⟨e1, e2, e3⟩ := I.cells b k lo ha hm
    exact ⟨e1, e2, cellsAt_mono e3 (Ext.refl m) fun j _ => cell_of_heap (hold _ (I.lt_size ha hm)) _⟩
  ro := I.ro
  own := fun b k lo hb ha hm => by
    obtain ⟨e1, e2, e3⟩ := I.own b k lo hb ha hm
    exact ⟨e1, Nat.lt_of_lt_of_le e2 hw.size, room_of_heap (hold _ e2) e3⟩
  excl := fun b b' k k' lo lo' hb hb' ha ha' hm hm' he => by
    have mono : ∀ {x y}, Rk Hs S p d x y → Rk Hs (setS S i) p d x y := fun r => r.mono fun j h => setS_true.2 (.inr h)
    exact (I.excl b b' k k' lo lo' hb hb' ha ha' hm hm' he).imp id (Or.imp id (Or.imp id (Or.imp (fun h => ⟨mono h.1, h.2⟩) (fun h => ⟨mono h.1, h.2⟩))))
  es := I.es
  ext := I.ext
  new := I.new
  os := hw.os.trans I.os
  tape := hw.tape.trans I.tape
  output := hw.output.trans I.output
  size := Nat.le_trans I.size hw.size
  frame := fun c hcl hh => by rw [hold c (Nat.lt_of_lt_of_le hcl I.size)]; exact I.frame c hcl hh
  hits := I.hits
  tmps := I.tmps.put C ho hc (Ext.refl m) hL hv

/-- The blocks that operation i makes, in the stretch's heap. -/
theorem Inv.hv_at (C : Ctx P vars nt draw all l call fl E L Hs n0) (I : Inv vars nt draw all l fl E L Hs n0 base m0 w0 S p d m a w) {i : Nat} (h1 : p ≤ i) (h2 : i < p + d) {b : Nat} (g1 : (Hs i).length ≤ b) (g2 : b < (Hs (i + 1)).length) :
    (hv Hs p d)[b]? = (Hs (i + 1))[b]? := by
  have := hv_new (I.nss C) (e := i - p) (by omega) (b := b) (by rwa [show p + (i - p) = i by omega]) (by rwa [show p + (i - p) = i by omega])
  rwa [show p + (i - p) = i by omega] at this

theorem Inv.new_act (C : Ctx P vars nt draw all l call fl E L Hs n0) (I : Inv vars nt draw all l fl E L Hs n0 base m0 w0 S p d m a w) {i : Nat} (h1 : p ≤ i) (h2 : i < p + d) {b : Nat} {k : Blk} (g1 : (Hs i).length ≤ b) (g2 : b < (Hs (i + 1)).length)
    (ha : (hv Hs p d).act b = some k) : (Hs (i + 1)).act b = some k := by
  have hil : i < all.length := by have := I.hq; omega
  have hb := I.hv_at C h1 h2 g1 g2
  refine act_same (V := hv Hs p d) hb (fun c hc => ?_) ha
  have hg : (Hs (i + 1))[b]? = some k := by rw [← hb]; exact act_get ha
  exact I.hv_at C h1 h2 ((C.stepFacts hil).new b c k g1 hg hc) (C.kids (by omega) b c k hg hc)

/-- A quiet operation: old blocks stay as they are, what is made lies in rows of its own. -/
theorem Inv.quiet (C : Ctx P vars nt draw all l call fl E L Hs n0) (I : Inv vars nt draw all l fl E L Hs n0 base m0 w0 S p d m a w) {i : Nat} {o : Oper} {ro : ROper} (ho : all[i]? = some o) (hc : Comp P vars nt draw (ancs [] all) all i o ro)
    (hr : Ready draw all S i) (hn : ¬ solidAt all l i) (h1 : p ≤ i) (h2 : i < p + d) {m' : BMap} {w' : World} (hst : Step n0 base (Hs i).length m (Hs i) w m' (Hs (i + 1)) w') {v : AV} {v' : Value} (hL : L[i]? = some v) (hv : VRel m' v v') :
    Inv vars nt draw all l fl E L Hs n0 base m0 w0 (setS S i) p d m' (a.put o.dst v') w' := by
  have hil : i < all.length := by have := I.hq; omega
  have hnohit : ∀ c, ¬ Hit (Hs i).length m (Hs i) c := fun c ⟨b, k, lo, g1, g2, _⟩ => by have := act_lt g2; omega
  have hold : ∀ c, c < w.heap.size → w'.heap[c]? = w.heap[c]? := fun c hcl => hst.frame c hcl (hnohit c)
  have hnew : ∀ {b lo}, m' b = some lo → m b = none → (Hs i).length ≤ b ∧ b < (Hs (i + 1)).length := fun h h' => hst.new _ _ h h'
  have hcase : ∀ {b : Nat} {k : Blk} {lo}, (RM.hv Hs p d).act b = some k → m' b = some lo → m b = some lo ∨ ((Hs (i + 1)).act b = some k ∧ w.heap.size ≤ lo.cb ∧ (Hs i).length ≤ b) := fun {b k lo} ha hm => by
    cases hmb : m b with
    | some lo1 => left; have := hst.ext b lo1 hmb; rw [hm] at this; cases this; rfl
    | none =>
      obtain ⟨g1, g2⟩ := hnew hm hmb
      have ha' := I.new_act C h1 h2 g1 g2 ha
      refine .inr ⟨ha', ?_, g1⟩
      rcases Nat.lt_or_ge lo.cb w.heap.size with h | h
      · exact absurd (hst.hits lo.cb h ⟨b, k, lo, g1, ha', hm, rfl⟩) (hnohit _)
      · exact h
  have hlow : n0 ≤ (Hs i).length := Nat.le_trans C.low0 (C.len (Nat.zero_le i) (by omega))
  refine ⟨I.hq, I.ns, I.qend, I.pstart, I.slt_set hil, I.closed_set hr, I.solid_set hn, ?_, Nat.le_trans I.wsz hst.size, ?_, ?_, ?_, ?_, ?_, I.ext.trans hst.ext, ?_, hst.os.trans I.os, hst.tape.trans I.tape, hst.output.trans I.output, Nat.le_trans I.size hst.size, ?_, ?_, I.tmps.put C ho hc hst.ext hL hv⟩
  · intro b lo hm
    cases hmb : m b with
    | some lo1 =>
      rcases I.dom b lo1 hmb with h | ⟨j, h1, h2⟩ | h
      · exact .inl h
      · exact .inr (.inl ⟨j, setS_true.2 (.inr h1), h2⟩)
      · exact .inr (.inr h)
    | none =>
      obtain ⟨g1, g2⟩ := hnew hm hmb
      exact .inr (.inl ⟨i, setS_true.2 (.inl rfl), h1, h2, g1, g2⟩)
  · intro b k lo ha hm
    rcases hcase ha hm with h | ⟨h, _, _⟩
    · obtain ⟨e1, e2, e3⟩ := I.cells b k lo ha h
      exact ⟨e1, e2, cellsAt_mono e3 hst.ext fun j _ => cell_of_heap (hold _ (I.lt_size ha h)) _⟩
    · exact hst.sim.cells b k lo h hm
  · intro b lo hb hm
    cases hmb : m b with
    | some lo1 => have := hst.ext b lo1 hmb; rw [hm] at this; cases this; exact I.ro b lo hb hmb
    | none => have := (hnew hm hmb).1; omega
  · intro b k lo hb ha hm
    rcases hcase ha hm with h | ⟨h, _, _⟩
    · obtain ⟨e1, e2, e3⟩ := I.own b k lo hb ha h
      exact ⟨e1, Nat.lt_of_lt_of_le e2 hst.size, room_of_heap (hold _ e2) e3⟩
    · exact hst.sim.own b k lo hb h hm
  · intro b b' k k' lo lo' hb hb' ha ha' hm hm' he
    have mono : ∀ {x y}, Rk Hs S p d x y → Rk Hs (setS S i) p d x y := fun r => r.mono fun j h => setS_true.2 (.inr h)
    rcases hcase ha hm with h | ⟨h, hs1, _⟩ <;> rcases hcase ha' hm' with h' | ⟨h', hs2, _⟩
    · exact (I.excl b b' k k' lo lo' hb hb' ha ha' h h' he).imp id (Or.imp id (Or.imp id (Or.imp (fun h => ⟨mono h.1, h.2⟩) (fun h => ⟨mono h.1, h.2⟩))))
    · have := I.lt_size ha h; omega
    · have := I.lt_size ha' h'; omega
    · rcases hst.sim.inj b b' k k' lo lo' hb hb' h h' hm hm' he with g | g | g
      · exact .inl g
      · exact .inr (.inl g)
      · exact .inr (.inr (.inl g))
  · intro b k lo hk hm
    cases hmb : m b with
    | some lo1 => have := hst.ext b lo1 hmb; rw [hm] at this; cases this; exact I.es b k lo hk hmb
    | none =>
      obtain ⟨g1, g2⟩ := hnew hm hmb
      rw [I.hv_at C h1 h2 g1 g2] at hk
      exact hst.sim.es b k lo hk hm
  · intro b lo hm hm0
    cases hmb : m b with
    | some lo1 => exact I.new b lo1 hmb hm0
    | none =>
      obtain ⟨g1, g2⟩ := hnew hm hmb
      exact ⟨Nat.le_trans (C.len (Nat.zero_le i) (by omega)) g1, Nat.lt_of_lt_of_le g2 (C.len (by omega) (Nat.le_refl _))⟩
  · intro c hcl hh
    rw [hold c (Nat.lt_of_lt_of_le hcl I.size)]; exact I.frame c hcl hh
  · rintro c hcl ⟨b, k, lo, g1, ha, hm, rfl⟩
    rcases hcase ha hm with h | ⟨_, h, _⟩
    · exact I.hits lo.cb hcl ⟨b, k, lo, g1, ha, h, rfl⟩
    · have := I.size; omega

/-- A solid operation ends the stretch; the next one begins. -/
theorem Inv.solidStep (C : Ctx P vars nt draw all l call fl E L Hs n0) (I : Inv vars nt draw all l fl E L Hs n0 base m0 w0 S p d m a w) {i : Nat} {o : Oper} {ro : ROper} (ho : all[i]? = some o) (hc : Comp P vars nt draw (ancs [] all) all i o ro)
    (hr : Ready draw all S i) (hsol : solidAt all l i) (hi : i = p + d) {m' : BMap} {w' : World} (hst : Step n0 base fl m (Hs i) w m' (Hs (i + 1)) w') {v : AV} {v' : Value} (hL : L[i]? = some v) (hv : VRel m' v v') :
    ∃ p' d', Inv vars nt draw all l fl E L Hs n0 base m0 w0 (setS S i) p' d' m' (a.put o.dst v') w' := by
  have hil : i < all.length := (List.getElem?_eq_some_iff.1 ho).1
  obtain ⟨d', hd1, hd2, hd3⟩ := next_solid all l (all.length - (i + 1)) (i + 1) (by omega)
  have hnss : ∀ j, i + 1 ≤ j → j < i + 1 + d' → NS (Hs j) (Hs (j + 1)) := fun j g1 g2 => C.ns (by omega) (hd2 j g1 g2)
  have hvl : (RM.hv Hs (i + 1) d').length = (Hs (i + 1 + d')).length := hv_length hnss
  have hk1 : KidsOk (Hs (i + 1)) := C.kids (by omega)
  -- what is mapped stands in the heap behind the operation
  have hnew : ∀ {b lo}, m' b = some lo → m b = none → (Hs i).length ≤ b ∧ b < (Hs (i + 1)).length := fun h h' => hst.new _ _ h h'
  have hdom : ∀ {b lo}, m' b = some lo → b < (Hs (i + 1)).length ∨ (Hs all.length).length ≤ b := fun {b lo} hm => by
    cases hmb : m b with
    | none => exact .inl (hnew hm hmb).2
    | some lo1 =>
      rcases I.dom b lo1 hmb with h | ⟨j, _, h1, h2, _, h3⟩ | h
      · exact .inl (Nat.lt_of_lt_of_le h (C.len (by omega) (by omega)))
      · exact .inl (Nat.lt_of_lt_of_le h3 (C.len (by omega) (by omega)))
      · exact .inr h
  have hlt : ∀ {b : Nat} {lo}, b < (RM.hv Hs (i + 1) d').length → m' b = some lo → b < (Hs (i + 1)).length := fun {b lo} hb hm => by
    rcases hdom hm with h | h
    · exact h
    · rw [hvl] at hb
      have := C.len hd1 (Nat.le_refl _); omega
  have hpre : ∀ {b : Nat}, b < (Hs (i + 1)).length → (RM.hv Hs (i + 1) d')[b]? = (Hs (i + 1))[b]? := fun {b} hb =>
    hv_prefix (Hs := Hs) (p := i + 1) (Nat.zero_le d') (b := b) hb
  have hact : ∀ {b : Nat} {k : Blk} {lo}, (RM.hv Hs (i + 1) d').act b = some k → m' b = some lo → (Hs (i + 1)).act b = some k := fun {b k lo} ha hm => by
    have hb := hlt (act_lt ha) hm
    have hg : (Hs (i + 1))[b]? = some k := by rw [← hpre hb]; exact act_get ha
    exact act_same (hpre hb) (fun c hcc => hpre (hk1 b c k hg hcc)) ha
  refine ⟨i + 1, d', ⟨hd1, hd2, hd3, .inr (by simpa using hsol), I.slt_set hil, I.closed_set hr, ?_, ?_, Nat.le_trans I.wsz hst.size, fun b k lo ha hm => hst.sim.cells b k lo (hact ha hm) hm, hst.sim.ro, fun b k lo hb ha hm => hst.sim.own b k lo hb (hact ha hm) hm, ?_, ?_,
    I.ext.trans hst.ext, ?_, hst.os.trans I.os, hst.tape.trans I.tape, hst.output.trans I.output, Nat.le_trans I.size hst.size, ?_, ?_, I.tmps.put C ho hc hst.ext hL hv⟩⟩
  · intro j hj
    rw [setS_true, I.solid j hj]
    constructor
    · rintro (e | e) <;> omega
    · intro h
      by_cases e : j = i
      · exact .inl e
      · right
        rcases Nat.lt_or_ge j p with h' | h'
        · exact h'
        · exact absurd hj (I.ns j h' (by omega))
  · intro b lo hm
    rcases hdom hm with h | h
    · exact .inl h
    · exact .inr (.inr h)
  · intro b b' k k' lo lo' hb hb' ha ha' hm hm' he
    rcases hst.sim.inj b b' k k' lo lo' hb hb' (hact ha hm) (hact ha' hm') hm hm' he with g | g | g
    · exact .inl g
    · exact .inr (.inl g)
    · exact .inr (.inr (.inl g))
  · intro b k lo hk hm
    rw [hpre (hlt (get_lt hk) hm)] at hk
    exact hst.sim.es b k lo hk hm
  · intro b lo hm hm0
    cases hmb : m b with
    | some lo1 => exact I.new b lo1 hmb hm0
    | none =>
      obtain ⟨g1, g2⟩ := hnew hm hmb
      exact ⟨Nat.le_trans (C.len (Nat.zero_le i) (by omega)) g1, Nat.lt_of_lt_of_le g2 (C.len (by omega) (Nat.le_refl _))⟩
  · intro c hcl hh
    rw [hst.frame c (Nat.lt_of_lt_of_le hcl I.size) ?_]
    · exact I.frame c hcl hh
    · rintro ⟨b, k, lo, g1, ha, hm, rfl⟩
      exact hh (I.hits _ hcl ⟨b, k, lo, g1, (I.kd C (by omega) (by omega)).act (C.kids (by omega)) ha, hm, rfl⟩)
  · rintro c hcl ⟨b, k, lo, g1, ha, hm, rfl⟩
    obtain ⟨b2, k2, lo2, f1, f2, f3, f4⟩ := hst.hits _ (Nat.lt_of_lt_of_le hcl I.size) ⟨b, k, lo, g1, hact ha hm, hm, rfl⟩
    exact I.hits _ hcl ⟨b2, k2, lo2, f1, (I.kd C (by omega) (by omega)).act (C.kids (by omega)) f2, f3, f4⟩

end
end Go.RM
