/-
  A region: what the invariant gives to the next operation.
-/
import Derived.Test.YtmiinaimpdbenaaRmRegion3
namespace Go.RM
set_option linter.unusedSimpArgs false
set_option linter.unusedVariables false

theorem killed_act {H : Heap} {b : Nat} {k : Blk} (h : H[b]? = some (killed k)) : H.act b = none := by
  unfold Heap.act; rw [h]; simp [killed, Heap.rev]

theorem act_back {H H' : Heap} (h : NS H H') (hk : KidsOk H) {b : Nat} {k : Blk} (hb : b < H.length) (ha : H'.act b = some k) : H.act b = some k := by
  have hg := act_get ha
  have hHb : H[b]? = some k := by
    rcases h.2 b hb with e | ⟨k0, e1, e2, e3⟩
    · rw [← e]; exact hg
    · rw [killed_act e3] at ha; simp at ha
  by_cases hl : k.live = true
  · exact act_of hHb (.inl hl)
  · refine act_of hHb (.inr ?_)
    unfold Heap.act at ha
    rw [hg] at ha
    simp only [hl, Bool.false_or] at ha
    split at ha
    · rename_i hr
      unfold Heap.rev at hr ⊢
      simp only [hl] at hr ⊢
      cases hc : k.kid with
      | none => simp [hc] at hr
      | some c =>
        simp only [hc] at hr ⊢
        rcases h.2 c (hk b c k hHb hc) with e | ⟨k0, e1, e2, e3⟩
        · rw [← e]; exact hr
        · simp [e3, killed] at hr
    · simp at ha

theorem NS.trans {H1 H2 H3 : Heap} (a : NS H1 H2) (b : NS H2 H3) : NS H1 H3 := by
  refine ⟨Nat.le_trans a.1 b.1, fun x hx => ?_⟩
  rcases b.2 x (Nat.lt_of_lt_of_le hx a.1) with e | ⟨k, e1, e2, e3⟩
  · rw [e]; exact a.2 x hx
  · rcases a.2 x hx with f | ⟨k', f1, f2, f3⟩
    · exact .inr ⟨k, by rw [← f]; exact e1, e2, e3⟩
    · rw [f3] at e1; cases e1; simp [killed] at e2

section
variable {P : Program} {vars : List Nat} {nt : Nat} {draw : Bool} {all : List Oper} {l : List ROper} {call : Nat → Nat → List AV → Heap → Option (AV × Heap)} {fl : Nat} {E L : List AV} {Hs : Nat → Heap} {n0 base : Nat}
variable {m0 : BMap} {w0 : World} {S : Nat → Bool} {p d : Nat} {m : BMap} {a : Act} {w : World}

theorem Ctx.len (C : Ctx P vars nt draw all l call fl E L Hs n0) {i j : Nat} (hij : i ≤ j) (hj : j ≤ all.length) : (Hs i).length ≤ (Hs j).length := (C.factsTo hij hj).len

theorem Inv.nss (C : Ctx P vars nt draw all l call fl E L Hs n0) (I : Inv vars nt draw all l fl E L Hs n0 base m0 w0 S p d m a w) : ∀ j, p ≤ j → j < p + d → NS (Hs j) (Hs (j + 1)) := fun j h1 h2 =>
  C.ns (by have := I.hq; omega) (I.ns j h1 h2)

theorem Inv.nsTo (C : Ctx P vars nt draw all l call fl E L Hs n0) (I : Inv vars nt draw all l fl E L Hs n0 base m0 w0 S p d m a w) {i j : Nat} (h1 : p ≤ i) (h2 : i ≤ j) (h3 : j ≤ p + d) : NS (Hs i) (Hs j) := by
  induction j with
  | zero => have : i = 0 := by omega
            subst this; exact NS.refl _
  | succ j ih =>
    by_cases e : i = j + 1
    · subst e; exact NS.refl _
    · exact (ih (by omega) (by omega)).trans (I.nss C j (by omega) (by omega))

theorem Inv.kd (C : Ctx P vars nt draw all l call fl E L Hs n0) (I : Inv vars nt draw all l fl E L Hs n0 base m0 w0 S p d m a w) {i : Nat} (h1 : p ≤ i) (h2 : i ≤ p + d) : Kd (Hs i) (hv Hs p d) := by
  have := hv_kd (I.nss C) (i - p) (by omega)
  rwa [show p + (i - p) = i by omega] at this

theorem Inv.vlen (C : Ctx P vars nt draw all l call fl E L Hs n0) (I : Inv vars nt draw all l fl E L Hs n0 base m0 w0 S p d m a w) : (hv Hs p d).length = (Hs (p + d)).length := hv_length (I.nss C)

/-- Which blocks are mapped: those that operations that have run made. -/
theorem Inv.below (C : Ctx P vars nt draw all l call fl E L Hs n0) (I : Inv vars nt draw all l fl E L Hs n0 base m0 w0 S p d m a w) {b : Nat} {lo : Loc} (hm : m b = some lo) (hb : b < (Hs all.length).length) : b < (Hs (p + d)).length := by
  rcases I.dom b lo hm with h | ⟨j, _, h1, h2, _, h3⟩ | h
  · exact Nat.lt_of_lt_of_le h (C.len (Nat.le_add_right p d) I.hq)
  · exact Nat.lt_of_lt_of_le h3 (C.len (by omega) I.hq)
  · omega

theorem Inv.esAt (C : Ctx P vars nt draw all l call fl E L Hs n0) (I : Inv vars nt draw all l fl E L Hs n0 base m0 w0 S p d m a w) {i : Nat} (hi : i ≤ all.length) {b : Nat} {k : Blk} {lo : Loc} (hk : (Hs i)[b]? = some k) (hm : m b = some lo) : lo.e = k.e := by
  have hb : b < (Hs all.length).length := Nat.lt_of_lt_of_le (get_lt hk) (C.len hi (Nat.le_refl _))
  have hb2 := I.below C hm hb
  obtain ⟨k2, hk2⟩ : ∃ k2, (Hs (p + d))[b]? = some k2 := ⟨_, List.getElem?_eq_getElem hb2⟩
  have e1 : k.e = k2.e := by
    rcases Nat.le_total i (p + d) with h | h
    · exact ((C.factsTo h I.hq).es b k k2 hk hk2).symm
    · exact (C.factsTo h hi).es b k2 k hk2 hk
  rw [e1]
  have := I.kd C (Nat.le_add_right p d) (Nat.le_refl _)
  rcases this.2 b hb2 with e | ⟨k3, e1, _, e3⟩
  · exact I.es b k2 lo (by rw [← e]; exact hk2) hm
  · rw [e3] at hk2; cases hk2
    exact I.es b k3 lo (by assumption) hm

theorem Inv.sim (C : Ctx P vars nt draw all l call fl E L Hs n0) (I : Inv vars nt draw all l fl E L Hs n0 base m0 w0 S p d m a w) {i : Nat} (h1 : p ≤ i) (h2 : i ≤ p + d) : Sim n0 base m (Hs i) w := by
  have hi : i ≤ all.length := by have := I.hq; omega
  have hk := C.kids hi
  have hact : ∀ {b : Nat} {k : Blk}, (Hs i).act b = some k → (hv Hs p d).act b = some k := fun ha => (I.kd C h1 h2).act hk ha
  have hrk : ∀ b b' kb kb', (Hs i).act b = some kb → (Hs i).act b' = some kb' → ¬ Rk Hs S p d b b' := fun b b' kb kb' ha ha' ⟨j, _, j1, j2, j3, j4, j5⟩ => by
    have hb' := act_lt ha'
    have hji : j < i := by
      rcases Nat.lt_or_ge j i with h | h
      · exact h
      · have := C.len h (by have := I.hq; omega); omega
    obtain ⟨kj, hkj⟩ := Option.isSome_iff_exists.1 j4
    have hbj := act_lt hkj
    have := act_back (I.nsTo C (by omega) (show j + 1 ≤ i by omega) h2) (C.kids (by omega)) (Nat.lt_of_lt_of_le hbj (C.len (by omega) (by omega))) ha
    rw [j5] at this; simp at this
  refine ⟨I.wsz, Nat.le_trans C.low0 (C.len (Nat.zero_le i) hi), hk, fun b k lo hb hm => I.esAt C hi hb hm, fun b k lo ha hm => I.cells b k lo (hact ha) hm, I.ro, fun b k lo hb ha hm => I.own b k lo hb (hact ha) hm, fun b b' k k' lo lo' hb hb' ha ha' hm hm' he => ?_⟩
  rcases I.excl b b' k k' lo lo' hb hb' (hact ha) (hact ha') hm hm' he with h | h | h | ⟨h, _⟩ | ⟨h, _⟩
  · exact .inl h
  · exact .inr (.inl h)
  · exact .inr (.inr h)
  · exact absurd h (hrk b b' k k' ha ha')
  · exact absurd h (hrk b' b k' k ha' ha)

/-- What an operation of the stretch makes has no place yet. -/
theorem Inv.fresh (C : Ctx P vars nt draw all l call fl E L Hs n0) (I : Inv vars nt draw all l fl E L Hs n0 base m0 w0 S p d m a w) {i : Nat} (h1 : p ≤ i) (h2 : i < all.length) (hS : S i = false) {b : Nat} (hb1 : (Hs i).length ≤ b) (hb2 : b < (Hs (i + 1)).length) : m b = none := by
  cases hm : m b with
  | none => rfl
  | some lo =>
    exfalso
    rcases I.dom b lo hm with h | ⟨j, hj, j1, j2, j3, j4⟩ | h
    · have := C.len h1 (by omega : i ≤ all.length); omega
    · have hq := I.hq
      rcases Nat.lt_trichotomy j i with e | e | e
      · have := C.len (show j + 1 ≤ i by omega) (by omega); omega
      · subst e; rw [hj] at hS; simp at hS
      · have := C.len (show i + 1 ≤ j by omega) (by omega); omega
    · have := C.len (show i + 1 ≤ all.length by omega) (Nat.le_refl _); omega

theorem pre_of_ord {A : List Nat} {s i : Nat} (h : ordB draw A s i = true) : (i < s ∧ preB draw A i s = true) ∨ (s ≤ i ∧ preB draw A s i = true) := by
  unfold ordB at h
  split at h
  · exact .inl ⟨by assumption, h⟩
  · exact .inr ⟨by omega, h⟩

/-- Where the next operation lies. -/
theorem Inv.pos (C : Ctx P vars nt draw all l call fl E L Hs n0) (I : Inv vars nt draw all l fl E L Hs n0 base m0 w0 S p d m a w) {i : Nat} {o : Oper} {ro : ROper} (ho : all[i]? = some o) (hro : l[i]? = some ro)
    (ht : touches o.op = true) (hl : isLoad o.op = false) (hS : S i = false) (hpre : ∀ k, preB draw (ancs [] all) k i = true → S k = true) :
    p ≤ i ∧ ((i < p + d ∧ solidB o ro.free = false) ∨ (i = p + d ∧ solidB o ro.free = true)) := by
  have hil : i < all.length := (List.getElem?_eq_some_iff.1 ho).1
  have key : ∀ s, solidAt all l s → s ≠ i → (i < s ∧ S s = false) ∨ (s < i ∧ S s = true) := fun s ⟨os, rs, h1, h2, h3⟩ hne => by
    obtain ⟨rs', g1, g2, _⟩ := C.comp s os h1
    rw [h2] at g1; cases g1
    rcases pre_of_ord (solid_ord g2 h3 ho (Ne.symm hne) ht hl) with ⟨h, hp⟩ | ⟨h, hp⟩
    · refine .inl ⟨h, ?_⟩
      cases hs : S s with
      | false => rfl
      | true => rw [I.closed s i hs hp] at hS; simp at hS
    · exact .inr ⟨by omega, hpre s hp⟩
  have h1 : p ≤ i := by
    rcases I.pstart with h | h
    · omega
    · by_cases e : p = 0
      · omega
      · have hs : S (p - 1) = true := (I.solid (p - 1) h).2 (by omega)
        have hne : p - 1 ≠ i := fun e' => by rw [e', hS] at hs; simp at hs
        rcases key (p - 1) h hne with ⟨_, g⟩ | ⟨g, _⟩
        · rw [hs] at g; simp at g
        · omega
  refine ⟨h1, ?_⟩
  have hsol : solidB o ro.free = true ↔ solidAt all l i := ⟨fun h => ⟨o, ro, ho, hro, h⟩, fun ⟨o', r', a1, a2, a3⟩ => by rw [ho] at a1; rw [hro] at a2; cases a1; cases a2; exact a3⟩
  rcases Nat.lt_trichotomy i (p + d) with h | h | h
  · refine .inl ⟨h, ?_⟩
    cases hb : solidB o ro.free with
    | false => rfl
    | true => exact absurd (hsol.1 hb) (I.ns i h1 h)
  · refine .inr ⟨h, ?_⟩
    rcases I.qend with h' | h'
    · omega
    · rw [h] at hsol; exact hsol.2 h'
  · exfalso
    rcases I.qend with h' | h'
    · omega
    · rcases key (p + d) h' (by omega) with ⟨g, _⟩ | ⟨_, g⟩
      · omega
      · have := (I.solid (p + d) h').1 g; omega

/-! ### Operands, guards, temporaries -/

theorem Inv.opnd (C : Ctx P vars nt draw all l call fl E L Hs n0) (I : Inv vars nt draw all l fl E L Hs n0 base m0 w0 S p d m a w) {i : Nat} (hi : i < all.length) (hS : S i = false) (hpre : ∀ k, preB draw (ancs [] all) k i = true → S k = true)
    {x : Operand} {rx : RX} (h : resAt vars draw (ancs [] all) all i x = some rx) : VRel m (RX.ev (L.take i) E rx) (a.eval x) := by
  cases x with
  | tmp t =>
    simp only [resAt] at h
    split at h
    · rename_i j hj
      split at h
      · rename_i hji
        split at h
        · rename_i hp
          simp only [Option.some.injEq] at h; subst h
          have hjl : j < L.length := by rw [C.llen]; omega
          have := I.tmps.done t j L[j] hj (hpre j hp) (List.getElem?_eq_getElem hjl)
          simp only [RX.ev, Act.eval]
          rw [List.getD_eq_getElem?_getD, List.getElem?_take_of_lt hji, List.getElem?_eq_getElem hjl]
          exact this
        · simp at h
      · split at h
        · rename_i hc
          simp only [Option.map_eq_some_iff] at h
          obtain ⟨y, hy, rfl⟩ := h
          refine I.tmps.old y t (idx_some hy) fun j' hj' => ?_
          rw [hj] at hj'; cases hj'
          rcases hc with rfl | hc
          · exact hS
          · cases hs : S j with
            | false => rfl
            | true => rw [I.closed j i hs hc] at hS; simp at hS
        · simp at h
    · rename_i hn
      simp only [Option.map_eq_some_iff] at h
      obtain ⟨y, hy, rfl⟩ := h
      exact I.tmps.old y t (idx_some hy) fun j' hj' => by rw [hn] at hj'; simp at hj'
  | const v =>
    simp only [resAt, Option.map_eq_some_iff] at h
    obtain ⟨v', hv, rfl⟩ := h
    exact ofConst_rel m hv
  | func f =>
    simp only [resAt, Option.some.injEq] at h; subst h
    exact ⟨[], rfl, trivial⟩
  | global g => simp [resAt] at h

theorem Inv.guard (C : Ctx P vars nt draw all l call fl E L Hs n0) (I : Inv vars nt draw all l fl E L Hs n0 base m0 w0 S p d m a w) {i : Nat} {o : Oper} {ro : ROper} (ho : all[i]? = some o)
    (hc : Comp P vars nt draw (ancs [] all) all i o ro) (hpre : ∀ k, preB draw (ancs [] all) k i = true → S k = true) :
    Region.wanted o (yielded all.toArray a.tmps) = wantedB ro.guard (L.take i) := by
  have hil : i < all.length := (List.getElem?_eq_some_iff.1 ho).1
  unfold Region.wanted wantedB
  rw [hc.guard.1]
  cases hg : o.guard with
  | none => rfl
  | some gb =>
    obtain ⟨g, b⟩ := gb
    obtain ⟨h1, h2, h3⟩ := hc.guard.2 g b hg
    obtain ⟨t, ht⟩ := Option.isSome_iff_exists.1 h3
    simp only [Option.bind_eq_some_iff] at ht
    obtain ⟨og, hog, hot⟩ := ht
    obtain ⟨rg, _, cg, _⟩ := C.comp g og hog
    obtain ⟨ht1, ht2⟩ := cg.dst t hot
    have ht1 : @LT.lt Nat _ t nt := ht1
    have hgl : g < L.length := by rw [C.llen]; omega
    have hv := I.tmps.done t g L[g] ht2 (hpre g h2) (List.getElem?_eq_getElem hgl)
    have hsz := I.tmps.size
    have hty : a.tmps[t]? = some (a.tmps.getD t undef) := by
      rw [Array.getD_eq_getD_getElem?, Array.getElem?_eq_getElem (by omega)]; rfl
    simp only [yielded, List.getElem?_toArray, hog, Option.bind_some, hot, hty, List.getElem?_take_of_lt h1, List.getElem?_eq_getElem hgl]
    revert hv
    generalize a.tmps.getD t undef = v
    intro hv
    cases hL : L[g] with
    | bool b' => rw [hL] at hv; cases hv; simp
    | int k n => rw [hL] at hv; cases hv; simp
    | str s => rw [hL] at hv; cases hv; simp
    | ptr b o => rw [hL] at hv; obtain ⟨_, _, rfl⟩ := hv; simp
    | nilptr => rw [hL] at hv; cases hv; simp
    | slice b o n l => rw [hL] at hv; obtain ⟨_, _, rfl, _⟩ := hv; simp
    | empty => rw [hL] at hv; obtain ⟨_, rfl⟩ := hv; simp
    | func f c => rw [hL] at hv; obtain ⟨_, rfl, _⟩ := hv; simp
    | nilfunc => rw [hL] at hv; cases hv; simp
    | agg cs => rw [hL] at hv; obtain ⟨_, rfl, _⟩ := hv; simp
    | tuple cs => rw [hL] at hv; obtain ⟨_, rfl, _⟩ := hv; simp

def setS (S : Nat → Bool) (i : Nat) : Nat → Bool := fun j => j == i || S j
theorem setS_true {j i : Nat} : setS S i j = true ↔ j = i ∨ S j = true := by simp [setS]

theorem Tmps.put (C : Ctx P vars nt draw all l call fl E L Hs n0) (T : Tmps vars nt all E L S m a) {i : Nat} {o : Oper} {ro : ROper} (ho : all[i]? = some o) (hc : Comp P vars nt draw (ancs [] all) all i o ro)
    {m' : BMap} (he : Ext m m') {v : AV} (hL : L[i]? = some v) {v' : Value} (hv : VRel m' v v') : Tmps vars nt all E L (setS S i) m' (a.put o.dst v') := by
  have hget : ∀ t, o.dst ≠ some t → (a.put o.dst v').tmps.getD t undef = a.tmps.getD t undef := fun t ht => by
    cases hd : o.dst with
    | none => rfl
    | some t' =>
      have : t' ≠ t := fun e => ht (by rw [hd, e])
      simp [Act.put, Array.getElem?_setIfInBounds_ne this]
  refine ⟨?_, fun t j u hw hs hu => ?_, fun y t hy hall => ?_⟩
  · cases hd : o.dst with
    | none => exact T.size
    | some t' => simpa [Act.put] using T.size
  · rcases setS_true.1 hs with e | e
    · subst e
      rw [hL] at hu; cases hu
      obtain ⟨_, o', ho', hd'⟩ := writer_some hw
      rw [Nat.sub_zero, ho] at ho'; cases ho'
      have : @LT.lt Nat _ t nt := (hc.dst t hd').1
      have hsz := T.size
      simp only [hd', Act.put]
      rw [Array.getD_eq_getD_getElem?, Array.getElem?_setIfInBounds_self_of_lt (by omega)]
      exact hv
    · by_cases hji : j = i
      · subst hji
        rw [hL] at hu; cases hu
        obtain ⟨_, o', ho', hd'⟩ := writer_some hw
        rw [Nat.sub_zero, ho] at ho'; cases ho'
        have : @LT.lt Nat _ t nt := (hc.dst t hd').1
        have hsz := T.size
        simp only [hd', Act.put]
        rw [Array.getD_eq_getD_getElem?, Array.getElem?_setIfInBounds_self_of_lt (by omega)]
        exact hv
      · rw [hget t fun h => by have := (hc.dst t h).2; rw [hw] at this; cases this; exact hji rfl]
        exact (T.done t j u hw e hu).mono he
  · rw [hget t fun h => by
      have := hall i (hc.dst t h).2
      simp [setS] at this]
    refine (T.old y t hy fun j hj => ?_).mono he
    have := hall j hj
    simp only [setS, Bool.or_eq_false_iff] at this
    exact this.2

end
end Go.RM
