/-
  A region, whole.
-/
import Derived.Test.YtmiinaimpdbenaaRmRegion7
namespace Go.RM
set_option linter.unusedSimpArgs false
set_option linter.unusedVariables false

theorem edges_get {i0 : Nat} : ∀ {l : List Oper} {i0 : Nat}, edgesB l i0 = true → ∀ (k : Nat) (o : Oper), l[k]? = some o → ∀ e ∈ o.after, Region.binds .any e = true → e.on < i0 + k
  | [], _, _, k, o, h => by simp at h
  | o' :: l, i0, h, k, o, ho => by
    simp only [edgesB, Bool.and_eq_true] at h
    cases k with
    | zero =>
      simp only [List.getElem?_cons_zero, Option.some.injEq] at ho; subst ho
      intro e he hb
      have := List.all_eq_true.1 h.1 e (by simpa using he)
      simpa [hb] using this
    | succ k =>
      intro e he hb
      have := edges_get (i0 := 0) h.2 k o (by simpa using ho) e he hb
      omega

theorem foldBits (acc : List Nat) (k : Nat) : ∀ (es : List Edge) (s : Nat), (es.foldl (fun s e => if Region.binds .any e then s ||| 2 ^ e.on ||| acc.getD e.on 0 else s) s).testBit k = true →
    s.testBit k = true ∨ ∃ e ∈ es, Region.binds .any e = true ∧ (k = e.on ∨ (acc.getD e.on 0).testBit k = true)
  | [], s, h => .inl h
  | e :: es, s, h => by
    rw [List.foldl_cons] at h
    rcases foldBits acc k es _ h with h1 | ⟨e', h1, h2⟩
    · split at h1
      · rename_i hb
        rw [Nat.testBit_or, Nat.testBit_or, Bool.or_eq_true, Bool.or_eq_true] at h1
        rcases h1 with (h1 | h1) | h1
        · exact .inl h1
        · rw [Nat.testBit_two_pow] at h1
          simp only [decide_eq_true_eq] at h1
          exact .inr ⟨e, by simp, hb, .inl h1.symm⟩
        · exact .inr ⟨e, by simp, hb, .inr h1⟩
      · exact .inl h1
    · exact .inr ⟨e', List.mem_cons_of_mem _ h1, h2⟩

theorem ancs_acc : ∀ (l : List Oper) (acc : List Nat) (j : Nat), j < acc.length → (ancs acc l).getD j 0 = acc.getD j 0
  | [], acc, j, _ => rfl
  | o :: l, acc, j, h => by
    rw [ancs, ancs_acc l _ j (by simp; omega)]
    simp only [List.getD_eq_getElem?_getD]
    rw [List.getElem?_append_left h]

theorem ancs_bits : ∀ (l : List Oper) (acc : List Nat) (i : Nat) (o : Oper) (k : Nat), l[i]? = some o → ((ancs acc l).getD (acc.length + i) 0).testBit k = true →
    ∃ e ∈ o.after, Region.binds .any e = true ∧ (k = e.on ∨ ((ancs acc l).getD e.on 0).testBit k = true)
  | [], acc, i, o, k, h, _ => by simp at h
  | o' :: l, acc, 0, o, k, h, hb => by
    simp only [List.getElem?_cons_zero, Option.some.injEq] at h; subst h
    rw [ancs] at hb ⊢
    rw [ancs_acc l _ _ (by simp)] at hb
    simp only [Nat.add_zero, List.getD_eq_getElem?_getD] at hb
    rw [List.getElem?_append_right (Nat.le_refl _)] at hb
    simp only [Nat.sub_self, List.getElem?_cons_zero, Option.getD_some] at hb
    have := foldBits acc k _ _ (by simpa only [List.getD_eq_getElem?_getD] using hb)
    rcases this with h1 | ⟨e, h1, h2, h3⟩
    · simp at h1
    · refine ⟨e, by simpa using h1, h2, h3.imp id fun h3 => ?_⟩
      have hl : e.on < acc.length := by
        rcases Nat.lt_or_ge e.on acc.length with h | h
        · exact h
        · rw [List.getD_eq_getElem?_getD, List.getElem?_eq_none h] at h3; simp at h3
      rw [ancs_acc l _ _ (by simp; omega)]
      simp only [List.getD_eq_getElem?_getD] at h3 ⊢
      rw [List.getElem?_append_left hl]; exact h3
  | o' :: l, acc, i + 1, o, k, h, hb => by
    rw [ancs] at hb ⊢
    refine ancs_bits l _ i o k (by simpa using h) ?_
    rw [List.length_append, List.length_singleton, Nat.add_assoc, Nat.add_comm 1 i]
    exact hb

theorem pre_bits {all : List Oper} {i k : Nat} {o : Oper} (ho : all[i]? = some o) (h : preB true (ancs [] all) k i = true) :
    ∃ e ∈ o.after, Region.binds .any e = true ∧ (k = e.on ∨ preB true (ancs [] all) k e.on = true) := by
  unfold preB at h ⊢
  simp only [if_true] at h ⊢
  exact ancs_bits all [] i o k ho (by simpa using h)

/-! ### The trace of a run -/

def StepOff (call : Nat → Nat → List AV → Heap → Option (AV × Heap)) (fl : Nat) (E L : List AV) (Hs : Nat → Heap) (k i : Nat) (ro : ROper) : Prop :=
  (wantedB ro.guard (L.take (k + i)) = true ∧ ∃ v, L[k + i]? = some v ∧ rop call fl ro.free (RX.ev (L.take (k + i)) E) (Hs i) ro.op = some (v, Hs (i + 1))) ∨
  (wantedB ro.guard (L.take (k + i)) = false ∧ L[k + i]? = some .undef ∧ Hs (i + 1) = Hs i)

theorem rops_trace {call : Nat → Nat → List AV → Heap → Option (AV × Heap)} {fl : Nat} {E : List AV} : ∀ {l : List ROper} {L0 L : List AV} {H H' : Heap}, rops call fl E l L0 H = some (L, H') →
    L.length = L0.length + l.length ∧ L.take L0.length = L0 ∧ ∃ Hs : Nat → Heap, Hs 0 = H ∧ Hs l.length = H' ∧ ∀ (i : Nat) (ro : ROper), l[i]? = some ro → StepOff call fl E L Hs L0.length i ro
  | [], L0, L, H, H', h => by
    simp only [rops, Option.some.injEq, Prod.mk.injEq] at h
    obtain ⟨rfl, rfl⟩ := h
    exact ⟨rfl, by simp, fun _ => H, rfl, rfl, fun i ro h => by simp at h⟩
  | o :: l, L0, L, H, H', h => by
    have key : ∀ (v : AV) (H1 : Heap), rops call fl E l (L0 ++ [v]) H1 = some (L, H') → ((wantedB o.guard L0 = true ∧ rop call fl o.free (RX.ev L0 E) H o.op = some (v, H1)) ∨ (wantedB o.guard L0 = false ∧ v = .undef ∧ H1 = H)) →
        L.length = L0.length + (o :: l).length ∧ L.take L0.length = L0 ∧ ∃ Hs : Nat → Heap, Hs 0 = H ∧ Hs (o :: l).length = H' ∧ ∀ (i : Nat) (ro : ROper), (o :: l)[i]? = some ro → StepOff call fl E L Hs L0.length i ro := fun v H1 hr hfirst => by
      obtain ⟨e1, e2, Hs, g1, g2, g3⟩ := rops_trace hr
      have ht : L.take L0.length = L0 := by
        have := congrArg (List.take L0.length) e2
        rw [List.take_take] at this
        simpa using this
      have hget : L[L0.length]? = some v := by
        have : (L.take (L0 ++ [v]).length)[L0.length]? = some v := by rw [e2]; simp
        rwa [List.getElem?_take_of_lt (by simp)] at this
      refine ⟨by rw [e1]; simp; omega, ht, fun i => match i with | 0 => H | i + 1 => Hs i, rfl, g2, fun i ro hi => ?_⟩
      cases i with
      | zero =>
        simp only [List.getElem?_cons_zero, Option.some.injEq] at hi; subst hi
        unfold StepOff
        simp only [Nat.add_zero, ht, hget, g1]
        rcases hfirst with ⟨f1, f2⟩ | ⟨f1, rfl, rfl⟩
        · exact .inl ⟨f1, v, rfl, f2⟩
        · exact .inr ⟨f1, rfl, rfl⟩
      | succ i =>
        have := g3 i ro (by simpa using hi)
        unfold StepOff at this ⊢
        simp only [List.length_append, List.length_cons, List.length_nil, Nat.zero_add] at this
        rw [show L0.length + (i + 1) = L0.length + 1 + i by omega]
        exact this
    simp only [rops] at h
    split at h
    · rename_i hw
      split at h
      · rename_i v H1 hr
        exact key v H1 h (.inl ⟨hw, hr⟩)
      · simp at h
    · rename_i hw
      exact key .undef H h (.inr ⟨by simpa using hw, rfl, rfl⟩)

/-! ### The environment -/

structure EnvOk (vars : List Nat) (nt : Nat) (E : List AV) (m : BMap) (a : Act) : Prop where
  size : nt ≤ a.tmps.size
  len : E.length = vars.length
  rel : ∀ (y t : Nat), vars[y]? = some t → VRel m (E.getD y .undef) (a.tmps.getD t undef)

theorem putDst_len (d : Option Nat) (v : AV) (E : List AV) : (putDst d v E).length = E.length := by cases d <;> simp [putDst]
theorem putAll_len : ∀ (l : List ROper) (L E : List AV), (putAll l L E).length = E.length
  | [], _, _ => rfl
  | _ :: _, [], _ => rfl
  | o :: l, v :: L, E => by rw [putAll, putAll_len l L, putDst_len]

theorem putDst_ne {d : Option Nat} {v : AV} {E : List AV} {y : Nat} (h : d ≠ some y) : (putDst d v E).getD y .undef = E.getD y .undef := by
  cases d with
  | none => rfl
  | some x =>
    have : x ≠ y := fun e => h (by rw [e])
    simp only [putDst, List.getD_eq_getElem?_getD, List.getElem?_set_ne this]

theorem putAll_ne {y : Nat} : ∀ {l : List ROper} {L E : List AV}, (∀ (j : Nat) (ro : ROper), l[j]? = some ro → ro.dst ≠ some y) → (putAll l L E).getD y .undef = E.getD y .undef
  | [], _, _, _ => rfl
  | _ :: _, [], _, _ => rfl
  | o :: l, v :: L, E, h => by
    rw [putAll, putAll_ne (fun j ro hj => h (j + 1) ro (by simpa using hj)), putDst_ne (h 0 o rfl)]

theorem putAll_get {y : Nat} : ∀ {l : List ROper} {L E : List AV} {j : Nat} {ro : ROper} {v : AV}, l[j]? = some ro → ro.dst = some y → L[j]? = some v → y < E.length →
    (∀ (j' : Nat) (ro' : ROper), l[j']? = some ro' → ro'.dst = some y → j' = j) → (putAll l L E).getD y .undef = v
  | [], _, _, j, ro, v, h, _, _, _, _ => by simp at h
  | _ :: _, [], _, j, ro, v, _, _, h, _, _ => by simp at h
  | o :: l, u :: L, E, 0, ro, v, h, hd, hv, hy, hu => by
    simp only [List.getElem?_cons_zero, Option.some.injEq] at h hv; subst h; subst hv
    rw [putAll, putAll_ne fun j ro hj e => by have := hu (j + 1) ro (by simpa using hj) e; omega, hd]
    simp [putDst, hy]
  | o :: l, u :: L, E, j + 1, ro, v, h, hd, hv, hy, hu => by
    rw [putAll]
    exact putAll_get (by simpa using h) hd (by simpa using hv) (by rw [putDst_len]; exact hy) fun j' ro' hj' e => by have := hu (j' + 1) ro' (by simpa using hj') e; omega

section
variable {P : Program} {vars : List Nat} {nt : Nat} {draw : Bool} {all : List Oper} {l : List ROper} {call : Nat → Nat → List AV → Heap → Option (AV × Heap)} {fl : Nat} {E L : List AV} {Hs : Nat → Heap} {n0 base : Nat}
variable {m0 : BMap} {w0 : World} {S : Nat → Bool} {p d : Nat} {m : BMap} {a : Act} {w : World}

theorem Inv.init (C : Ctx P vars nt draw all l call fl E L Hs n0) (hs : Sim n0 base m0 (Hs 0) w0) (hfresh : ∀ b, (Hs 0).length ≤ b → b < (Hs all.length).length → m0 b = none) (hE : EnvOk vars nt E m0 a) :
    ∃ p d, Inv vars nt draw all l fl E L Hs n0 base m0 w0 (fun _ => false) p d m0 a w0 := by
  obtain ⟨d, hd1, hd2, hd3⟩ := next_solid all l all.length 0 (by omega)
  have hnss : ∀ j, 0 ≤ j → j < 0 + d → NS (Hs j) (Hs (j + 1)) := fun j g1 g2 => C.ns (by omega) (hd2 j g1 g2)
  have hvl : (hv Hs 0 d).length = (Hs (0 + d)).length := hv_length hnss
  have hdom : ∀ {b lo}, m0 b = some lo → b < (Hs 0).length ∨ (Hs all.length).length ≤ b := fun {b lo} hm => by
    rcases Nat.lt_or_ge b (Hs 0).length with h | h
    · exact .inl h
    · rcases Nat.lt_or_ge b (Hs all.length).length with h' | h'
      · rw [hfresh b h h'] at hm; simp at hm
      · exact .inr h'
  have hlt : ∀ {b : Nat} {lo}, b < (hv Hs 0 d).length → m0 b = some lo → b < (Hs 0).length := fun {b lo} hb hm => by
    rcases hdom hm with h | h
    · exact h
    · rw [hvl] at hb
      have := C.len hd1 (Nat.le_refl _); omega
  have hpre : ∀ {b : Nat}, b < (Hs 0).length → (hv Hs 0 d)[b]? = (Hs 0)[b]? := fun {b} hb => hv_prefix (Hs := Hs) (p := 0) (Nat.zero_le d) (b := b) hb
  have hact : ∀ {b : Nat} {k : Blk} {lo}, (hv Hs 0 d).act b = some k → m0 b = some lo → (Hs 0).act b = some k := fun {b k lo} ha hm => by
    have hb := hlt (act_lt ha) hm
    have hg : (Hs 0)[b]? = some k := by rw [← hpre hb]; exact act_get ha
    exact act_same (hpre hb) (fun c hcc => hpre (C.kids0 b c k hg hcc)) ha
  refine ⟨0, d, hd1, hd2, hd3, .inl rfl, fun j h => by simp at h, fun j k h => by simp at h, fun j _ => by simp, ?_, hs.size, fun b k lo ha hm => hs.cells b k lo (hact ha hm) hm, hs.ro, fun b k lo hb ha hm => hs.own b k lo hb (hact ha hm) hm, ?_, ?_,
    Ext.refl _, fun b lo h h' => by simp [h] at h', rfl, rfl, rfl, Nat.le_refl _, fun _ _ _ => rfl, ?_, ⟨hE.size, fun t j v _ h => by simp at h, fun y t hy _ => hE.rel y t hy⟩⟩
  · intro b lo hm
    rcases hdom hm with h | h
    · exact .inl h
    · exact .inr (.inr h)
  · intro b b' k k' lo lo' hb hb' ha ha' hm hm' he
    rcases hs.inj b b' k k' lo lo' hb hb' (hact ha hm) (hact ha' hm') hm hm' he with g | g | g
    · exact .inl g
    · exact .inr (.inl g)
    · exact .inr (.inr (.inl g))
  · intro b k lo hk hm
    rw [hpre (hlt (get_lt hk) hm)] at hk
    exact hs.es b k lo hk hm
  · rintro c hcl ⟨b, k, lo, g1, ha, hm, rfl⟩
    exact ⟨b, k, lo, g1, hact ha hm, hm, rfl⟩

theorem Inv.done (C : Ctx P vars nt draw all l call fl E L Hs n0) (I : Inv vars nt draw all l fl E L Hs n0 base m0 w0 S p d m a w) (hl : l.length = all.length) (hE : E.length = vars.length) (hS : ∀ j, j < all.length → S j = true) :
    EnvOk vars nt (putAll l L E) m a ∧ Step n0 base fl m0 (Hs 0) w0 m (Hs all.length) w := by
  have hpd : p + d = all.length := by
    rcases I.qend with h | h
    · exact h
    · have h' := h
      obtain ⟨o, ro, ho, _⟩ := h'
      have := (I.solid _ h).1 (hS _ (List.getElem?_eq_some_iff.1 ho).1)
      omega
  have hsim := I.sim C (i := all.length) (by omega) (by omega)
  refine ⟨⟨I.tmps.size, by rw [putAll_len]; exact hE, fun y t hy => ?_⟩, ⟨I.ext, I.new, hsim, I.os, I.tape, I.output, I.size, C.len (Nat.zero_le _) (Nat.le_refl _), I.frame, ?_⟩⟩
  · have hyl : y < E.length := by rw [hE]; exact (List.getElem?_eq_some_iff.1 hy).1
    have hidx := idx_of_get C.nodup hy
    -- who writes the variable
    have huniq : ∀ (j : Nat) (ro : ROper), l[j]? = some ro → ro.dst = some y → writer t all 0 = some j := fun j ro hj hd => by
      obtain ⟨o, ho⟩ : ∃ o, all[j]? = some o := ⟨_, List.getElem?_eq_getElem (by rw [← hl]; exact (List.getElem?_eq_some_iff.1 hj).1)⟩
      obtain ⟨ro', h1, h2, _⟩ := C.comp j o ho
      rw [hj] at h1; cases h1
      rw [h2.rdst, Option.bind_eq_some_iff] at hd
      obtain ⟨t', ht', hi⟩ := hd
      have := idx_some hi
      rw [hy] at this; cases this
      exact (h2.dst t ht').2
    cases hwr : writer t all 0 with
    | none =>
      rw [putAll_ne fun j ro hj hd => by have := huniq j ro hj hd; rw [hwr] at this; simp at this]
      exact I.tmps.old y t hy fun j hj => by rw [hwr] at hj; simp at hj
    | some j =>
      obtain ⟨_, o, ho, hod⟩ := writer_some hwr
      rw [Nat.sub_zero] at ho
      obtain ⟨ro, h1, h2, _⟩ := C.comp j o ho
      have hjl := (List.getElem?_eq_some_iff.1 ho).1
      have hjL : j < L.length := by rw [C.llen]; exact hjl
      have hLj : L[j]? = some L[j] := List.getElem?_eq_getElem hjL
      rw [putAll_get h1 (by rw [h2.rdst, hod]; exact hidx) hLj hyl fun j' ro' hj' hd' => by have := huniq j' ro' hj' hd'; rw [hwr] at this; cases this; rfl]
      exact I.tmps.done t j _ hwr (hS j hjl) hLj
  · rintro c hcl ⟨b, k, lo, g1, ha, hm, rfl⟩
    exact I.hits _ hcl ⟨b, k, lo, g1, (I.kd C (by omega) (by omega)).act (C.kids (Nat.le_refl _)) ha, hm, rfl⟩

/-! ### The two ways through a region -/

theorem range_drop (n i : Nat) (hi : i < n) : (List.range n).drop i = i :: (List.range n).drop (i + 1) := by
  rw [List.drop_eq_getElem_cons (by simpa using hi)]; simp

theorem setS_lt (i : Nat) : setS (fun j => decide (j < i)) i = fun j => decide (j < i + 1) := by
  funext j
  simp only [setS]
  rw [Bool.eq_iff_iff]
  simp only [Bool.or_eq_true, beq_iff_eq, decide_eq_true_eq]
  omega

theorem run_fixed (C : Ctx P vars nt false all l call fl E L Hs n0) {Q : Exit → Act → World → Prop} {ds : List Deferred} (hQ : ∀ p d m a w, a.defers = ds → Inv vars nt false all l fl E L Hs n0 base m0 w0 (fun j => decide (j < all.length)) p d m a w → Q .normal a w) :
    ∀ (k i : Nat), i + k = all.length → ∀ p d m a w, a.defers = ds → Inv vars nt false all l fl E L Hs n0 base m0 w0 (fun j => decide (j < i)) p d m a w → wpOps P all.toArray Q ((List.range all.length).drop i) a w
  | 0, i, hi, p, d, m, a, w, hd, I => by
    have : i = all.length := by omega
    subst this
    rw [List.drop_eq_nil_of_le (by simp), wpOps]
    exact hQ p d m a w hd I
  | k + 1, i, hi, p, d, m, a, w, hd, I => by
    rw [range_drop _ _ (by omega), wpOps_cons]
    refine I.step C (by omega) ⟨by simp, fun k' hk => by simpa [preB] using hk⟩ fun p' d' m' a' w' hd' I' => ?_
    rw [setS_lt] at I'
    exact run_fixed C hQ k (i + 1) (by omega) p' d' m' a' w' (hd'.trans hd) I'

def unlisted (listed : Array Bool) : Nat := listed.toList.countP (! ·)

theorem unlisted_set {listed : Array Bool} {i : Nat} (hi : i < listed.size) (h : listed.getD i true = false) : unlisted (listed.setIfInBounds i true) + 1 = unlisted listed := by
  unfold unlisted
  rw [Array.toList_setIfInBounds]
  have hl : i < listed.toList.length := by simpa using hi
  have hf : listed.toList[i] = false := by
    rw [Array.getD_eq_getD_getElem?, Array.getElem?_eq_getElem hi] at h
    simpa using h
  have h1 : listed.toList = listed.toList.take i ++ false :: listed.toList.drop (i + 1) := by
    conv => lhs; rw [← List.take_append_drop i listed.toList, List.drop_eq_getElem_cons hl, hf]
  have h2 : listed.toList.set i true = listed.toList.take i ++ true :: listed.toList.drop (i + 1) := by
    rw [List.set_eq_take_append_cons_drop, if_pos hl]
  rw [h2]
  conv => rhs; rw [h1]
  simp only [List.countP_append, List.countP_cons, Bool.not_true, Bool.not_false]
  simp
  omega

theorem run_drawn (C : Ctx P vars nt true all l call fl E L Hs n0) (hedge : edgesB all 0 = true) {Q : Exit → Act → World → Prop} {ds : List Deferred} (hQ : ∀ S p d m a w, (∀ j, j < all.length → S j = true) → a.defers = ds → Inv vars nt true all l fl E L Hs n0 base m0 w0 S p d m a w → Q .normal a w) :
    ∀ (fuel : Nat) (listed : Array Bool), listed.size = all.length → unlisted listed ≤ fuel → ∀ p d m a w, a.defers = ds → Inv vars nt true all l fl E L Hs n0 base m0 w0 (fun j => listed.getD j false) p d m a w → wpAny P .any all.toArray Q fuel listed a w := by
  -- nothing ready: all done
  have hdone : ∀ (listed : Array Bool), listed.size = all.length → Region.ready .any all.toArray listed = [] → ∀ j, j < all.length → listed.getD j false = true := by
    intro listed hsz hr j
    induction j using Nat.strongRecOn with
    | _ j ih =>
      intro hj
      cases hl : listed.getD j false with
      | true => rfl
      | false =>
        exfalso
        have hmem : j ∈ Region.ready .any all.toArray listed := by
          rw [mem_ready]
          refine ⟨?_, all[j], by simp [hj], fun e he hb => ?_⟩
          · rw [Array.getD_eq_getD_getElem?, Array.getElem?_eq_getElem (by omega)] at hl ⊢
            simpa using hl
          · have := edges_get (i0 := 0) hedge j all[j] (List.getElem?_eq_getElem hj) e he hb
            exact ih e.on (by omega) (by omega)
        rw [hr] at hmem; simp at hmem
  intro fuel
  induction fuel with
  | zero =>
    intro listed hsz hu p d m a w hd I
    have hr : Region.ready .any all.toArray listed = [] := by
      cases hrr : Region.ready .any all.toArray listed with
      | nil => rfl
      | cons x xs =>
        exfalso
        have hm : x ∈ Region.ready .any all.toArray listed := by rw [hrr]; simp
        obtain ⟨h1, o, ho, _⟩ := mem_ready.1 hm
        have hx : x < listed.size := by rw [hsz]; exact (List.getElem?_eq_some_iff.1 (by simpa using ho)).1
        have := unlisted_set hx h1
        omega
    exact ⟨hr, hQ _ p d m a w (hdone listed hsz hr) hd I⟩
  | succ fuel ih =>
    intro listed hsz hu p d m a w hd I
    refine ⟨fun hr => hQ _ p d m a w (hdone listed hsz hr) hd I, fun i hi => ?_⟩
    obtain ⟨h1, o, ho, hall⟩ := mem_ready.1 hi
    have ho' : all[i]? = some o := by simpa using ho
    have hil := (List.getElem?_eq_some_iff.1 ho').1
    have hun : listed.getD i false = false := by
      rw [Array.getD_eq_getD_getElem?, Array.getElem?_eq_getElem (by omega)] at h1 ⊢
      simpa using h1
    refine I.step C hil ⟨hun, fun k hk => ?_⟩ fun p' d' m' a' w' hd' I' => ?_
    · obtain ⟨e, he, hb, h⟩ := pre_bits ho' hk
      have hS := hall e he hb
      rcases h with rfl | h
      · exact hS
      · exact I.closed e.on k hS h
    · have hset : setS (fun j => listed.getD j false) i = fun j => (listed.setIfInBounds i true).getD j false := by
        funext j
        simp only [setS]
        by_cases e : j = i
        · subst e
          rw [Array.getD_eq_getD_getElem?, Array.getD_eq_getD_getElem?, Array.getElem?_setIfInBounds_self_of_lt (by omega)]
          simp
        · have hne : (j == i) = false := by simpa using e
          rw [hne, Bool.false_or, Array.getD_eq_getD_getElem?, Array.getD_eq_getD_getElem?, Array.getElem?_setIfInBounds_ne (by omega)]
      rw [hset] at I'
      have := unlisted_set (listed := listed) (i := i) (by omega) h1
      exact ih _ (by simpa using hsz) (by omega) p' d' m' a' w' (hd'.trans hd) I'

end

/-- A REGION RUNS AS THE ABSTRACT MACHINE SAYS, in whatever order is drawn. -/
theorem region_sound {P : Program} (hmix : P.follows .mixedOrders = true) {vars : List Nat} {nt id : Nat} {draw : Bool} {ops : Array Oper} {l : List ROper} {call : Nat → Nat → List AV → Heap → Option (AV × Heap)} (hfacts : CallFacts call) (hsound : CallSound P call)
    (hnodup : nodupB vars = true) (hcomp : compileRegion P vars nt draw ops.toList = .ops l) {fl : Nat} {E L : List AV} {H H' : Heap} (hrun : rops call fl E l [] H = some (L, H')) {n0 base : Nat} {m : BMap} {w : World} {a : Act} (hfl : n0 ≤ fl)
    (hs : Sim n0 base m H w) (hE : EnvOk vars nt E m a) (hfresh : ∀ b, H.length ≤ b → b < H'.length → m b = none) :
    (Code.region id ops draw).wp P (fun e a' w' => e = .normal ∧ a'.defers = a.defers ∧ ∃ m', EnvOk vars nt (putAll l L E) m' a' ∧ Step n0 base fl m H w m' H' w') a w := by
  unfold compileRegion at hcomp
  split at hcomp
  · rename_i l' hops
    split at hcomp
    · rename_i hedge
      cases hcomp
      obtain ⟨hl, hget⟩ := compileOpers_get hops
      obtain ⟨hlen, _, Hs, g0, g1, hst⟩ := rops_trace hrun
      simp only [List.length_nil, Nat.zero_add] at hlen
      have C : Ctx P vars nt draw ops.toList l call fl E L Hs n0 := by
        refine ⟨hfl, by rw [hlen, hl], fun i o ho => ?_, hfacts, hsound, hnodup, by rw [g0]; exact hs.kids, by rw [g0]; exact hs.low⟩
        obtain ⟨ro, h1, h2⟩ := hget i o ho
        rw [Nat.zero_add] at h2
        have hst := hst i ro h1
        simp only [StepOff, List.length_nil, Nat.zero_add] at hst
        refine ⟨ro, h1, ?_, hst⟩
        rcases compileOper_cases h2 with ⟨f1, f2⟩ | h
        · exfalso
          rcases hst with ⟨_, v, _, h⟩ | ⟨h, _⟩
          · rw [f1] at h; simp [rop] at h
          · rw [f2] at h; simp [wantedB] at h
        · exact h
      rw [hl] at g1
      have fin : ∀ S p d m' a' w0 w', w0.heap = w.heap → w0.os = w.os → w0.tape = w.tape → w0.output = w.output → (∀ j, j < ops.toList.length → S j = true) → Inv vars nt draw ops.toList l fl E L Hs n0 base m w0 S p d m' a' w' →
          ∃ m', EnvOk vars nt (putAll l L E) m' a' ∧ Step n0 base fl m H w m' H' w' := fun S p d m' a' w0 w' e1 e2 e3 e4 hS I => by
        obtain ⟨h1, h2⟩ := I.done C hl hE.len hS
        rw [g0, g1] at h2
        exact ⟨m', h1, ⟨h2.ext, h2.new, h2.sim, h2.os.trans e2, h2.tape.trans e3, h2.output.trans e4, by rw [← e1]; exact h2.size, h2.len, by rw [← e1]; exact h2.frame, by rw [← e1]; exact h2.hits⟩⟩
      cases draw with
      | false =>
        refine wp_region ?_
        obtain ⟨p, d, I⟩ := Inv.init (a := a) (w0 := w) (base := base) (m0 := m) C (by rw [g0]; exact hs) (by rw [g0, g1]; exact hfresh) hE
        have := run_fixed (P := P) (Q := fun e a' w' => e = .normal ∧ a'.defers = a.defers ∧ ∃ m', EnvOk vars nt (putAll l L E) m' a' ∧ Step n0 base fl m H w m' H' w') C (ds := a.defers) (fun p d m' a' w' hd I => ⟨rfl, hd, fin _ p d m' a' w w' rfl rfl rfl rfl (fun j hj => by simpa using hj) I⟩) ops.toList.length 0 (by omega) p d m a w rfl (by simpa using I)
        simpa using this
      | true =>
        refine wp_region_any hmix ?_
        have hs' : Sim n0 base m H { w with drawn := w.drawn + 1 } := sim_world hs (Nat.le_refl _) (fun _ _ => rfl)
        obtain ⟨p, d, I⟩ := Inv.init (a := a) (w0 := { w with drawn := w.drawn + 1 }) (base := base) (m0 := m) C (by rw [g0]; exact hs') (by rw [g0, g1]; exact hfresh) hE
        have := run_drawn (P := P) (w0 := { w with drawn := w.drawn + 1 }) (Q := fun e a' w' => e = .normal ∧ a'.defers = a.defers ∧ ∃ m', EnvOk vars nt (putAll l L E) m' a' ∧ Step n0 base fl m H w m' H' w') C (by simpa using hedge) (ds := a.defers)
          (fun S p d m' a' w' hS hd I => ⟨rfl, hd, fin S p d m' a' { w with drawn := w.drawn + 1 } w' rfl rfl rfl rfl hS I⟩) ops.size (Array.replicate ops.size false) (by simp) (by
            have := List.countP_le_length (p := fun b => !b) (l := (Array.replicate ops.size false).toList)
            rw [Array.length_toList, Array.size_replicate] at this
            exact this) p d m a _ rfl
          (by
            have hf : (fun j => (Array.replicate ops.size false).getD j false) = fun _ => false := by
              funext j; simp only [Array.getD_eq_getD_getElem?, Array.getElem?_replicate]; split <;> rfl
            rw [hf]; exact I)
        simpa using this
    · simp at hcomp
  · simp at hcomp

end Go.RM
