/-
  The pass keeps what the code computes: operations, lists, code, calls.
-/
import Derived.Test.YtmiinaimpdbenaaRmOpt2
namespace Go.RM
set_option linter.unusedSimpArgs false
set_option linter.unusedVariables false

section
variable {bv : List Nat} {fl : Nat} {HB0 HA0 : Heap} {EA0 EB0 LA LB EA : List AV} {HA : Heap} {EB : List AV} {HB : Heap} {ks : List LK} {c : Curs}
variable {callB callA : Nat → Nat → List AV → Heap → Option (AV × Heap)}

def StepGoal (bv : List Nat) (fl : Nat) (HB0 HA0 : Heap) (EA0 EB0 LA LB EA : List AV) (HA : Heap) (EB : List AV) (HB : Heap) (ks : List LK) (callB callA : Nat → Nat → List AV → Heap → Option (AV × Heap)) (o o' : ROper) (k : LK) (c' : Curs) : Prop :=
  (wantedB o'.guard LB = true → ∀ v HB', rop callB fl o'.free (RX.ev LB EB0) HB o'.op = some (v, HB') → wantedB o.guard LA = true ∧ ∃ vA HA', rop callA fl o.free (RX.ev LA EA0) HA o.op = some (vA, HA') ∧
    IL bv fl HB0 HA0 EA0 EB0 (LA ++ [vA]) (LB ++ [v]) (putDst o.dst vA EA) HA' (putDst o'.dst v EB) HB' (ks ++ [k]) c') ∧
  (wantedB o'.guard LB = false → wantedB o.guard LA = false ∧ IL bv fl HB0 HA0 EA0 EB0 (LA ++ [.undef]) (LB ++ [.undef]) (putDst o.dst .undef EA) HA (putDst o'.dst .undef EB) HB (ks ++ [k]) c')

theorem plain_step (hcall : CallLe callB callA) (I : IL bv fl HB0 HA0 EA0 EB0 LA LB EA HA EB HB ks c) {o o' : ROper} {k : LK} {c' : Curs} (h : optPlain bv ks c o = some (o', k, c')) :
    StepGoal bv fl HB0 HA0 EA0 EB0 LA LB EA HA EB HB ks callB callA o o' k c' := by
  unfold optPlain at h
  split at h
  · rename_i hc
    simp only [Option.some.injEq, Prod.mk.injEq] at h
    obtain ⟨rfl, rfl, rfl⟩ := h
    simp only [Bool.and_eq_true, List.all_eq_true] at hc
    obtain ⟨⟨h1, h2⟩, h3⟩ := hc
    refine ⟨fun hw v HB' hr => ⟨by rw [I.wanted h3]; exact hw, ?_⟩, fun hw => ⟨by rw [I.wanted h3]; exact hw, ?_⟩⟩
    · obtain ⟨HA', r1, r2⟩ := rop_mono hcall (Nat.le_trans I.rel.fl0 I.rel.hl) I.rel.le hr
      refine ⟨v, HA', ?_, I.next r2 h2 (fun _ => rfl) (fun _ => rfl) (fun _ _ _ h => by simp at h)⟩
      rw [rop_congr fun rx hrx => I.plainX (h1 rx hrx)]; exact r1
    · exact I.next (Mono.refl I.rel.le) h2 (fun _ => rfl) (fun _ => rfl) (fun _ _ _ h => by simp at h)
  · simp at h

theorem make_step (hcall : CallLe callB callA) (I : IL bv fl HB0 HA0 EA0 EB0 LA LB EA HA EB HB ks c) {o o' : ROper} {k : LK} {c' : Curs} {e : Nat} {v : RX} (h : optMake bv ks c ks.length o e v = some (o', k, c'))
    (ho : ∀ (free : Bool) (L E : List AV), rop callA fl free (RX.ev L E) HA o.op = some (.ptr HA.length 0, HA ++ [{ cells := (RX.ev L E v).cells, e }])) :
    StepGoal bv fl HB0 HA0 EA0 EB0 LA LB EA HA EB HB ks callB callA o o' k c' := by
  unfold optMake at h
  split at h
  · rename_i x hd
    split at h
    · rename_i hx
      split at h
      · rename_i hc
        simp only [Option.some.injEq, Prod.mk.injEq] at h
        obtain ⟨rfl, rfl, rfl⟩ := h
        simp only [Bool.and_eq_true, Option.isNone_iff_eq_none, Bool.not_eq_true'] at hc
        obtain ⟨⟨⟨h1, h2⟩, h3⟩, h4⟩ := hc
        refine ⟨fun hw v' HB' hr => ⟨by rw [h1]; rfl, ?_⟩, fun hw => by simp [wantedB] at hw⟩
        simp only [rop, Option.some.injEq, Prod.mk.injEq] at hr
        obtain ⟨rfl, rfl⟩ := hr
        refine ⟨_, _, ho _ _ _, ?_⟩
        rw [hd, I.plainX h2]
        exact I.make (memN_iff.1 hx) h3 h4
      · simp at h
    · exact plain_step hcall I h
  · exact plain_step hcall I h

theorem opt_step (hcall : CallLe callB callA) (I : IL bv fl HB0 HA0 EA0 EB0 LA LB EA HA EB HB ks c) {o o' : ROper} {k : LK} {c' : Curs} (h : optOper bv ks c ks.length o = some (o', k, c')) :
    StepGoal bv fl HB0 HA0 EA0 EB0 LA LB EA HA EB HB ks callB callA o o' k c' := by
  unfold optOper at h
  split at h
  · rename_i e z hop
    exact make_step hcall I h fun free L E => by rw [hop]; simp only [rop]; rfl
  · rename_i e v hop
    exact make_step hcall I h fun free L E => by rw [hop]; simp only [rop]
  · rename_i sz p hop
    split at h
    · rename_i x off g hb
      split at h
      · rename_i hc
        simp only [Option.some.injEq, Prod.mk.injEq] at h
        obtain ⟨rfl, rfl, rfl⟩ := h
        simp only [Bool.and_eq_true] at hc
        obtain ⟨⟨h1, h2⟩, h3⟩ := hc
        obtain ⟨hx, hptr⟩ := I.asBox hb
        refine ⟨fun hw v HB' hr => ?_, fun hw => ?_⟩
        · have hwA : wantedB o.guard LA = true := by rw [I.wanted h3]; exact hw
          refine ⟨hwA, ?_⟩
          simp only [rop] at hr
          split at hr
          · rename_i cs hcs
            simp only [Option.map_eq_some_iff, Prod.mk.injEq] at hr
            obtain ⟨v0, hv0, rfl, rfl⟩ := hr
            obtain ⟨b, kb, b1, b2, b3, b4, b5, rfl⟩ := I.value hx hcs
            have hp := hptr (same_wanted h1 hwA) b b1
            refine ⟨v0, HA, ?_, I.next (Mono.refl I.rel.le) h2 (fun _ => rfl) (fun _ => rfl) (fun _ _ _ h => by simp at h)⟩
            rw [hop]
            simp only [rop, hp]
            have hblk : HA.act b = some kb := act_of b4 (.inl b5)
            have : rload HA sz b off = some v0 := by
              unfold rload; rw [hblk]
              cases sz with
              | none => simpa [rpart] using hv0
              | some n => simpa [rpart] using hv0
            rw [this]; rfl
          · simp at hr
        · have hwA : wantedB o.guard LA = false := by rw [I.wanted h3]; exact hw
          exact ⟨hwA, I.next (Mono.refl I.rel.le) h2 (fun _ => rfl) (fun _ => rfl) (fun _ _ _ h => by simp at h)⟩
      · simp at h
    · exact plain_step hcall I h
  · rename_i off p hop
    split at h
    · rename_i x off' g hb
      split at h
      · rename_i hc
        simp only [Option.some.injEq, Prod.mk.injEq] at h
        obtain ⟨rfl, rfl, rfl⟩ := h
        simp only [Bool.and_eq_true, Option.isNone_iff_eq_none] at hc
        obtain ⟨⟨h1, h2⟩, h3⟩ := hc
        obtain ⟨hx, hptr⟩ := I.asBox hb
        have hd : dstPlain bv o.dst = true := by rw [h2]; rfl
        refine ⟨fun hw v HB' hr => ?_, fun hw => ?_⟩
        · have hwA : wantedB o.guard LA = true := by rw [I.wanted h3]; exact hw
          refine ⟨hwA, ?_⟩
          simp only [rop] at hr
          split at hr
          · rename_i cs hcs
            simp only [Option.map_eq_some_iff, Prod.mk.injEq] at hr
            obtain ⟨v0, hv0, rfl, rfl⟩ := hr
            obtain ⟨b, kb, b1, b2, b3, b4, b5, rfl⟩ := I.value hx hcs
            have hp := hptr (same_wanted h1 hwA) b b1
            refine ⟨.ptr b (off' + off), HA, by rw [hop]; simp only [rop, hp], I.next (Mono.refl I.rel.le) hd (fun h => absurd h2 h) (fun h => by simp at h) (fun x' o' g' h => ?_)⟩
            simp only [LK.addr.injEq] at h
            obtain ⟨rfl, rfl, rfl⟩ := h
            exact ⟨hx, h3, fun _ => ⟨b, b1, rfl⟩⟩
          · simp at hr
        · have hwA : wantedB o.guard LA = false := by rw [I.wanted h3]; exact hw
          refine ⟨hwA, I.next (Mono.refl I.rel.le) hd (fun h => absurd h2 h) (fun h => by simp at h) (fun x' o' g' h => ?_)⟩
          simp only [LK.addr.injEq] at h
          obtain ⟨rfl, rfl, rfl⟩ := h
          exact ⟨hx, h3, fun hw' => by rw [hwA] at hw'; simp at hw'⟩
      · simp at h
    · exact plain_step hcall I h
  · rename_i n p v ap hop
    split at h
    · rename_i x off g hb
      split at h
      · rename_i hc
        simp only [Option.some.injEq, Prod.mk.injEq] at h
        obtain ⟨rfl, rfl, rfl⟩ := h
        simp only [Bool.and_eq_true, Option.isNone_iff_eq_none, List.isEmpty_iff] at hc
        obtain ⟨⟨⟨⟨h1, h2⟩, h3⟩, h4⟩, h5⟩ := hc
        obtain ⟨hx, hptr⟩ := I.asBox hb
        refine ⟨fun hw v' HB' hr => ⟨by rw [h2]; rfl, ?_⟩, fun hw => by simp [wantedB] at hw⟩
        simp only [rop] at hr
        split at hr
        · rename_i cs hcs
          split at hr
          · rename_i hcond
            simp only [Option.some.injEq, Prod.mk.injEq] at hr
            obtain ⟨rfl, rfl⟩ := hr
            obtain ⟨b, kb, b1, b2, b3, b4, b5, rfl⟩ := I.value hx hcs
            have hp := hptr (by rw [h1]; rfl) b b1
            have hblk : HA.blk b = some kb := by unfold Heap.blk; rw [b4]; simp [b5]
            have hfl : fl ≤ b := Nat.le_trans I.rel.fl0 b3
            rw [← I.plainX h5] at hcond ⊢
            refine ⟨.undef, HA.set b { kb with cells := splice kb.cells off (RX.ev LA EA0 v).cells, clean := false }, ?_, ?_⟩
            · rw [hop, h4]
              simp only [rop, hp, List.map_nil, apartB]
              rw [if_pos ⟨hcond.1, trivial⟩]
              unfold rput
              rw [hblk]
              simp only
              rw [if_pos ⟨hfl, hcond.2.1, hcond.2.2⟩]
              rfl
            · rw [h3]
              exact I.store hx b1 b2 b3 b4 b5
          · simp at hr
        · simp at hr
      · simp at h
    · exact plain_step hcall I h
  · exact plain_step hcall I h

end

theorem putAll_snoc : ∀ {l : List ROper} {L : List AV} {E : List AV} {o : ROper} {v : AV}, l.length = L.length → putAll (l ++ [o]) (L ++ [v]) E = putDst o.dst v (putAll l L E)
  | [], [], E, o, v, _ => rfl
  | o' :: l, v' :: L, E, o, v, h => by
    simp only [List.cons_append, putAll]
    exact putAll_snoc (by simpa using h)
  | [], _ :: _, _, _, _, h => by simp at h
  | _ :: _, [], _, _, _, h => by simp at h

section
variable {bv : List Nat} {fl : Nat} {HB0 HA0 : Heap} {callB callA : Nat → Nat → List AV → Heap → Option (AV × Heap)}

theorem opt_rops (hcall : CallLe callB callA) {EA0 EB0 : List AV} : ∀ {l l' : List ROper} {ks : List LK} {c : Curs} {LA LB EA EB LB' : List AV} {HA HB HB' : Heap}, optOps bv l ks c = some l' → IL bv fl HB0 HA0 EA0 EB0 LA LB EA HA EB HB ks c →
    rops callB fl EB0 l' LB HB = some (LB', HB') → ∃ LA' HA', rops callA fl EA0 l LA HA = some (LA', HA') ∧ Rel bv fl HB0 HA0 (putAll l (LA'.drop LA.length) EA) HA' (putAll l' (LB'.drop LB.length) EB) HB' ∧ LA.length ≤ LA'.length ∧ LA'.take LA.length = LA ∧ LB'.take LB.length = LB
  | [], l', ks, c, LA, LB, EA, EB, LB', HA, HB, HB', ho, I, hr => by
    simp only [optOps, Option.some.injEq] at ho; subst ho
    simp only [rops, Option.some.injEq, Prod.mk.injEq] at hr
    obtain ⟨rfl, rfl⟩ := hr
    exact ⟨LA, HA, rfl, by simpa [putAll] using I.rel, Nat.le_refl _, by simp, by simp⟩
  | o :: l, l', ks, c, LA, LB, EA, EB, LB', HA, HB, HB', ho, I, hr => by
    simp only [optOps] at ho
    split at ho
    · rename_i o' k c' h1
      simp only [Option.map_eq_some_iff] at ho
      obtain ⟨l1, h2, rfl⟩ := ho
      obtain ⟨s1, s2⟩ := opt_step hcall I h1
      have key : ∀ (vA v : AV) (HA1 HB1 : Heap), IL bv fl HB0 HA0 EA0 EB0 (LA ++ [vA]) (LB ++ [v]) (putDst o.dst vA EA) HA1 (putDst o'.dst v EB) HB1 (ks ++ [k]) c' → rops callB fl EB0 l1 (LB ++ [v]) HB1 = some (LB', HB') →
          ∃ LA' HA', rops callA fl EA0 l (LA ++ [vA]) HA1 = some (LA', HA') ∧ Rel bv fl HB0 HA0 (putAll (o :: l) (LA'.drop LA.length) EA) HA' (putAll (o' :: l1) (LB'.drop LB.length) EB) HB' ∧ LA.length ≤ LA'.length ∧ LA'.take LA.length = LA ∧ LB'.take LB.length = LB := fun vA v HA1 HB1 I1 hr1 => by
        obtain ⟨LA', HA', r1, r2, r3, r4, r5⟩ := opt_rops hcall h2 I1 hr1
        have hd : ∀ {L L' : List AV} {u : AV}, L'.take (L ++ [u]).length = L ++ [u] → L'.drop L.length = u :: L'.drop (L ++ [u]).length ∧ L'.take L.length = L := fun {L L' u} ht => by
          constructor
          · conv => lhs; rw [← List.take_append_drop (L ++ [u]).length L', ht]
            rw [List.append_assoc, List.drop_append_of_le_length (Nat.le_refl _)]
            simp
          · have := congrArg (List.take L.length) ht
            rw [List.take_take] at this
            simpa using this
        obtain ⟨a1, a2⟩ := hd r4
        obtain ⟨b1, b2⟩ := hd r5
        refine ⟨LA', HA', r1, ?_, by simp at r3; omega, a2, b2⟩
        rw [a1, b1]
        exact r2
      simp only [rops] at hr
      split at hr
      · rename_i hw
        split at hr
        · rename_i v HB1 hv
          obtain ⟨w1, vA, HA1, w2, w3⟩ := s1 hw v HB1 hv
          obtain ⟨LA', HA', r1, r2⟩ := key vA v HA1 HB1 w3 hr
          refine ⟨LA', HA', ?_, r2⟩
          simp only [rops]
          rw [if_pos w1, w2]
          exact r1
        · simp at hr
      · rename_i hw
        obtain ⟨w1, w3⟩ := s2 (by simpa using hw)
        obtain ⟨LA', HA', r1, r2⟩ := key .undef .undef HA HB w3 hr
        refine ⟨LA', HA', ?_, r2⟩
        simp only [rops]
        rw [if_neg (by rw [w1]; simp)]
        exact r1
    · simp at ho

def ExecLe (TB TA : Nat → Option RFunc) (n : Nat) : Prop := ∀ (bv : List Nat) (fl : Nat) (c c' : RCode) (HB0 HA0 : Heap) (EA : List AV) (HA : Heap) (EB : List AV) (HB : Heap) (o : Out) (EB' : List AV) (HB' : Heap), optCode bv c = some c' → Rel bv fl HB0 HA0 EA HA EB HB →
  rexec TB n fl c' EB HB = some (o, EB', HB') → ∃ EA' HA', rexec TA n fl c EA HA = some (o, EA', HA') ∧ Rel bv fl HB0 HA0 EA' HA' EB' HB'

theorem Rel.start {EA EB : List AV} {HA HB : Heap} (R : Rel bv fl HB0 HA0 EA HA EB HB) : IL bv fl HB0 HA0 EA EB [] [] EA HA EB HB [] [] :=
  ⟨R, rfl, rfl, fun j h => by simp at h, R.eq, fun x _ => rfl, fun x i h => by simp [Curs.get] at h, fun _ _ _ => rfl, fun j x off g h => by simp at h⟩

theorem Rel.cond {EA EB : List AV} {HA HB : Heap} (R : Rel bv fl HB0 HA0 EA HA EB HB) {x : RX} (h : plainRX bv [] x = true) : x.ev [] EA = x.ev [] EB := by
  cases x with
  | var y => exact R.eq y (not_mem_of h)
  | loc j => rfl
  | k v => rfl

theorem exec_step {TB TA : Nat → Option RFunc} {n : Nat} (hcall : CallLe (rcall TB n) (rcall TA n)) (ih : ExecLe TB TA n) : ExecLe TB TA (n + 1) := by
  intro bv fl c c' HB0 HA0 EA HA EB HB o EB' HB' hc R h
  cases c <;> simp only [optCode] at hc
  case ops l =>
    simp only [Option.map_eq_some_iff] at hc
    obtain ⟨l', h1, rfl⟩ := hc
    simp only [rexec, Option.map_eq_some_iff, Prod.mk.injEq] at h ⊢
    obtain ⟨⟨LB', H1⟩, hr, rfl, rfl, rfl⟩ := h
    obtain ⟨LA', HA', r1, r2, _⟩ := opt_rops hcall h1 R.start hr
    exact ⟨putAll l LA' EA, HA', ⟨(LA', HA'), r1, rfl, rfl, rfl⟩, by simpa using r2⟩
  case seq a b =>
    split at hc
    · rename_i a' b' ha hb
      simp only [Option.some.injEq] at hc; subst hc
      simp only [rexec] at h ⊢
      split at h
      · rename_i E1 H1 h1
        obtain ⟨EA1, HA1, r1, r2⟩ := ih bv fl a a' HB0 HA0 EA HA EB HB _ _ _ ha R h1
        rw [r1]
        exact ih bv fl b b' HB0 HA0 EA1 HA1 E1 H1 o EB' HB' hb r2 h
      · rename_i hne
        obtain ⟨EA1, HA1, r1, r2⟩ := ih bv fl a a' HB0 HA0 EA HA EB HB o EB' HB' ha R h
        rw [r1]
        cases o with
        | normal => exact absurd h (by intro h; exact hne _ _ h)
        | exit id => exact ⟨EA1, HA1, rfl, r2⟩
        | ret => exact ⟨EA1, HA1, rfl, r2⟩
    · simp at hc
  case cond x a b =>
    split at hc
    · rename_i hx
      split at hc
      · rename_i a' b' ha hb
        simp only [Option.some.injEq] at hc; subst hc
        simp only [rexec] at h ⊢
        rw [R.cond hx]
        split at h
        · rename_i hv; exact ih bv fl a a' HB0 HA0 EA HA EB HB o EB' HB' ha R h
        · rename_i hv; exact ih bv fl b b' HB0 HA0 EA HA EB HB o EB' HB' hb R h
        · simp at h
      · simp at hc
    · simp at hc
  case block id a =>
    simp only [Option.map_eq_some_iff] at hc
    obtain ⟨a', ha, rfl⟩ := hc
    simp only [rexec] at h ⊢
    split at h
    · rename_i id' E1 H1 h1
      obtain ⟨EA1, HA1, r1, r2⟩ := ih bv fl a a' HB0 HA0 EA HA EB HB _ _ _ ha R h1
      rw [r1]
      simp only
      split at h
      · rename_i he
        simp only [Option.some.injEq, Prod.mk.injEq] at h
        obtain ⟨rfl, rfl, rfl⟩ := h
        rw [if_pos he]; exact ⟨EA1, HA1, rfl, r2⟩
      · rename_i he
        simp only [Option.some.injEq, Prod.mk.injEq] at h
        obtain ⟨rfl, rfl, rfl⟩ := h
        rw [if_neg he]; exact ⟨EA1, HA1, rfl, r2⟩
    · rename_i hne
      obtain ⟨EA1, HA1, r1, r2⟩ := ih bv fl a a' HB0 HA0 EA HA EB HB o EB' HB' ha R h
      rw [r1]
      cases o with
      | exit id' => exact absurd h (by intro h; exact hne _ _ _ h)
      | normal => exact ⟨EA1, HA1, rfl, r2⟩
      | ret => exact ⟨EA1, HA1, rfl, r2⟩
  case loop a =>
    simp only [Option.map_eq_some_iff] at hc
    obtain ⟨a', ha, rfl⟩ := hc
    simp only [rexec] at h ⊢
    split at h
    · rename_i E1 H1 h1
      obtain ⟨EA1, HA1, r1, r2⟩ := ih bv fl a a' HB0 HA0 EA HA EB HB _ _ _ ha R h1
      rw [r1]
      exact ih bv fl (.loop a) (.loop a') HB0 HA0 EA1 HA1 E1 H1 o EB' HB' (by simp [optCode, ha]) r2 h
    · rename_i hne
      obtain ⟨EA1, HA1, r1, r2⟩ := ih bv fl a a' HB0 HA0 EA HA EB HB o EB' HB' ha R h
      rw [r1]
      cases o with
      | normal => exact absurd h (by intro h; exact hne _ _ h)
      | exit id => exact ⟨EA1, HA1, rfl, r2⟩
      | ret => exact ⟨EA1, HA1, rfl, r2⟩
  all_goals
    simp only [Option.some.injEq] at hc; subst hc
    simp only [rexec, reduceCtorEq, Option.some.injEq, Prod.mk.injEq] at h ⊢
  all_goals
    obtain ⟨rfl, rfl, rfl⟩ := h
    exact ⟨EA, HA, ⟨rfl, rfl, rfl⟩, R⟩

theorem optRes_run {EA EB : List AV} {HA HB : Heap} (R : Rel bv fl HB0 HA0 EA HA EB HB) {r r' : RRes} {v : AV} (hr : optRes bv r = some r') (h : resOf EB HB r' = some v) : resOf EA HA r = some v := by
  cases r with
  | var x =>
    simp only [optRes] at hr
    split at hr
    · simp at hr
    · rename_i hx
      simp only [Option.some.injEq] at hr; subst hr
      simp only [resOf] at h ⊢
      rw [R.eq x (fun hm => hx (memN_iff.2 hm))]; exact h
  | cell x sz =>
    simp only [optRes] at hr
    split at hr
    · rename_i hx
      simp only [Option.some.injEq] at hr; subst hr
      simp only [resOf] at h ⊢
      split at h
      · rename_i cs hcs
        rcases R.box x (memN_iff.1 hx) with ⟨_, h'⟩ | ⟨b, k, h1, h2, h3, h4, h5, h6⟩
        · rw [hcs] at h'; simp [AV.undef] at h'
        · rw [hcs] at h6; cases h6
          rw [h1]
          have hblk : HA.act b = some k := act_of h4 (.inl h5)
          simp only [rload, hblk]
          cases sz with
          | none => simpa [rpart] using h
          | some n => simpa [rpart] using h
      · simp at h
    · rename_i hx
      simp only [Option.some.injEq] at hr; subst hr
      simp only [resOf] at h ⊢
      rw [R.eq x (fun hm => hx (memN_iff.2 hm))]
      split at h
      · rename_i b off hb
        unfold rload at h ⊢
        split at h
        · rename_i k hk; rw [R.le.act hk]; exact h
        · simp at h
      · simp at h
  | part x sz =>
    simp only [optRes] at hr
    split at hr
    · simp at hr
    · rename_i hx
      simp only [Option.some.injEq] at hr; subst hr
      simp only [resOf] at h ⊢
      rw [R.eq x (fun hm => hx (memN_iff.2 hm))]; exact h

theorem optResL_run {EA EB : List AV} {HA HB : Heap} (R : Rel bv fl HB0 HA0 EA HA EB HB) : ∀ {l l' : List RRes} {vs : List AV}, optResL bv l = some l' → resAll EB HB l' = some vs → resAll EA HA l = some vs
  | [], l', vs, hr, h => by simp only [optResL, Option.some.injEq] at hr; subst hr; exact h
  | r :: l, l', vs, hr, h => by
    simp only [optResL] at hr
    split at hr
    · rename_i a b h1 h2
      simp only [Option.some.injEq] at hr; subst hr
      simp only [resAll] at h ⊢
      split at h
      · rename_i v hv
        rw [optRes_run R h1 hv]
        simp only [Option.map_eq_some_iff] at h ⊢
        obtain ⟨vs', g1, rfl⟩ := h
        exact ⟨vs', optResL_run R h2 g1, rfl⟩
      · simp at h
    · simp at hr

end

theorem optW_call {TB TA : Nat → Option RFunc} {n : Nat} (ih : ExecLe TB TA n) {bv : List Nat} {f g : RFunc} (ho : optFuncW bv f = some g) {fl : Nat} {args : List AV} {HB HA : Heap} {v : AV} {HB' : Heap} (hfl : fl ≤ HB.length) (hle : Le HB HA)
    (h : (if args.length = g.nargs then (match rexec TB n fl g.body (args ++ List.replicate (g.nvars - g.nargs) .undef) HB with
        | some (.normal, E, H') => (resAll E H' g.res).map fun vs => (resVal vs, H')
        | some (.ret, E, H') => (resAll E H' g.res).map fun vs => (resVal vs, H')
        | _ => none) else none) = some (v, HB')) :
    ∃ HA', (if args.length = f.nargs then (match rexec TA n fl f.body (args ++ List.replicate (f.nvars - f.nargs) .undef) HA with
        | some (.normal, E, H') => (resAll E H' f.res).map fun vs => (resVal vs, H')
        | some (.ret, E, H') => (resAll E H' f.res).map fun vs => (resVal vs, H')
        | _ => none) else none) = some (v, HA') ∧ Mono HB HA HB' HA' := by
  unfold optFuncW at ho
  split at ho
  · rename_i hbv
    simp only [Bool.and_eq_true, List.all_eq_true, decide_eq_true_eq] at hbv
    obtain ⟨hbv, hnv⟩ := hbv
    split at ho
    · rename_i r c hr hc
      simp only [Option.some.injEq] at ho; subst ho
      simp only at h
      rw [Option.ite_none_right_eq_some] at h
      obtain ⟨hlen, h⟩ := h
      rw [if_pos hlen]
      have hund : ∀ x ∈ bv, (args ++ List.replicate (f.nvars - f.nargs) AV.undef).getD x .undef = .undef := fun x hx => by
        have := (hbv x hx).1
        rw [List.getD_eq_getElem?_getD, List.getElem?_append_right (by omega), List.getElem?_replicate]
        split <;> rfl
      have R : Rel bv fl HB HA (args ++ List.replicate (f.nvars - f.nargs) .undef) HA (args ++ List.replicate (f.nvars - f.nargs) .undef) HB :=
        ⟨rfl, fun x hx => by have := (hbv x hx).2; simp; omega, hfl, Nat.le_refl _, hle, fun b t => ⟨rfl, t⟩, fun _ _ => rfl, fun x hx => .inl ⟨hund x hx, hund x hx⟩, fun x hx x' hx' b h1 _ => by rw [hund x hx] at h1; simp [AV.undef] at h1⟩
      have fin : ∀ o E1 H1, rexec TB n fl c (args ++ List.replicate (f.nvars - f.nargs) .undef) HB = some (o, E1, H1) → (o = .normal ∨ o = .ret) → (resAll E1 H1 r).map (fun vs => (resVal vs, H1)) = some (v, HB') →
          ∃ HA', (match rexec TA n fl f.body (args ++ List.replicate (f.nvars - f.nargs) .undef) HA with
            | some (.normal, E, H') => (resAll E H' f.res).map fun vs => (resVal vs, H')
            | some (.ret, E, H') => (resAll E H' f.res).map fun vs => (resVal vs, H')
            | _ => none) = some (v, HA') ∧ Mono HB HA HB' HA' := fun o E1 H1 h1 ho h2 => by
        obtain ⟨EA1, HA1, r1, r2⟩ := ih bv fl f.body c HB HA _ HA _ HB o E1 H1 hc R h1
        rw [r1]
        simp only [Option.map_eq_some_iff, Prod.mk.injEq] at h2
        obtain ⟨vs, g1, rfl, rfl⟩ := h2
        have g2 := optResL_run r2 hr g1
        refine ⟨HA1, ?_, ⟨r2.le, r2.hl, r2.fr⟩⟩
        rcases ho with rfl | rfl <;> simp [g2]
      split at h
      · rename_i E1 H1 h1; exact fin _ E1 H1 h1 (.inl rfl) h
      · rename_i E1 H1 h1; exact fin _ E1 H1 h1 (.inr rfl) h
      · simp at h
    · simp at ho
  · simp at ho

theorem opt_all {TA : Nat → Option RFunc} : ∀ n, ExecLe (fun f => (TA f).bind optFunc) TA n ∧ CallLe (rcall (fun f => (TA f).bind optFunc) n) (rcall TA n)
  | 0 => ⟨fun bv fl c c' HB0 HA0 EA HA EB HB o EB' HB' _ _ h => by simp [rexec] at h, fun fl g args HB v HB' HA _ h => by simp [rcall] at h⟩
  | n + 1 => by
    obtain ⟨h1, h2⟩ := opt_all (TA := TA) n
    refine ⟨exec_step h2 h1, fun fl g args HB v HB' HA hfl h hle => ?_⟩
    simp only [rcall] at h ⊢
    cases hf : TA g with
    | none => simp [hf] at h
    | some f =>
      simp only [hf, Option.bind_some] at h
      have : ∃ bv g', optFuncW bv f = some g' ∧ optFunc f = some g' := by
        cases ho : optFunc f with
        | none => simp [ho] at h
        | some g' =>
          have ho' := ho
          unfold optFunc at ho'
          simp only at ho'
          split at ho'
          · rename_i g2 hg2; exact ⟨_, g', by rw [← ho']; exact hg2, rfl⟩
          · exact ⟨_, g', ho', rfl⟩
      obtain ⟨bv, g', hw, ho⟩ := this
      simp only [ho] at h
      exact optW_call h1 hw hfl hle h

/-- WHAT THE CHANGED CODE COMPUTES, THE CODE COMPUTES. -/
theorem opt_sound {P : Program} {n fl f : Nat} {args : List AV} {H : Heap} {v : AV} {H' : Heap} (hfl : fl ≤ H.length) (h : rcall (tableO P) n fl f args H = some (v, H')) : ∃ HA', rcall (table P) n fl f args H = some (v, HA') := by
  obtain ⟨HA', h1, _⟩ := (opt_all (TA := table P) n).2 fl f args H v H' H hfl h (Le.refl H)
  exact ⟨HA', h1⟩

end Go.RM
