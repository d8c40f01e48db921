/-
  What every run of the abstract machine keeps: blocks below the floor, sizes of elements, the numbers of replacements.
-/
import Derived.Test.YtmiinaimpdbenaaRmSound11
namespace Go.RM
set_option linter.unusedSimpArgs false

structure Facts (fl : Nat) (H H' : Heap) : Prop where
  len : H.length ≤ H'.length
  low : ∀ b, b < fl → b < H.length → H'[b]? = H[b]?
  kids : (∀ (b c : Nat) (k : Blk), H[b]? = some k → k.kid = some c → c < H.length) → ∀ (b c : Nat) (k : Blk), H'[b]? = some k → k.kid = some c → c < H'.length
  new : ∀ (b c : Nat) (k : Blk), H.length ≤ b → H'[b]? = some k → k.kid = some c → H.length ≤ c
  es : ∀ (b : Nat) (k k' : Blk), H[b]? = some k → H'[b]? = some k' → k'.e = k.e
  chg : ∀ (b : Nat) (k k' : Blk), H[b]? = some k → H'[b]? = some k' → k'.kid = k.kid ∨ k'.kid = none ∨ ∃ c, k'.kid = some c ∧ H.length ≤ c

theorem Facts.refl (fl : Nat) (H : Heap) : Facts fl H H :=
  ⟨Nat.le_refl _, fun _ _ _ => rfl, fun h => h, fun b c k hb h => by rw [List.getElem?_eq_none hb] at h; simp at h, fun b k k' h h' => by rw [h] at h'; cases h'; rfl, fun b k k' h h' => by rw [h] at h'; cases h'; exact .inl rfl⟩

theorem get_lt {H : Heap} {b : Nat} {k : Blk} (h : H[b]? = some k) : b < H.length := by
  rcases Nat.lt_or_ge b H.length with h1 | h1
  · exact h1
  · simp [List.getElem?_eq_none h1] at h

theorem Facts.trans {fl : Nat} {H1 H2 H3 : Heap} (a : Facts fl H1 H2) (b : Facts fl H2 H3) : Facts fl H1 H3 where
  len := Nat.le_trans a.len b.len
  low := fun x h1 h2 => by rw [b.low x h1 (Nat.lt_of_lt_of_le h2 a.len), a.low x h1 h2]
  kids := fun h => b.kids (a.kids h)
  new := fun x c k hx hk hc => by
    by_cases h : x < H2.length
    · rcases b.chg x H2[x] k (List.getElem?_eq_getElem h) hk with h1 | h1 | ⟨c', h1, h2⟩
      · rw [hc] at h1; exact a.new x c _ hx (List.getElem?_eq_getElem h) h1.symm
      · rw [hc] at h1; simp at h1
      · rw [hc] at h1; cases h1; exact Nat.le_trans a.len h2
    · exact Nat.le_trans a.len (b.new x c k (by omega) hk hc)
  es := fun x k k' hk hk' => by
    have h := Nat.lt_of_lt_of_le (get_lt hk) a.len
    rw [b.es x _ k' (List.getElem?_eq_getElem h) hk', a.es x k _ hk (List.getElem?_eq_getElem h)]
  chg := fun x k k' hk hk' => by
    have h := Nat.lt_of_lt_of_le (get_lt hk) a.len
    rcases b.chg x _ k' (List.getElem?_eq_getElem h) hk' with h1 | h1 | ⟨c, h1, h2⟩
    · rcases a.chg x k _ hk (List.getElem?_eq_getElem h) with g | g | ⟨c, g1, g2⟩
      · exact .inl (h1.trans g)
      · exact .inr (.inl (h1.trans g))
      · exact .inr (.inr ⟨c, h1.trans g1, g2⟩)
    · exact .inr (.inl h1)
    · exact .inr (.inr ⟨c, h1, Nat.le_trans a.len h2⟩)

theorem Facts.push (fl : Nat) (H : Heap) {k : Blk} (hk : k.kid = none) : Facts fl H (H ++ [k]) where
  len := by simp
  low := fun b _ h => by rw [List.getElem?_append_left h]
  kids := fun h b c k' hb hc => by
    by_cases e : b < H.length
    · rw [List.getElem?_append_left e] at hb
      have := h b c k' hb hc; simp; omega
    · rw [List.getElem?_append_right (by omega)] at hb
      cases hq : b - H.length with
      | zero => rw [hq] at hb; simp at hb; subst hb; rw [hk] at hc; simp at hc
      | succ q => rw [hq] at hb; simp at hb
  new := fun b c k' hb hg hc => by
    rw [List.getElem?_append_right hb] at hg
    cases hq : b - H.length with
    | zero => rw [hq] at hg; simp at hg; subst hg; rw [hk] at hc; simp at hc
    | succ q => rw [hq] at hg; simp at hg
  es := fun b k1 k2 h1 h2 => by rw [List.getElem?_append_left (get_lt h1), h1] at h2; cases h2; rfl
  chg := fun b k1 k2 h1 h2 => by rw [List.getElem?_append_left (get_lt h1), h1] at h2; cases h2; exact .inl rfl

theorem Facts.set {fl : Nat} {H : Heap} {b : Nat} {k k2 : Blk} (hb : fl ≤ b) (hg : H[b]? = some k) (he : k2.e = k.e) (hk : k2.kid = k.kid ∨ k2.kid = none) : Facts fl H (H.set b k2) where
  len := by simp
  low := fun x hx _ => by rw [List.getElem?_set_ne (by omega)]
  kids := fun h x c k' hx hc => by
    rw [List.length_set]
    by_cases e : x = b
    · subst e; rw [List.getElem?_set_self (get_lt hg)] at hx; cases hx
      rcases hk with h1 | h1
      · rw [h1] at hc; exact h x c k hg hc
      · rw [h1] at hc; simp at hc
    · rw [List.getElem?_set_ne (by omega)] at hx; exact h x c k' hx hc
  new := fun x c k' hx h _ => by rw [List.getElem?_eq_none (by simpa using hx)] at h; simp at h
  es := fun x k1 k3 h1 h3 => by
    by_cases e : x = b
    · subst e; rw [List.getElem?_set_self (get_lt hg)] at h3; cases h3; rw [hg] at h1; cases h1; exact he
    · rw [List.getElem?_set_ne (by omega), h1] at h3; cases h3; rfl
  chg := fun x k1 k3 h1 h3 => by
    by_cases e : x = b
    · subst e; rw [List.getElem?_set_self (get_lt hg)] at h3; cases h3; rw [hg] at h1; cases h1
      rcases hk with h | h
      · exact .inl h
      · exact .inr (.inl h)
    · rw [List.getElem?_set_ne (by omega), h1] at h3; cases h3; exact .inl rfl

theorem Facts.top {fl : Nat} {H : Heap} {b : Nat} {k k2 nk : Blk} (hb : fl ≤ b) (hg : H[b]? = some k) (he : k2.e = k.e) (hk : k2.kid = none ∨ k2.kid = some H.length) (hn : nk.kid = none) : Facts fl H (H.set b k2 ++ [nk]) where
  len := by simp
  low := fun x hx h => by rw [List.getElem?_append_left (by simpa using h), List.getElem?_set_ne (by omega)]
  kids := fun h x c k' hx hc => by
    simp only [List.length_append, List.length_set, List.length_cons, List.length_nil]
    by_cases e0 : x < H.length
    · rw [List.getElem?_append_left (by simpa using e0)] at hx
      by_cases e : x = b
      · subst e; rw [List.getElem?_set_self (get_lt hg)] at hx; cases hx
        rcases hk with h1 | h1
        · rw [h1] at hc; simp at hc
        · rw [h1] at hc; simp at hc; omega
      · rw [List.getElem?_set_ne (by omega)] at hx; have := h x c k' hx hc; omega
    · rw [List.getElem?_append_right (by simp; omega)] at hx
      cases hq : x - (H.set b k2).length with
      | zero => rw [hq] at hx; simp at hx; subst hx; rw [hn] at hc; simp at hc
      | succ q => rw [hq] at hx; simp at hx
  new := fun x c k' hx h hc => by
    rw [List.getElem?_append_right (by simpa using hx)] at h
    cases hq : x - (H.set b k2).length with
    | zero => rw [hq] at h; simp at h; subst h; rw [hn] at hc; simp at hc
    | succ q => rw [hq] at h; simp at h
  es := fun x k1 k3 h1 h3 => by
    rw [List.getElem?_append_left (by simpa using get_lt h1)] at h3
    by_cases e : x = b
    · subst e; rw [List.getElem?_set_self (get_lt hg)] at h3; cases h3; rw [hg] at h1; cases h1; exact he
    · rw [List.getElem?_set_ne (by omega), h1] at h3; cases h3; rfl
  chg := fun x k1 k3 h1 h3 => by
    rw [List.getElem?_append_left (by simpa using get_lt h1)] at h3
    by_cases e : x = b
    · subst e; rw [List.getElem?_set_self (get_lt hg)] at h3; cases h3; rw [hg] at h1; cases h1
      rcases hk with h | h
      · exact .inr (.inl h)
      · exact .inr (.inr ⟨_, h, Nat.le_refl _⟩)
    · rw [List.getElem?_set_ne (by omega), h1] at h3; cases h3; exact .inl rfl

theorem rput_facts {fl : Nat} {H H' : Heap} {b off : Nat} {cs : List AV} (h : rput fl H b off cs = some H') : Facts fl H H' := by
  unfold rput at h
  split at h
  · rename_i k hk
    split at h
    · rename_i hc
      cases h
      exact Facts.set hc.1 (blk_act hk).2.2 rfl (.inl rfl)
    · simp at h
  · simp at h

theorem rappendTop_facts {fl : Nat} {free : Bool} {e : Nat} {H H' : Heap} {b off n k : Nat} {blk : Blk} {xs : List AV} {v : AV} (hg : H[b]? = some blk) (h : rappendTop fl free e H b off n k blk xs = some (v, H')) : Facts fl H H' := by
  unfold rappendTop at h
  split at h
  · rename_i hc
    simp only [Option.some.injEq, Prod.mk.injEq] at h
    obtain ⟨_, rfl⟩ := h
    refine Facts.top hc.1 hg rfl ?_ rfl
    split
    · exact .inr rfl
    · exact .inl rfl
  · simp at h

theorem rev_ne {H : Heap} {b c : Nat} {blk : Blk} (hg : H[b]? = some blk) (h : H.rev blk = some c) : c ≠ b ∧ c < H.length := by
  obtain ⟨hd, hk⟩ := rev_kid h
  unfold Heap.rev at h
  simp only [hd, hk] at h
  cases hc : H[c]? with
  | none => simp [hc] at h
  | some kc =>
    refine ⟨fun e => ?_, get_lt hc⟩
    subst e
    rw [hg] at hc; cases hc
    simp [hg, hd] at h

theorem rappend_facts {fl : Nat} {free : Bool} {e bytes : Nat} {H H' : Heap} {s v : AV} {k : Nat} {xs : List AV} (h : rappend fl free e bytes H s k xs = some (v, H')) : Facts fl H H' := by
  unfold rappend at h
  split at h
  · split at h
    · simp only [Option.some.injEq, Prod.mk.injEq] at h; obtain ⟨_, rfl⟩ := h; exact Facts.refl _ _
    · simp only [Option.some.injEq, Prod.mk.injEq] at h; obtain ⟨_, rfl⟩ := h; exact Facts.refl _ _
    · simp at h
  · split at h
    · split at h
      · simp only [Option.some.injEq, Prod.mk.injEq] at h; obtain ⟨_, rfl⟩ := h; exact Facts.push _ _ rfl
      · simp at h
    · split at h
      · simp at h
      · rename_i blk hact
        have hg := act_get hact
        split at h
        · split at h
          · split at h
            · split at h
              · split at h
                · simp only [Option.map_eq_some_iff, Prod.mk.injEq] at h
                  obtain ⟨H1, hp, _, rfl⟩ := h
                  exact rput_facts hp
                · simp at h
              · simp only [Option.some.injEq, Prod.mk.injEq] at h; obtain ⟨_, rfl⟩ := h; exact Facts.push _ _ rfl
            · split at h
              · exact rappendTop_facts hg h
              · split at h
                · simp only [Option.map_eq_some_iff, Prod.mk.injEq] at h
                  obtain ⟨H1, hp, _, rfl⟩ := h
                  exact rput_facts hp
                · simp at h
          · split at h
            · rename_i c hrev
              split at h
              · rename_i hcd
                obtain ⟨h1, h2⟩ := rev_ne hg hrev
                have hgk := (kill_ne (H := H) (Ne.symm h1)).trans hg
                refine Facts.trans (H2 := H.kill c) ?_ (rappendTop_facts hgk h)
                unfold Heap.kill
                split
                · rename_i kc hkc
                  exact Facts.set hcd.2.2 hkc rfl (.inr rfl)
                · exact Facts.refl _ _
              · simp at h
            · simp at h
        · simp at h
    · simp at h

/-- A call's run keeps what it must. -/
def CallFacts (call : Nat → Nat → List AV → Heap → Option (AV × Heap)) : Prop := ∀ fl f args H v H', call fl f args H = some (v, H') → Facts fl H H'

theorem rop_facts {call : Nat → Nat → List AV → Heap → Option (AV × Heap)} {fl : Nat} {free : Bool} {X : RX → AV} {H H' : Heap} {r : ROp} {v : AV} (h : rop call fl free X H r = some (v, H')) :
    (∀ f args, r ≠ .call f args) → (∀ f args, r ≠ .callS f args) → Facts fl H H' := by
  intro n1 n2
  cases r <;> simp only [rop, reduceCtorEq] at h
  case move => simp only [Option.some.injEq, Prod.mk.injEq] at h; obtain ⟨_, rfl⟩ := h; exact Facts.refl _ _
  case pick =>
    split at h
    · simp only [Option.some.injEq, Prod.mk.injEq] at h; obtain ⟨_, rfl⟩ := h; exact Facts.refl _ _
    · simp at h
  case alloc => simp only [Option.some.injEq, Prod.mk.injEq] at h; obtain ⟨_, rfl⟩ := h; exact Facts.push _ _ rfl
  case box => simp only [Option.some.injEq, Prod.mk.injEq] at h; obtain ⟨_, rfl⟩ := h; exact Facts.push _ _ rfl
  case build => simp only [Option.map_eq_some_iff, Prod.mk.injEq] at h; obtain ⟨_, _, _, rfl⟩ := h; exact Facts.refl _ _
  case buildSlice => simp only [Option.map_eq_some_iff, Prod.mk.injEq] at h; obtain ⟨_, _, _, rfl⟩ := h; exact Facts.push _ _ rfl
  case load =>
    split at h
    · simp only [Option.map_eq_some_iff, Prod.mk.injEq] at h; obtain ⟨_, _, _, rfl⟩ := h; exact Facts.refl _ _
    · simp at h
  case store =>
    split at h
    · split at h
      · simp only [Option.map_eq_some_iff, Prod.mk.injEq] at h; obtain ⟨_, hp, _, rfl⟩ := h; exact rput_facts hp
      · simp at h
    · simp at h
  case nilCheck =>
    split at h
    · simp only [Option.some.injEq, Prod.mk.injEq] at h; obtain ⟨_, rfl⟩ := h; exact Facts.refl _ _
    · simp only [Option.some.injEq, Prod.mk.injEq] at h; obtain ⟨_, rfl⟩ := h; exact Facts.refl _ _
    · simp at h
  case bin => simp only [Option.map_eq_some_iff, Prod.mk.injEq] at h; obtain ⟨_, _, _, rfl⟩ := h; exact Facts.refl _ _
  case un => simp only [Option.map_eq_some_iff, Prod.mk.injEq] at h; obtain ⟨_, _, _, rfl⟩ := h; exact Facts.refl _ _
  case convInt =>
    split at h
    · simp only [Option.some.injEq, Prod.mk.injEq] at h; obtain ⟨_, rfl⟩ := h; exact Facts.refl _ _
    · simp at h
  case makeFunc => simp only [Option.some.injEq, Prod.mk.injEq] at h; obtain ⟨_, rfl⟩ := h; exact Facts.refl _ _
  case makeSlice =>
    split at h
    · split at h
      · simp only [Option.some.injEq, Prod.mk.injEq] at h; obtain ⟨_, rfl⟩ := h; exact Facts.push _ _ rfl
      · simp at h
    · simp at h
  case slice => simp only [Option.map_eq_some_iff, Prod.mk.injEq] at h; obtain ⟨_, _, _, rfl⟩ := h; exact Facts.refl _ _
  case sliceStr =>
    split at h
    · split at h
      · split at h
        · simp only [Option.some.injEq, Prod.mk.injEq] at h; obtain ⟨_, rfl⟩ := h; exact Facts.refl _ _
        · simp at h
      · simp at h
    · simp at h
  case fieldAddr =>
    split at h
    · simp only [Option.some.injEq, Prod.mk.injEq] at h; obtain ⟨_, rfl⟩ := h; exact Facts.refl _ _
    · simp at h
  case field =>
    split at h
    · simp only [Option.map_eq_some_iff, Prod.mk.injEq] at h; obtain ⟨_, _, _, rfl⟩ := h; exact Facts.refl _ _
    · simp at h
  case indexAddr =>
    split at h
    · split at h
      · simp only [Option.some.injEq, Prod.mk.injEq] at h; obtain ⟨_, rfl⟩ := h; exact Facts.refl _ _
      · simp at h
    · simp at h
  case indexArr =>
    split at h
    · split at h
      · simp only [Option.some.injEq, Prod.mk.injEq] at h; obtain ⟨_, rfl⟩ := h; exact Facts.refl _ _
      · simp at h
    · simp at h
  case indexStr =>
    split at h
    · split at h
      · simp only [Option.some.injEq, Prod.mk.injEq] at h; obtain ⟨_, rfl⟩ := h; exact Facts.refl _ _
      · simp at h
    · simp at h
  case extract =>
    split at h
    · simp only [Option.map_eq_some_iff, Prod.mk.injEq] at h; obtain ⟨_, _, _, rfl⟩ := h; exact Facts.refl _ _
    · simp at h
  case call f args => exact absurd rfl (n1 f args)
  case callS f args => exact absurd rfl (n2 f args)
  case len =>
    split at h
    · simp only [Option.some.injEq, Prod.mk.injEq] at h; obtain ⟨_, rfl⟩ := h; exact Facts.refl _ _
    · simp only [Option.some.injEq, Prod.mk.injEq] at h; obtain ⟨_, rfl⟩ := h; exact Facts.refl _ _
    · simp at h
  case lenStr =>
    split at h
    · simp only [Option.some.injEq, Prod.mk.injEq] at h; obtain ⟨_, rfl⟩ := h; exact Facts.refl _ _
    · simp at h
  case append =>
    split at h
    · simp only [Option.bind_eq_some_iff] at h
      obtain ⟨_, _, h⟩ := h
      exact rappend_facts h
    · simp at h
  case copy =>
    split at h
    · split at h
      · simp only [Option.some.injEq, Prod.mk.injEq] at h; obtain ⟨_, rfl⟩ := h; exact Facts.refl _ _
      · split at h
        · simp only [Option.bind_eq_some_iff, Option.map_eq_some_iff, Prod.mk.injEq] at h
          obtain ⟨_, _, _, hp, _, rfl⟩ := h
          exact rput_facts hp
        · simp at h
    · simp at h
  case clear =>
    split at h
    · simp only [Option.some.injEq, Prod.mk.injEq] at h; obtain ⟨_, rfl⟩ := h; exact Facts.refl _ _
    · split at h
      · simp only [Option.some.injEq, Prod.mk.injEq] at h; obtain ⟨_, rfl⟩ := h; exact Facts.refl _ _
      · simp only [Option.map_eq_some_iff, Prod.mk.injEq] at h
        obtain ⟨_, hp, _, rfl⟩ := h
        exact rput_facts hp
    · simp at h
  case min =>
    split at h
    · simp only [Option.map_eq_some_iff, Prod.mk.injEq] at h; obtain ⟨_, _, _, rfl⟩ := h; exact Facts.refl _ _
    · simp at h
  case max =>
    split at h
    · simp only [Option.map_eq_some_iff, Prod.mk.injEq] at h; obtain ⟨_, _, _, rfl⟩ := h; exact Facts.refl _ _
    · simp at h
  case tomb => simp only [Option.some.injEq, Prod.mk.injEq] at h; obtain ⟨_, rfl⟩ := h; exact Facts.push _ _ rfl
  case upd =>
    split at h
    · split at h
      · simp only [Option.some.injEq, Prod.mk.injEq] at h; obtain ⟨_, rfl⟩ := h; exact Facts.refl _ _
      · simp at h
    · simp at h

/-- With a floor at the heap's end nothing old is turned. -/
theorem Facts.lower {fl fl' : Nat} {H H' : Heap} (h : Facts fl H H') (hf : fl' ≤ fl) : Facts fl' H H' :=
  ⟨h.len, fun b hb hl => h.low b (by omega) hl, h.kids, h.new, h.es, h.chg⟩
theorem Facts.all {H H' : Heap} (h : Facts H.length H H') (fl : Nat) : Facts fl H H' :=
  ⟨h.len, fun b _ hl => h.low b hl hl, h.kids, h.new, h.es, h.chg⟩

theorem rop_facts' {call : Nat → Nat → List AV → Heap → Option (AV × Heap)} (hcall : CallFacts call) {fl : Nat} {free : Bool} {X : RX → AV} {H H' : Heap} {r : ROp} {v : AV} (h : rop call fl free X H r = some (v, H')) : Facts fl H H' := by
  have hc : ∀ g args, call (if free then fl else H.length) g args H = some (v, H') → Facts fl H H' := fun g args hh => by
    have := hcall _ _ _ _ _ _ hh
    split at this
    · exact this
    · exact this.all fl
  by_cases h1 : ∃ f args, r = .call f args
  · obtain ⟨f, args, rfl⟩ := h1
    simp only [rop] at h
    split at h
    · exact hc _ _ h
    · simp at h
  · by_cases h2 : ∃ f args, r = .callS f args
    · obtain ⟨f, args, rfl⟩ := h2
      simp only [rop] at h
      exact hc _ _ h
    · exact rop_facts h (fun f args e => h1 ⟨f, args, e⟩) (fun f args e => h2 ⟨f, args, e⟩)

theorem rops_facts {call : Nat → Nat → List AV → Heap → Option (AV × Heap)} (hcall : CallFacts call) {fl : Nat} {E : List AV} : ∀ {l : List ROper} {L L' : List AV} {H H' : Heap},
    rops call fl E l L H = some (L', H') → Facts fl H H'
  | [], L, L', H, H', h => by simp only [rops, Option.some.injEq, Prod.mk.injEq] at h; obtain ⟨_, rfl⟩ := h; exact Facts.refl _ _
  | o :: l, L, L', H, H', h => by
    simp only [rops] at h
    split at h
    · split at h
      · rename_i hr
        exact (rop_facts' hcall hr).trans (rops_facts hcall h)
      · simp at h
    · exact rops_facts hcall h

mutual
theorem rexec_facts (F : Nat → Option RFunc) : ∀ (n fl : Nat) (c : RCode) (E : List AV) (H : Heap) (o : Out) (E' : List AV) (H' : Heap), rexec F n fl c E H = some (o, E', H') → Facts fl H H'
  | 0, fl, c, E, H, o, E', H', h => by simp [rexec] at h
  | n + 1, fl, c, E, H, o, E', H', h => by
    cases c <;> simp only [rexec, reduceCtorEq] at h
    case skip => simp only [Option.some.injEq, Prod.mk.injEq] at h; obtain ⟨_, _, rfl⟩ := h; exact Facts.refl _ _
    case ops l =>
      simp only [Option.map_eq_some_iff, Prod.mk.injEq] at h
      obtain ⟨⟨L, H1⟩, hr, _, _, rfl⟩ := h
      exact rops_facts (rcall_facts F n) hr
    case seq a b =>
      split at h
      · rename_i E1 H1 h1
        exact (rexec_facts F n fl a E H _ E1 H1 h1).trans (rexec_facts F n fl b E1 H1 _ _ _ h)
      · exact rexec_facts F n fl a E H _ _ _ h
    case cond x a b =>
      split at h
      · exact rexec_facts F n fl a E H _ _ _ h
      · exact rexec_facts F n fl b E H _ _ _ h
      · simp at h
    case block id c =>
      split at h
      · rename_i id' E1 H1 h1
        have := rexec_facts F n fl c E H _ E1 H1 h1
        split at h
        · simp only [Option.some.injEq, Prod.mk.injEq] at h; obtain ⟨_, _, rfl⟩ := h; exact this
        · simp only [Option.some.injEq, Prod.mk.injEq] at h; obtain ⟨_, _, rfl⟩ := h; exact this
      · exact rexec_facts F n fl c E H _ _ _ h
    case loop c =>
      split at h
      · rename_i E1 H1 h1
        exact (rexec_facts F n fl c E H _ E1 H1 h1).trans (rexec_facts F n fl (.loop c) E1 H1 _ _ _ h)
      · exact rexec_facts F n fl c E H _ _ _ h
    case exit => simp only [Option.some.injEq, Prod.mk.injEq] at h; obtain ⟨_, _, rfl⟩ := h; exact Facts.refl _ _
    case ret => simp only [Option.some.injEq, Prod.mk.injEq] at h; obtain ⟨_, _, rfl⟩ := h; exact Facts.refl _ _
theorem rcall_facts (F : Nat → Option RFunc) : ∀ (n : Nat), CallFacts (rcall F n)
  | 0, fl, f, args, H, v, H', h => by simp [rcall] at h
  | n + 1, fl, f, args, H, v, H', h => by
    simp only [rcall] at h
    split at h
    · simp at h
    · split at h
      · split at h
        · rename_i E1 H1 h1
          simp only [Option.map_eq_some_iff, Prod.mk.injEq] at h
          obtain ⟨_, _, _, rfl⟩ := h
          exact rexec_facts F n fl _ _ H _ E1 _ h1
        · rename_i E1 H1 h1
          simp only [Option.map_eq_some_iff, Prod.mk.injEq] at h
          obtain ⟨_, _, _, rfl⟩ := h
          exact rexec_facts F n fl _ _ H _ E1 _ h1
        · simp at h
      · simp at h
end

end Go.RM
