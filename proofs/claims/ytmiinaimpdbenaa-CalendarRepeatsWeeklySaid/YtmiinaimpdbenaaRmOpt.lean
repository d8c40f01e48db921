/-
  Variables that nobody points at are taken out of the heap: a pass over the abstract machine's code, and that it keeps what the code computes.
-/
import Derived.Test.YtmiinaimpdbenaaRmCode
namespace Go.RM
set_option linter.unusedSimpArgs false
set_option linter.unusedVariables false

inductive LK where
  | plain
  | no
  | addr (x off : Nat) (g : Option (Nat × Bool))
  deriving Inhabited

/-- Where a variable's value stands now; true: the variable was made anew in this list. -/
abbrev Curs := List (Nat × RX × Bool)

def Curs.get (c : Curs) (x : Nat) : RX :=
  match c with
  | [] => .var x
  | (y, r, _) :: l => if y = x then r else Curs.get l x
def Curs.fresh (c : Curs) (x : Nat) : Bool :=
  match c with
  | [] => false
  | (y, _, f) :: l => (if y = x then f else false) || Curs.fresh l x
def Curs.has (c : Curs) (x : Nat) : Bool := c.any fun p => p.1 == x

def plainRX (bv : List Nat) (ks : List LK) : RX → Bool
  | .var y => !memN y bv
  | .loc j => (match ks[j]? with | some .plain => true | _ => false)
  | .k _ => true

def ROp.rxs : ROp → List RX
  | .fail => []
  | .move x => [x]
  | .pick c a b => [c, a, b]
  | .alloc _ _ => []
  | .box _ x => [x]
  | .build _ ps => ps.map (·.2.2)
  | .buildSlice _ _ ps _ => ps.map (·.2.2)
  | .load _ x => [x]
  | .store _ x v ap => x :: v :: ap
  | .nilCheck x => [x]
  | .bin _ _ x y => [x, y]
  | .un _ x => [x]
  | .convInt _ x => [x]
  | .makeFunc _ l => l
  | .makeSlice _ _ _ a b => [a, b]
  | .slice _ x a b c => x :: (a.toList ++ b.toList ++ c.toList)
  | .sliceStr x a b => x :: (a.toList ++ b.toList)
  | .fieldAddr _ x => [x]
  | .field _ _ x => [x]
  | .indexAddr _ x i => [x, i]
  | .indexArr _ _ x i => [x, i]
  | .indexStr x i => [x, i]
  | .extract x _ => [x]
  | .call f l => f :: l
  | .callS _ l => l
  | .len x => [x]
  | .lenStr x => [x]
  | .append _ _ x y => [x, y]
  | .copy _ x y => [x, y]
  | .clear _ _ x => [x]
  | .min x l => x :: l
  | .max x l => x :: l
  | .tomb _ x => [x]
  | .upd _ _ x v => [x, v]

def dstPlain (bv : List Nat) (d : Option Nat) : Bool := match d with | some y => !memN y bv | none => true

def guardPlain (ks : List LK) (g : Option (Nat × Bool)) : Bool :=
  match g with
  | none => true
  | some (j, _) => (match ks[j]? with | some .plain => true | _ => false)

/-- An operand as the address of a taken variable. -/
def asBox (bv : List Nat) (ks : List LK) (c : Curs) : RX → Option (Nat × Nat × Option (Nat × Bool))
  | .var x => if memN x bv && !c.fresh x then some (x, 0, none) else none
  | .loc j => (match ks[j]? with | some (.addr x off g) => some (x, off, g) | _ => none)
  | .k _ => none

def LK.names (x : Nat) : LK → Bool
  | .addr y _ _ => y == x
  | _ => false

def optPlain (bv : List Nat) (ks : List LK) (c : Curs) (o : ROper) : Option (ROper × LK × Curs) :=
  if o.op.rxs.all (plainRX bv ks) && dstPlain bv o.dst && guardPlain ks o.guard then some (o, .plain, c) else none

def optMake (bv : List Nat) (ks : List LK) (c : Curs) (i : Nat) (o : ROper) (e : Nat) (v : RX) : Option (ROper × LK × Curs) :=
  match o.dst with
  | some x =>
    if memN x bv then
      if o.guard.isNone && plainRX bv ks v && !c.has x && !(ks.any (LK.names x)) then some ({ op := .tomb e v, guard := none, dst := some x, free := o.free }, .addr x 0 none, (x, .loc i, true) :: c) else none
    else optPlain bv ks c o
  | none => optPlain bv ks c o

def sameGuard (g h : Option (Nat × Bool)) : Bool :=
  match g, h with
  | none, _ => true
  | some (i, b), some (j, b') => i == j && b == b'
  | _, _ => false

def optOper (bv : List Nat) (ks : List LK) (c : Curs) (i : Nat) (o : ROper) : Option (ROper × LK × Curs) :=
  match o.op with
  | .alloc e z => optMake bv ks c i o e (.k (.agg z))
  | .box e v => optMake bv ks c i o e v
  | .load sz p =>
    match asBox bv ks c p with
    | some (x, off, g) => if sameGuard g o.guard && dstPlain bv o.dst && guardPlain ks o.guard then some ({ o with op := .field off sz (c.get x) }, .plain, c) else none
    | none => optPlain bv ks c o
  | .fieldAddr off p =>
    match asBox bv ks c p with
    | some (x, off', g) => if sameGuard g o.guard && o.dst.isNone && guardPlain ks o.guard then some ({ o with op := .field 0 none (c.get x) }, .addr x (off' + off) o.guard, c) else none
    | none => optPlain bv ks c o
  | .store n p v ap =>
    match asBox bv ks c p with
    | some (x, off, g) => if g.isNone && o.guard.isNone && o.dst.isNone && ap.isEmpty && plainRX bv ks v then some ({ op := .upd n off (c.get x) v, guard := none, dst := some x, free := o.free }, .no, (x, .loc i, c.fresh x) :: c) else none
    | none => optPlain bv ks c o
  | _ => optPlain bv ks c o

def optOps (bv : List Nat) : List ROper → List LK → Curs → Option (List ROper)
  | [], _, _ => some []
  | o :: l, ks, c =>
    match optOper bv ks c ks.length o with
    | some (o', k, c') => (optOps bv l (ks ++ [k]) c').map (o' :: ·)
    | none => none

def optCode (bv : List Nat) : RCode → Option RCode
  | .ops l => (optOps bv l [] []).map .ops
  | .seq a b =>
    match optCode bv a, optCode bv b with
    | some a, some b => some (.seq a b)
    | _, _ => none
  | .cond x a b =>
    if plainRX bv [] x then
      match optCode bv a, optCode bv b with
      | some a, some b => some (.cond x a b)
      | _, _ => none
    else none
  | .block id c => (optCode bv c).map (.block id)
  | .loop c => (optCode bv c).map .loop
  | c => some c

def optRes (bv : List Nat) : RRes → Option RRes
  | .var x => if memN x bv then none else some (.var x)
  | .cell x sz => if memN x bv then some (.part x sz) else some (.cell x sz)
  | .part x sz => if memN x bv then none else some (.part x sz)

def optResL (bv : List Nat) : List RRes → Option (List RRes)
  | [] => some []
  | r :: l =>
    match optRes bv r, optResL bv l with
    | some a, some b => some (a :: b)
    | _, _ => none

def optFuncW (bv : List Nat) (f : RFunc) : Option RFunc :=
  if bv.all (fun x => decide (f.nargs ≤ x) && decide (x < f.nvars)) && decide (f.nargs ≤ f.nvars) then
    match optResL bv f.res, optCode bv f.body with
    | some r, some c => some { f with res := r, body := c }
    | _, _ => none
  else none

def RCode.made : RCode → List Nat
  | .ops l => l.filterMap fun o => match o.op with | .alloc .. => o.dst | .box .. => o.dst | _ => none
  | .seq a b => a.made ++ b.made
  | .cond _ a b => a.made ++ b.made
  | .block _ c => c.made
  | .loop c => c.made
  | _ => []

def optFunc (f : RFunc) : Option RFunc :=
  let bv := (dedup [] f.body.made).filter fun x => (optFuncW [x] f).isSome
  match optFuncW bv f with
  | some g => some g
  | none => optFuncW [] f

/-- The table of the functions, with such variables taken out. -/
def tableO (P : Program) (f : Nat) : Option RFunc := (table P f).bind optFunc

/-! ### The heaps -/

def Tomb (H : Heap) (b : Nat) : Prop := ∃ k, H[b]? = some k ∧ k.live = false ∧ k.kid = none

structure Le (HB HA : Heap) : Prop where
  len : HB.length = HA.length
  get : ∀ b : Nat, HB[b]? = HA[b]? ∨ (Tomb HB b ∧ ∃ k k', HB[b]? = some k ∧ HA[b]? = some k' ∧ k.e = k'.e)

theorem Le.refl (H : Heap) : Le H H := ⟨rfl, fun _ => .inl rfl⟩

theorem Tomb.not_live {H : Heap} {b : Nat} {k : Blk} (h : Tomb H b) (hg : H[b]? = some k) : k.live = false ∧ k.kid = none := by
  obtain ⟨k', h1, h2⟩ := h; rw [hg] at h1; cases h1; exact h2

theorem Tomb.act {H : Heap} {b : Nat} (h : Tomb H b) : H.act b = none := by
  obtain ⟨k, h1, h2, h3⟩ := h
  unfold Heap.act; rw [h1]; simp [h2, Heap.rev, h3]

theorem Le.live {HB HA : Heap} (h : Le HB HA) {b : Nat} {k : Blk} (hg : HB[b]? = some k) (hn : k.live = true ∨ k.kid ≠ none) : HA[b]? = some k := by
  rcases h.get b with e | ⟨t, _⟩
  · rw [← e]; exact hg
  · have := t.not_live hg
    rcases hn with hn | hn
    · rw [this.1] at hn; simp at hn
    · exact absurd this.2 hn

theorem Le.blk {HB HA : Heap} (h : Le HB HA) {b : Nat} {k : Blk} (hb : HB.blk b = some k) : HA.blk b = some k := by
  obtain ⟨_, hl, hg⟩ := blk_act hb
  have := h.live hg (.inl hl)
  unfold Heap.blk; rw [this]; simp [hl]

theorem Le.rev {HB HA : Heap} (h : Le HB HA) {k : Blk} {c : Nat} (hr : HB.rev k = some c) : HA.rev k = some c := by
  obtain ⟨hd, hk⟩ := rev_kid hr
  unfold Heap.rev at hr ⊢
  simp only [hd, hk] at hr ⊢
  cases hc : HB[c]? with
  | none => simp [hc] at hr
  | some kc =>
    simp only [hc] at hr
    have hl : kc.live = true := by
      by_cases h1 : (kc.live && kc.clean) = true
      · simp only [Bool.and_eq_true] at h1; exact h1.1
      · simp [h1] at hr
    rw [h.live hc (.inl hl)]; exact hr

theorem Le.act {HB HA : Heap} (h : Le HB HA) {b : Nat} {k : Blk} (ha : HB.act b = some k) : HA.act b = some k := by
  have hg := act_get ha
  have hcase : k.live = true ∨ ∃ c, HB.rev k = some c := by
    unfold Heap.act at ha
    rw [hg] at ha
    by_cases hl : k.live = true
    · exact .inl hl
    · simp only [hl, Bool.false_or] at ha
      split at ha
      · rename_i hr; exact .inr (Option.isSome_iff_exists.1 hr)
      · simp at ha
  rcases hcase with hl | ⟨c, hr⟩
  · exact act_of (h.live hg (.inl hl)) (.inl hl)
  · exact act_of (h.live hg (.inr (by rw [(rev_kid hr).2]; simp))) (.inr (by rw [h.rev hr]; rfl))

/-- The two runs' heaps stay alike, and what only the one has is left alone. -/
structure Mono (HB HA HB' HA' : Heap) : Prop where
  le : Le HB' HA'
  len : HB.length ≤ HB'.length
  fr : ∀ b, Tomb HB b → HA'[b]? = HA[b]? ∧ Tomb HB' b

theorem Mono.refl {HB HA : Heap} (h : Le HB HA) : Mono HB HA HB HA := ⟨h, Nat.le_refl _, fun b t => ⟨rfl, t⟩⟩

theorem Mono.trans {HB HA HB1 HA1 HB2 HA2 : Heap} (a : Mono HB HA HB1 HA1) (b : Mono HB1 HA1 HB2 HA2) : Mono HB HA HB2 HA2 :=
  ⟨b.le, Nat.le_trans a.len b.len, fun x t => ⟨(b.fr x (a.fr x t).2).1.trans (a.fr x t).1, (b.fr x (a.fr x t).2).2⟩⟩

theorem Tomb.lt {H : Heap} {b : Nat} (h : Tomb H b) : b < H.length := by obtain ⟨k, h1, _⟩ := h; exact get_lt h1

theorem Mono.set {HB HA : Heap} (h : Le HB HA) {b : Nat} {k : Blk} (hn : ¬ Tomb HB b) : Mono HB HA (HB.set b k) (HA.set b k) := by
  have hg : ∀ x, x ≠ b → (HB.set b k)[x]? = HB[x]? ∧ (HA.set b k)[x]? = HA[x]? := fun x hx => ⟨List.getElem?_set_ne (by omega), List.getElem?_set_ne (by omega)⟩
  refine ⟨⟨by simp [h.len], fun x => ?_⟩, by simp, fun x t => ?_⟩
  · by_cases e : x = b
    · subst e
      left
      by_cases hl : x < HB.length
      · rw [List.getElem?_set_self hl, List.getElem?_set_self (by rw [← h.len]; exact hl)]
      · rw [List.getElem?_eq_none (by simp; omega), List.getElem?_eq_none (by simp; have := h.len; omega)]
    · rw [(hg x e).1, (hg x e).2]
      rcases h.get x with e1 | ⟨⟨k0, t1, t2⟩, e2⟩
      · exact .inl e1
      · exact .inr ⟨⟨k0, by rw [(hg x e).1]; exact t1, t2⟩, e2⟩
  · have e : x ≠ b := fun e => hn (e ▸ t)
    obtain ⟨k0, t1, t2⟩ := t
    exact ⟨(hg x e).2, k0, by rw [(hg x e).1]; exact t1, t2⟩

theorem Mono.push {HB HA : Heap} (h : Le HB HA) (k : Blk) : Mono HB HA (HB ++ [k]) (HA ++ [k]) := by
  refine ⟨⟨by simp [h.len], fun x => ?_⟩, by simp, fun x t => ?_⟩
  · by_cases hl : x < HB.length
    · rw [List.getElem?_append_left hl, List.getElem?_append_left (by rw [← h.len]; exact hl)]
      rcases h.get x with e1 | ⟨⟨k0, t1, t2⟩, e2⟩
      · exact .inl e1
      · exact .inr ⟨⟨k0, by rw [List.getElem?_append_left hl]; exact t1, t2⟩, e2⟩
    · left
      rw [List.getElem?_append_right (by omega), List.getElem?_append_right (by have := h.len; omega), h.len]
  · have hl := t.lt
    obtain ⟨k0, t1, t2⟩ := t
    exact ⟨by rw [List.getElem?_append_left (by rw [← h.len]; exact hl)], k0, by rw [List.getElem?_append_left hl]; exact t1, t2⟩

theorem not_tomb_act {H : Heap} {b : Nat} {k : Blk} (h : H.act b = some k) : ¬ Tomb H b := fun t => by rw [t.act] at h; simp at h

theorem Mono.kill {HB HA : Heap} (h : Le HB HA) {c : Nat} (hn : ∃ kc, HB[c]? = some kc ∧ kc.live = true) : Mono HB HA (HB.kill c) (HA.kill c) := by
  obtain ⟨kc, h1, h2⟩ := hn
  unfold Heap.kill
  rw [h1, h.live h1 (.inl h2)]
  exact Mono.set h fun t => by have := (t.not_live h1).1; rw [h2] at this; simp at this

theorem rput_mono {HB HA : Heap} (h : Le HB HA) {fl b off : Nat} {cs : List AV} {H' : Heap} (hp : rput fl HB b off cs = some H') : ∃ HA', rput fl HA b off cs = some HA' ∧ Mono HB HA H' HA' := by
  unfold rput at hp ⊢
  split at hp
  · rename_i k hk
    rw [h.blk hk]
    simp only
    split at hp
    · rename_i hc
      rw [if_pos hc]
      simp only [Option.some.injEq] at hp
      subst hp
      exact ⟨_, rfl, Mono.set h (not_tomb_act (blk_act hk).1)⟩
    · simp at hp
  · simp at hp

theorem apartB_mono {HB HA : Heap} (h : Le HB HA) {b : Nat} : ∀ {l : List AV}, apartB HB b l = true → apartB HA b l = true
  | [], _ => rfl
  | .ptr b' o' :: l, hl => by
    simp only [apartB, Bool.and_eq_true] at hl ⊢
    refine ⟨⟨hl.1.1, ?_⟩, apartB_mono h hl.2⟩
    have h2 := hl.1.2
    unfold notKid at h2 ⊢
    split at h2
    · rename_i k hk; rw [h.act hk]; exact h2
    · cases h2
  | .int .. :: _, h => by simp [apartB] at h
  | .bool _ :: _, h => by simp [apartB] at h
  | .str _ :: _, h => by simp [apartB] at h
  | .nilptr :: _, h => by simp [apartB] at h
  | .slice .. :: _, h => by simp [apartB] at h
  | .empty :: _, h => by simp [apartB] at h
  | .func .. :: _, h => by simp [apartB] at h
  | .nilfunc :: _, h => by simp [apartB] at h
  | .agg _ :: _, h => by simp [apartB] at h
  | .tuple _ :: _, h => by simp [apartB] at h

theorem sliceCells_mono {HB HA : Heap} (h : Le HB HA) {e n : Nat} {v : AV} {xs : List AV} (hs : sliceCells HB e n v = some xs) : sliceCells HA e n v = some xs := by
  unfold sliceCells at hs ⊢
  split at hs
  · exact hs
  · split at hs
    · rename_i h0; rw [if_pos h0]; exact hs
    · rename_i h0
      rw [if_neg h0]
      split at hs
      · simp at hs
      · rename_i h1
        rw [if_neg h1]
        split at hs
        · rename_i k hk; rw [h.act hk]; exact hs
        · simp at hs
  · simp at hs

theorem rslice_mono {HB HA : Heap} (h : Le HB HA) {e : Nat} {x : AV} {lo hi mx : Option AV} {v : AV} (hs : rslice HB e x lo hi mx = some v) : rslice HA e x lo hi mx = some v := by
  have he : ∀ b : Nat, (HA[b]?).map (·.e) = (HB[b]?).map (·.e) := fun b => by
    rcases h.get b with e | ⟨_, k, k', h1, h2, h3⟩
    · rw [e]
    · rw [h1, h2]; simp [h3]
  unfold rslice at hs ⊢
  simp only [he]
  exact hs

theorem rappendTop_mono {HB HA : Heap} (h : Le HB HA) {fl : Nat} {free : Bool} {e b off n k : Nat} {blk : Blk} {xs : List AV} {v : AV} {H' : Heap} (hn : ¬ Tomb HB b) (ha : rappendTop fl free e HB b off n k blk xs = some (v, H')) :
    ∃ HA', rappendTop fl free e HA b off n k blk xs = some (v, HA') ∧ Mono HB HA H' HA' := by
  unfold rappendTop at ha ⊢
  rw [← h.len]
  split at ha
  · rename_i hc
    rw [if_pos hc]
    simp only [Option.some.injEq, Prod.mk.injEq] at ha
    obtain ⟨rfl, rfl⟩ := ha
    have m1 := Mono.set h (k := { blk with live := false, kid := if free then some HB.length else none }) hn
    exact ⟨_, rfl, m1.trans (Mono.push m1.le _)⟩
  · simp at ha

theorem rappend_mono {HB HA : Heap} (h : Le HB HA) {fl : Nat} {free : Bool} {e bytes : Nat} {s : AV} {k : Nat} {xs : List AV} {v : AV} {H' : Heap} (ha : rappend fl free e bytes HB s k xs = some (v, H')) :
    ∃ HA', rappend fl free e bytes HA s k xs = some (v, HA') ∧ Mono HB HA H' HA' := by
  unfold rappend at ha ⊢
  split at ha
  · rename_i h0
    rw [if_pos h0]
    split at ha <;> simp only [Option.some.injEq, Prod.mk.injEq, reduceCtorEq] at ha
    all_goals (obtain ⟨rfl, rfl⟩ := ha; exact ⟨_, rfl, Mono.refl h⟩)
  · rename_i h0
    rw [if_neg h0]
    split at ha
    · split at ha
      · rename_i hc
        rw [if_pos hc, ← h.len]
        simp only [Option.some.injEq, Prod.mk.injEq] at ha
        obtain ⟨rfl, rfl⟩ := ha
        exact ⟨_, rfl, Mono.push h _⟩
      · simp at ha
    · split at ha
      · simp at ha
      · rename_i blk hact
        have hnt := not_tomb_act hact
        rw [h.act hact]
        simp only
        split at ha
        · rename_i hc
          rw [if_pos hc]
          split at ha
          · rename_i hl
            rw [if_pos hl]
            split at ha
            · split at ha
              · rename_i hle
                rw [if_pos hle]
                split at ha
                · rename_i hf
                  rw [if_pos hf]
                  simp only [Option.map_eq_some_iff, Prod.mk.injEq] at ha ⊢
                  obtain ⟨H1, hp, rfl, rfl⟩ := ha
                  obtain ⟨HA1, p1, p2⟩ := rput_mono h hp
                  exact ⟨HA1, ⟨HA1, p1, rfl, rfl⟩, p2⟩
                · simp at ha
              · rename_i hle
                rw [if_neg hle, ← h.len]
                simp only [Option.some.injEq, Prod.mk.injEq] at ha
                obtain ⟨rfl, rfl⟩ := ha
                exact ⟨_, rfl, Mono.push h _⟩
            · split at ha
              · rename_i he
                rw [if_pos he]
                exact rappendTop_mono h hnt ha
              · rename_i he
                rw [if_neg he]
                split at ha
                · rename_i hf
                  rw [if_pos hf]
                  simp only [Option.map_eq_some_iff, Prod.mk.injEq] at ha ⊢
                  obtain ⟨H1, hp, rfl, rfl⟩ := ha
                  obtain ⟨HA1, p1, p2⟩ := rput_mono h hp
                  exact ⟨HA1, ⟨HA1, p1, rfl, rfl⟩, p2⟩
                · simp at ha
          · rename_i hl
            rw [if_neg hl]
            split at ha
            · rename_i c hrev
              have hrA := h.rev hrev
              split at ha
              · rename_i hcd
                simp only [hrA]
                rw [if_pos hcd]
                have hkc : ∃ kc, HB[c]? = some kc ∧ kc.live = true := by
                  obtain ⟨hd, hk⟩ := rev_kid hrev
                  unfold Heap.rev at hrev
                  simp only [hd, hk] at hrev
                  cases hc : HB[c]? with
                  | none => simp [hc] at hrev
                  | some kc =>
                    refine ⟨kc, rfl, ?_⟩
                    simp only [hc] at hrev
                    by_cases h1 : (kc.live && kc.clean) = true
                    · simp only [Bool.and_eq_true] at h1; exact h1.1
                    · simp [h1] at hrev
                have m1 := Mono.kill h hkc
                have hnt' : ¬ Tomb (HB.kill c) _ := fun t => by
                  obtain ⟨k0, t1, t2, t3⟩ := t
                  rw [kill_ne (Ne.symm (rev_ne (act_get hact) hrev).1), act_get hact] at t1
                  cases t1
                  have := (rev_kid hrev).2
                  rw [t3] at this; simp at this
                obtain ⟨HA', a1, a2⟩ := rappendTop_mono m1.le hnt' ha
                exact ⟨HA', a1, m1.trans a2⟩
              · simp at ha
            · simp at ha
        · simp at ha
    · simp at ha

/-- A call in the one table, and in the other. -/
def CallLe (callB callA : Nat → Nat → List AV → Heap → Option (AV × Heap)) : Prop := ∀ fl g args HB v HB' HA, fl ≤ HB.length → callB fl g args HB = some (v, HB') → Le HB HA → ∃ HA', callA fl g args HA = some (v, HA') ∧ Mono HB HA HB' HA'

theorem rop_mono {callB callA : Nat → Nat → List AV → Heap → Option (AV × Heap)} (hcall : CallLe callB callA) {fl : Nat} {free : Bool} {X : RX → AV} {HB HA HB' : Heap} (hfl : fl ≤ HB.length) (h : Le HB HA) {r : ROp} {v : AV}
    (hr : rop callB fl free X HB r = some (v, HB')) : ∃ HA', rop callA fl free X HA r = some (v, HA') ∧ Mono HB HA HB' HA' := by
  by_cases hp : pureR r = true
  · obtain ⟨rfl, hp2⟩ := rop_pure hp hr
    have he : ∀ b : Nat, (HA[b]?).map (·.e) = (HB'[b]?).map (·.e) := fun b => by
      rcases h.get b with e | ⟨_, k, k', h1, h2, h3⟩
      · rw [e]
      · rw [h1, h2]; simp [h3]
    have := hp2 HA he
    refine ⟨HA, ?_, Mono.refl h⟩
    cases r <;> first | exact this | simp [pureR] at hp
  · cases r <;> simp only [pureR, not_true_eq_false] at hp <;> simp only [rop, reduceCtorEq] at hr ⊢
    case alloc => rw [← h.len]; simp only [Option.some.injEq, Prod.mk.injEq] at hr; obtain ⟨rfl, rfl⟩ := hr; exact ⟨_, rfl, Mono.push h _⟩
    case box => rw [← h.len]; simp only [Option.some.injEq, Prod.mk.injEq] at hr; obtain ⟨rfl, rfl⟩ := hr; exact ⟨_, rfl, Mono.push h _⟩
    case buildSlice =>
      rw [← h.len]
      simp only [Option.map_eq_some_iff, Prod.mk.injEq] at hr ⊢
      obtain ⟨cs, h1, rfl, rfl⟩ := hr
      exact ⟨_, ⟨cs, h1, rfl, rfl⟩, Mono.push h _⟩
    case load =>
      split at hr
      · rename_i hx
        simp only [Option.map_eq_some_iff, Prod.mk.injEq] at hr ⊢
        obtain ⟨v0, h1, rfl, rfl⟩ := hr
        refine ⟨HA, ⟨v0, ?_, rfl, rfl⟩, Mono.refl h⟩
        unfold rload at h1 ⊢
        split at h1
        · rename_i k hk; rw [h.act hk]; exact h1
        · simp at h1
      · simp at hr
    case store =>
      split at hr
      · rename_i hx
        split at hr
        · rename_i hc
          rw [if_pos ⟨hc.1, apartB_mono h hc.2⟩]
          simp only [Option.map_eq_some_iff, Prod.mk.injEq] at hr ⊢
          obtain ⟨H1, h1, rfl, rfl⟩ := hr
          obtain ⟨HA1, p1, p2⟩ := rput_mono h h1
          exact ⟨HA1, ⟨HA1, p1, rfl, rfl⟩, p2⟩
        · simp at hr
      · simp at hr
    case makeSlice =>
      rw [← h.len]
      split at hr
      · split at hr
        · rename_i hc
          simp only [Option.some.injEq, Prod.mk.injEq] at hr
          obtain ⟨rfl, rfl⟩ := hr
          rw [if_pos hc]
          exact ⟨_, rfl, Mono.push h _⟩
        · simp at hr
      · simp at hr
    case call f args =>
      rw [← h.len]
      split at hr
      · exact hcall _ _ _ _ _ _ _ (by split <;> omega) hr h
      · simp at hr
    case callS f args =>
      rw [← h.len]
      exact hcall _ _ _ _ _ _ _ (by split <;> omega) hr h
    case append =>
      split at hr
      · simp only [Option.bind_eq_some_iff] at hr ⊢
        obtain ⟨xs, h1, h2⟩ := hr
        obtain ⟨HA', a1, a2⟩ := rappend_mono h h2
        exact ⟨HA', ⟨xs, sliceCells_mono h h1, a1⟩, a2⟩
      · simp at hr
    case copy =>
      split at hr
      · split at hr
        · rename_i h0
          rw [if_pos h0]
          simp only [Option.some.injEq, Prod.mk.injEq] at hr; obtain ⟨rfl, rfl⟩ := hr
          exact ⟨HA, rfl, Mono.refl h⟩
        · rename_i h0
          rw [if_neg h0]
          split at hr
          · simp only [Option.bind_eq_some_iff, Option.map_eq_some_iff, Prod.mk.injEq] at hr ⊢
            obtain ⟨xs, h1, H1, h2, rfl, rfl⟩ := hr
            obtain ⟨HA1, p1, p2⟩ := rput_mono h h2
            exact ⟨HA1, ⟨xs, sliceCells_mono h h1, HA1, p1, rfl, rfl⟩, p2⟩
          · simp at hr
      · simp at hr
    case clear =>
      split at hr
      · simp only [Option.some.injEq, Prod.mk.injEq] at hr; obtain ⟨rfl, rfl⟩ := hr
        exact ⟨HA, rfl, Mono.refl h⟩
      · split at hr
        · rename_i h0
          rw [if_pos h0]
          simp only [Option.some.injEq, Prod.mk.injEq] at hr; obtain ⟨rfl, rfl⟩ := hr
          exact ⟨HA, rfl, Mono.refl h⟩
        · rename_i h0
          rw [if_neg h0]
          simp only [Option.map_eq_some_iff, Prod.mk.injEq] at hr ⊢
          obtain ⟨H1, h2, rfl, rfl⟩ := hr
          obtain ⟨HA1, p1, p2⟩ := rput_mono h h2
          exact ⟨HA1, ⟨HA1, p1, rfl, rfl⟩, p2⟩
      · simp at hr
    case tomb => simp only [Option.some.injEq, Prod.mk.injEq] at hr; obtain ⟨rfl, rfl⟩ := hr; exact ⟨_, rfl, Mono.push h _⟩

end Go.RM
