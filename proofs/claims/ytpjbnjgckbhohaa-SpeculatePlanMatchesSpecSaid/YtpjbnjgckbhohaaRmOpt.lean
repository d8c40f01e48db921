import Derived.Test.YtpjbnjgckbhohaaRmRegion7
/-
  Variables that nobody points at are taken out of the heap: a pass over the abstract machine's code, and that it keeps what the code computes.
-/
namespace Go.RM
set_option linter.unusedSimpArgs false
set_option linter.unusedVariables false

inductive LK where
  | plain
  | no
  | addr (x off : Nat) (g : Option (Nat × Bool))
  deriving Inhabited

/-- Where a variable's value stands now; true: the variable was made anew in this list. -/
abbrev Curs := List (Nat × RX × Bool)

def Curs.get (c : Curs) (x : Nat) : RX :=
  match c with
  | [] => .var x
  | (y, r, _) :: l => if y = x then r else Curs.get l x
def Curs.fresh (c : Curs) (x : Nat) : Bool :=
  match c with
  | [] => false
  | (y, _, f) :: l => (if y = x then f else false) || Curs.fresh l x
def Curs.has (c : Curs) (x : Nat) : Bool := c.any fun p => p.1 == x

def plainRX (bv : List Nat) (ks : List LK) : RX → Bool
  | .var y => !memN y bv
  | .loc j => (match ks[j]? with | some .plain => true | _ => false)
  | .k _ => true

def ROp.rxs : ROp → List RX
  | .fail => []
  | .move x => [x]
  | .pick c a b => [c, a, b]
  | .alloc _ _ => []
  | .box _ x => [x]
  | .build _ ps => ps.map (·.2.2)
  | .buildSlice _ _ ps _ => ps.map (·.2.2)
  | .load _ x => [x]
  | .store _ x v ap => x :: v :: ap
  | .nilCheck x => [x]
  | .bin _ _ x y => [x, y]
  | .un _ x => [x]
  | .convInt _ x => [x]
  | .makeFunc _ l => l
  | .makeSlice _ _ _ a b => [a, b]
  | .slice _ x a b c => x :: (a.toList ++ b.toList ++ c.toList)
  | .sliceStr x a b => x :: (a.toList ++ b.toList)
  | .fieldAddr _ x => [x]
  | .field _ _ x => [x]
  | .indexAddr _ x i => [x, i]
  | .indexArr _ _ x i => [x, i]
  | .indexStr x i => [x, i]
  | .indexAgg _ _ _ x i => [x, i]
  | .extract x _ => [x]
  | .call f l => f :: l
  | .callS _ l => l
  | .len x => [x]
  | .lenStr x => [x]
  | .append _ _ x y => [x, y]
  | .copy _ x y => [x, y]
  | .clear _ _ x => [x]
  | .min x l => x :: l
  | .max x l => x :: l
  | .tomb _ x => [x]
  | .upd _ _ x v => [x, v]

def dstPlain (bv : List Nat) (d : Option Nat) : Bool := match d with | some y => !memN y bv | none => true

def guardPlain (ks : List LK) (g : Option (Nat × Bool)) : Bool :=
  match g with
  | none => true
  | some (j, _) => (match ks[j]? with | some .plain => true | _ => false)

/-- An operand as the address of a taken variable. -/
def asBox (bv : List Nat) (ks : List LK) (c : Curs) : RX → Option (Nat × Nat × Option (Nat × Bool))
  | .var x => if memN x bv && !c.fresh x then some (x, 0, none) else none
  | .loc j => (match ks[j]? with | some (.addr x off g) => some (x, off, g) | _ => none)
  | .k _ => none

def LK.names (x : Nat) : LK → Bool
  | .addr y _ _ => y == x
  | _ => false

def optPlain (bv : List Nat) (ks : List LK) (c : Curs) (o : ROper) : Option (ROper × LK × Curs) :=
  if o.op.rxs.all (plainRX bv ks) && dstPlain bv o.dst && guardPlain ks o.guard then some (o, .plain, c) else none

def optMake (bv : List Nat) (ks : List LK) (c : Curs) (i : Nat) (o : ROper) (e : Nat) (v : RX) : Option (ROper × LK × Curs) :=
  match o.dst with
  | some x =>
    if memN x bv then
      if o.guard.isNone && plainRX bv ks v && !c.has x && !(ks.any (LK.names x)) then some ({ op := .tomb e v, guard := none, dst := some x, free := o.free }, .addr x 0 none, (x, .loc i, true) :: c) else none
    else optPlain bv ks c o
  | none => optPlain bv ks c o

def sameGuard (g h : Option (Nat × Bool)) : Bool :=
  match g, h with
  | none, _ => true
  | some (i, b), some (j, b') => i == j && b == b'
  | _, _ => false

/-- Where a load beside a store reads: a taken variable's place is no other's. -/
def apRX (bv : List Nat) (c : Curs) : RX → RX
  | .var x => if memN x bv && !c.fresh x then c.get x else .var x
  | r => r

def apOk (bv : List Nat) (ks : List LK) (c : Curs) : RX → Bool
  | .var x => !memN x bv || !c.fresh x
  | r => plainRX bv ks r

def optOper (bv : List Nat) (ks : List LK) (c : Curs) (i : Nat) (o : ROper) : Option (ROper × LK × Curs) :=
  match o.op with
  | .alloc e z => optMake bv ks c i o e (.k (.agg z))
  | .box e v => optMake bv ks c i o e v
  | .load sz p =>
    match asBox bv ks c p with
    | some (x, off, g) => if sameGuard g o.guard && dstPlain bv o.dst && guardPlain ks o.guard then some ({ o with op := .field off sz (c.get x) }, .plain, c) else none
    | none => optPlain bv ks c o
  | .fieldAddr off p =>
    match asBox bv ks c p with
    | some (x, off', g) => if sameGuard g o.guard && o.dst.isNone && guardPlain ks o.guard then some ({ o with op := .field 0 none (c.get x) }, .addr x (off' + off) o.guard, c) else none
    | none => optPlain bv ks c o
  | .store n p v ap =>
    match asBox bv ks c p with
    | some (x, off, g) => if g.isNone && o.guard.isNone && o.dst.isNone && ap.isEmpty && plainRX bv ks v then some ({ op := .upd n off (c.get x) v, guard := none, dst := some x, free := o.free }, .no, (x, .loc i, c.fresh x) :: c) else none
    | none =>
      if plainRX bv ks p && plainRX bv ks v && dstPlain bv o.dst && guardPlain ks o.guard && ap.all (apOk bv ks c) then some ({ o with op := .store n p v (ap.map (apRX bv c)) }, .plain, c) else none
  | _ => optPlain bv ks c o

def optOps (bv : List Nat) : List ROper → List LK → Curs → Option (List ROper)
  | [], _, _ => some []
  | o :: l, ks, c =>
    match optOper bv ks c ks.length o with
    | some (o', k, c') => (optOps bv l (ks ++ [k]) c').map (o' :: ·)
    | none => none

def optCode (bv : List Nat) : RCode → Option RCode
  | .ops l => (optOps bv l [] []).map .ops
  | .seq a b =>
    match optCode bv a, optCode bv b with
    | some a, some b => some (.seq a b)
    | _, _ => none
  | .cond x a b =>
    if plainRX bv [] x then
      match optCode bv a, optCode bv b with
      | some a, some b => some (.cond x a b)
      | _, _ => none
    else none
  | .block id c => (optCode bv c).map (.block id)
  | .loop c => (optCode bv c).map .loop
  | c => some c

def optRes (bv : List Nat) : RRes → Option RRes
  | .var x => if memN x bv then none else some (.var x)
  | .cell x sz => if memN x bv then some (.part x sz) else some (.cell x sz)
  | .part x sz => if memN x bv then none else some (.part x sz)

def optResL (bv : List Nat) : List RRes → Option (List RRes)
  | [] => some []
  | r :: l =>
    match optRes bv r, optResL bv l with
    | some a, some b => some (a :: b)
    | _, _ => none

def optFuncW (bv : List Nat) (f : RFunc) : Option RFunc :=
  if bv.all (fun x => decide (f.nargs ≤ x) && decide (x < f.nvars)) && decide (f.nargs ≤ f.nvars) then
    match optResL bv f.res, optCode bv f.body with
    | some r, some c => some { f with res := r, body := c }
    | _, _ => none
  else none

def RCode.made : RCode → List Nat
  | .ops l => l.filterMap fun o => match o.op with | .alloc .. => o.dst | .box .. => o.dst | _ => none
  | .seq a b => a.made ++ b.made
  | .cond _ a b => a.made ++ b.made
  | .block _ c => c.made
  | .loop c => c.made
  | _ => []

def optFunc (f : RFunc) : Option RFunc :=
  let bv := (dedup [] f.body.made).filter fun x => (optFuncW [x] f).isSome
  match optFuncW bv f with
  | some g => some g
  | none => optFuncW [] f

/-- The table of the functions, with such variables taken out. -/
def tableO (P : Program) (pr : Nat → Option Prim) (f : Nat) : Option RFunc := (table P pr f).bind optFunc

/-! ### The heaps -/

def Tomb (H : Heap) (b : Nat) : Prop := ∃ k, H[b]? = some k ∧ k.live = false ∧ k.kid = none

structure Le (HB HA : Heap) : Prop where
  len : HB.length = HA.length
  get : ∀ b : Nat, HB[b]? = HA[b]? ∨ (Tomb HB b ∧ ∃ k k', HB[b]? = some k ∧ HA[b]? = some k' ∧ k.e = k'.e)

theorem Le.refl (H : Heap) : Le H H := ⟨rfl, fun _ => .inl rfl⟩

theorem Tomb.not_live {H : Heap} {b : Nat} {k : Blk} (h : Tomb H b) (hg : H[b]? = some k) : k.live = false ∧ k.kid = none := by
  obtain ⟨k', h1, h2⟩ := h; rw [hg] at h1; cases h1; exact h2

theorem Tomb.act {H : Heap} {b : Nat} (h : Tomb H b) : H.act b = none := by
  obtain ⟨k, h1, h2, h3⟩ := h
  unfold Heap.act; rw [h1]; simp [h2, Heap.rev, h3]

theorem Le.live {HB HA : Heap} (h : Le HB HA) {b : Nat} {k : Blk} (hg : HB[b]? = some k) (hn : k.live = true ∨ k.kid ≠ none) : HA[b]? = some k := by
  rcases h.get b with e | ⟨t, _⟩
  · rw [← e]; exact hg
  · have := t.not_live hg
    rcases hn with hn | hn
    · rw [this.1] at hn; simp at hn
    · exact absurd this.2 hn

theorem Le.blk {HB HA : Heap} (h : Le HB HA) {b : Nat} {k : Blk} (hb : HB.blk b = some k) : HA.blk b = some k := by
  obtain ⟨_, hl, hg⟩ := blk_act hb
  have := h.live hg (.inl hl)
  unfold Heap.blk; rw [this]; simp [hl]

theorem Le.rev {HB HA : Heap} (h : Le HB HA) {k : Blk} {c : Nat} (hr : HB.rev k = some c) : HA.rev k = some c := by
  obtain ⟨hd, hk⟩ := rev_kid hr
  unfold Heap.rev at hr ⊢
  simp only [hd, hk] at hr ⊢
  cases hc : HB[c]? with
  | none => simp [hc] at hr
  | some kc =>
    simp only [hc] at hr
    have hl : kc.live = true := by
      by_cases h1 : (kc.live && kc.clean) = true
      · simp only [Bool.and_eq_true] at h1; exact h1.1
      · simp [h1] at hr
    rw [h.live hc (.inl hl)]; exact hr

theorem Le.act {HB HA : Heap} (h : Le HB HA) {b : Nat} {k : Blk} (ha : HB.act b = some k) : HA.act b = some k := by
  have hg := act_get ha
  have hcase : k.live = true ∨ ∃ c, HB.rev k = some c := by
    unfold Heap.act at ha
    rw [hg] at ha
    by_cases hl : k.live = true
    · exact .inl hl
    · simp only [hl, Bool.false_or] at ha
      split at ha
      · rename_i hr; exact .inr (Option.isSome_iff_exists.1 hr)
      · simp at ha
  rcases hcase with hl | ⟨c, hr⟩
  · exact act_of (h.live hg (.inl hl)) (.inl hl)
  · exact act_of (h.live hg (.inr (by rw [(rev_kid hr).2]; simp))) (.inr (by rw [h.rev hr]; rfl))

/-- The two runs' heaps stay alike, and what only the one has is left alone. -/
structure Mono (HB HA HB' HA' : Heap) : Prop where
  le : Le HB' HA'
  len : HB.length ≤ HB'.length
  fr : ∀ b, Tomb HB b → HA'[b]? = HA[b]? ∧ Tomb HB' b

theorem Mono.refl {HB HA : Heap} (h : Le HB HA) : Mono HB HA HB HA := ⟨h, Nat.le_refl _, fun b t => ⟨rfl, t⟩⟩

theorem Mono.trans {HB HA HB1 HA1 HB2 HA2 : Heap} (a : Mono HB HA HB1 HA1) (b : Mono HB1 HA1 HB2 HA2) : Mono HB HA HB2 HA2 :=
  ⟨b.le, Nat.le_trans a.len b.len, fun x t => ⟨(b.fr x (a.fr x t).2).1.trans (a.fr x t).1, (b.fr x (a.fr x t).2).2⟩⟩

theorem Tomb.lt {H : Heap} {b : Nat} (h : Tomb H b) : b < H.length := by obtain ⟨k, h1, _⟩ := h; exact get_lt h1

theorem Mono.set {HB HA : Heap} (h : Le HB HA) {b : Nat} {k : Blk} (hn : ¬ Tomb HB b) : Mono HB HA (HB.set b k) (HA.set b k) := by
  have hg : ∀ x, x ≠ b → (HB.set b k)[x]? = HB[x]? ∧ (HA.set b k)[x]? = HA[x]? := fun x hx => ⟨List.getElem?_set_ne (by omega), List.getElem?_set_ne (by omega)⟩
  refine ⟨⟨by simp [h.len], fun x => ?_⟩, by simp, fun x t => ?_⟩
  · by_cases e : x = b
    · subst e
      left
      by_cases hl : x < HB.length
      · rw [List.getElem?_set_self hl, List.getElem?_set_self (by rw [← h.len]; exact hl)]
      · rw [List.getElem?_eq_none (by simp; omega), List.getElem?_eq_none (by simp; have := h.len; omega)]
    · rw [(hg x e).1, (hg x e).2]
      rcases h.get x with e1 | ⟨⟨k0, t1, t2⟩, e2⟩
      · exact .inl e1
      · exact .inr ⟨⟨k0, by rw [(hg x e).1]; exact t1, t2⟩, e2⟩
  · have e : x ≠ b := fun e => hn (e ▸ t)
    obtain ⟨k0, t1, t2⟩ := t
    exact ⟨(hg x e).2, k0, by rw [(hg x e).1]; exact t1, t2⟩

theorem Mono.push {HB HA : Heap} (h : Le HB HA) (k : Blk) : Mono HB HA (HB ++ [k]) (HA ++ [k]) := by
  refine ⟨⟨by simp [h.len], fun x => ?_⟩, by simp, fun x t => ?_⟩
  · by_cases hl : x < HB.length
    · rw [List.getElem?_append_left hl, List.getElem?_append_left (by rw [← h.len]; exact hl)]
      rcases h.get x with e1 | ⟨⟨k0, t1, t2⟩, e2⟩
      · exact .inl e1
      · exact .inr ⟨⟨k0, by rw [List.getElem?_append_left hl]; exact t1, t2⟩, e2⟩
    · left
      rw [List.getElem?_append_right (by omega), List.getElem?_append_right (by have := h.len; omega), h.len]
  · have hl := t.lt
    obtain ⟨k0, t1, t2⟩ := t
    exact ⟨by rw [List.getElem?_append_left (by rw [← h.len]; exact hl)], k0, by rw [List.getElem?_append_left hl]; exact t1, t2⟩

theorem not_tomb_act {H : Heap} {b : Nat} {k : Blk} (h : H.act b = some k) : ¬ Tomb H b := fun t => by rw [t.act] at h; simp at h

theorem Mono.kill {HB HA : Heap} (h : Le HB HA) {c : Nat} (hn : ∃ kc, HB[c]? = some kc ∧ kc.live = true) : Mono HB HA (HB.kill c) (HA.kill c) := by
  obtain ⟨kc, h1, h2⟩ := hn
  unfold Heap.kill
  rw [h1, h.live h1 (.inl h2)]
  exact Mono.set h fun t => by have := (t.not_live h1).1; rw [h2] at this; simp at this

theorem rput_mono {HB HA : Heap} (h : Le HB HA) {fl b off : Nat} {cs : List AV} {H' : Heap} (hp : rput fl HB b off cs = some H') : ∃ HA', rput fl HA b off cs = some HA' ∧ Mono HB HA H' HA' := by
  unfold rput at hp ⊢
  split at hp
  · rename_i k hk
    rw [h.blk hk]
    simp only
    split at hp
    · rename_i hc
      rw [if_pos hc]
      simp only [Option.some.injEq] at hp
      subst hp
      exact ⟨_, rfl, Mono.set h (not_tomb_act (blk_act hk).1)⟩
    · simp at hp
  · simp at hp

theorem apartB_mono {HB HA : Heap} (h : Le HB HA) {b : Nat} : ∀ {l : List AV}, apartB HB b l = true → apartB HA b l = true
  | [], _ => rfl
  | .ptr b' o' :: l, hl => by
    simp only [apartB, Bool.and_eq_true] at hl ⊢
    refine ⟨⟨hl.1.1, ?_⟩, apartB_mono h hl.2⟩
    have h2 := hl.1.2
    unfold notKid at h2 ⊢
    split at h2
    · rename_i k hk; rw [h.act hk]; exact h2
    · cases h2
  | .int .. :: _, h => by simp [apartB] at h
  | .bool _ :: _, h => by simp [apartB] at h
  | .str _ :: _, h => by simp [apartB] at h
  | .nilptr :: _, h => by simp [apartB] at h
  | .slice .. :: _, h => by simp [apartB] at h
  | .empty :: _, h => by simp [apartB] at h
  | .func .. :: _, h => by simp [apartB] at h
  | .nilfunc :: _, h => by simp [apartB] at h
  | .agg _ :: l, hl => by simp only [apartB] at hl ⊢; exact apartB_mono h hl
  | .tuple _ :: _, h => by simp [apartB] at h

theorem sliceCells_mono {HB HA : Heap} (h : Le HB HA) {e n : Nat} {v : AV} {xs : List AV} (hs : sliceCells HB e n v = some xs) : sliceCells HA e n v = some xs := by
  unfold sliceCells at hs ⊢
  split at hs
  · exact hs
  · split at hs
    · rename_i h0; rw [if_pos h0]; exact hs
    · rename_i h0
      rw [if_neg h0]
      split at hs
      · simp at hs
      · rename_i h1
        rw [if_neg h1]
        split at hs
        · rename_i k hk; rw [h.act hk]; exact hs
        · simp at hs
  · simp at hs

theorem rslice_mono {HB HA : Heap} (h : Le HB HA) {e : Nat} {x : AV} {lo hi mx : Option AV} {v : AV} (hs : rslice HB e x lo hi mx = some v) : rslice HA e x lo hi mx = some v := by
  have he : ∀ b : Nat, (HA[b]?).map (·.e) = (HB[b]?).map (·.e) := fun b => by
    rcases h.get b with e | ⟨_, k, k', h1, h2, h3⟩
    · rw [e]
    · rw [h1, h2]; simp [h3]
  have hup : ∀ (b off h' : Nat) (lim : Option Nat), upB HB e b off h' lo hi mx lim = true → upB HA e b off h' lo hi mx lim = true := fun b off h' lim hu => by
    unfold upB at hu ⊢
    simp only [Bool.and_eq_true] at hu ⊢
    refine ⟨hu.1, ?_⟩
    have hu2 := hu.2
    split at hu2
    · rename_i k hk; rw [h.act hk]; exact hu2
    · simp at hu2
  unfold rslice at hs ⊢
  simp only [he]
  split at hs
  · exact hs
  · split at hs
    · rename_i l h' m g1 g2 g3
      split at hs
      · rename_i hc
        rw [if_pos ⟨hc.1, hc.2.1.imp id (hup _ _ _ _), hc.2.2⟩]; exact hs
      · simp at hs
    · simp at hs
  · simp at hs

theorem rappendTop_mono {HB HA : Heap} (h : Le HB HA) {fl : Nat} {free : Bool} {e b off n k : Nat} {blk : Blk} {xs : List AV} {v : AV} {H' : Heap} (hn : ¬ Tomb HB b) (ha : rappendTop fl free e HB b off n k blk xs = some (v, H')) :
    ∃ HA', rappendTop fl free e HA b off n k blk xs = some (v, HA') ∧ Mono HB HA H' HA' := by
  unfold rappendTop at ha ⊢
  rw [← h.len]
  split at ha
  · rename_i hc
    rw [if_pos hc]
    simp only [Option.some.injEq, Prod.mk.injEq] at ha
    obtain ⟨rfl, rfl⟩ := ha
    have m1 := Mono.set h (k := { blk with live := false, kid := if free then some HB.length else none }) hn
    exact ⟨_, rfl, m1.trans (Mono.push m1.le _)⟩
  · simp at ha

theorem rappend_mono {HB HA : Heap} (h : Le HB HA) {fl : Nat} {free : Bool} {e bytes : Nat} {s : AV} {k : Nat} {xs : List AV} {v : AV} {H' : Heap} (ha : rappend fl free e bytes HB s k xs = some (v, H')) :
    ∃ HA', rappend fl free e bytes HA s k xs = some (v, HA') ∧ Mono HB HA H' HA' := by
  unfold rappend at ha ⊢
  split at ha
  · rename_i h0
    rw [if_pos h0]
    split at ha <;> simp only [Option.some.injEq, Prod.mk.injEq, reduceCtorEq] at ha
    all_goals (obtain ⟨rfl, rfl⟩ := ha; exact ⟨_, rfl, Mono.refl h⟩)
  · rename_i h0
    rw [if_neg h0]
    split at ha
    · split at ha
      · rename_i hc
        rw [if_pos hc, ← h.len]
        simp only [Option.some.injEq, Prod.mk.injEq] at ha
        obtain ⟨rfl, rfl⟩ := ha
        exact ⟨_, rfl, Mono.push h _⟩
      · simp at ha
    · split at ha
      · simp at ha
      · rename_i blk hact
        have hnt := not_tomb_act hact
        rw [h.act hact]
        simp only
        split at ha
        · rename_i hc
          rw [if_pos hc]
          split at ha
          · rename_i hl
            rw [if_pos hl]
            split at ha
            · split at ha
              · rename_i hle
                rw [if_pos hle]
                split at ha
                · rename_i hf
                  rw [if_pos hf]
                  simp only [Option.map_eq_some_iff, Prod.mk.injEq] at ha ⊢
                  obtain ⟨H1, hp, rfl, rfl⟩ := ha
                  obtain ⟨HA1, p1, p2⟩ := rput_mono h hp
                  exact ⟨HA1, ⟨HA1, p1, rfl, rfl⟩, p2⟩
                · simp at ha
              · rename_i hle
                rw [if_neg hle, ← h.len]
                simp only [Option.some.injEq, Prod.mk.injEq] at ha
                obtain ⟨rfl, rfl⟩ := ha
                exact ⟨_, rfl, Mono.push h _⟩
            · split at ha
              · rename_i he
                rw [if_pos he]
                exact rappendTop_mono h hnt ha
              · rename_i he
                rw [if_neg he]
                split at ha
                · rename_i hf
                  rw [if_pos hf]
                  simp only [Option.map_eq_some_iff, Prod.mk.injEq] at ha ⊢
                  obtain ⟨H1, hp, rfl, rfl⟩ := ha
                  obtain ⟨HA1, p1, p2⟩ := rput_mono h hp
                  exact ⟨HA1, ⟨HA1, p1, rfl, rfl⟩, p2⟩
                · simp at ha
          · rename_i hl
            rw [if_neg hl]
            split at ha
            · rename_i c hrev
              have hrA := h.rev hrev
              split at ha
              · rename_i hcd
                simp only [hrA]
                rw [if_pos hcd]
                have hkc : ∃ kc, HB[c]? = some kc ∧ kc.live = true := by
                  obtain ⟨hd, hk⟩ := rev_kid hrev
                  unfold Heap.rev at hrev
                  simp only [hd, hk] at hrev
                  cases hc : HB[c]? with
                  | none => simp [hc] at hrev
                  | some kc =>
                    refine ⟨kc, rfl, ?_⟩
                    simp only [hc] at hrev
                    by_cases h1 : (kc.live && kc.clean) = true
                    · simp only [Bool.and_eq_true] at h1; exact h1.1
                    · simp [h1] at hrev
                have m1 := Mono.kill h hkc
                have hnt' : ¬ Tomb (HB.kill c) _ := fun t => by
                  obtain ⟨k0, t1, t2, t3⟩ := t
                  rw [kill_ne (Ne.symm (rev_ne (act_get hact) hrev).1), act_get hact] at t1
                  cases t1
                  have := (rev_kid hrev).2
                  rw [t3] at this; simp at this
                obtain ⟨HA', a1, a2⟩ := rappendTop_mono m1.le hnt' ha
                exact ⟨HA', a1, m1.trans a2⟩
              · simp at ha
            · simp at ha
        · simp at ha
    · simp at ha

/-- A call in the one table, and in the other. -/
def CallLe (callB callA : Nat → Nat → List AV → Heap → Option (AV × Heap)) : Prop := ∀ fl g args HB v HB' HA, fl ≤ HB.length → callB fl g args HB = some (v, HB') → Le HB HA → ∃ HA', callA fl g args HA = some (v, HA') ∧ Mono HB HA HB' HA'

theorem rop_mono {callB callA : Nat → Nat → List AV → Heap → Option (AV × Heap)} (hcall : CallLe callB callA) {fl : Nat} {free : Bool} {X : RX → AV} {HB HA HB' : Heap} (hfl : fl ≤ HB.length) (h : Le HB HA) {r : ROp} {v : AV}
    (hr : rop callB fl free X HB r = some (v, HB')) : ∃ HA', rop callA fl free X HA r = some (v, HA') ∧ Mono HB HA HB' HA' := by
  by_cases hp : pureR r = true
  · obtain ⟨rfl, hp2⟩ := rop_pure hp hr
    have he : ∀ b : Nat, (HA[b]?).map (·.e) = (HB'[b]?).map (·.e) := fun b => by
      rcases h.get b with e | ⟨_, k, k', h1, h2, h3⟩
      · rw [e]
      · rw [h1, h2]; simp [h3]
    have := hp2 HA he
    refine ⟨HA, ?_, Mono.refl h⟩
    cases r <;> first | exact this | simp [pureR] at hp
  · cases r <;> simp only [pureR, not_true_eq_false] at hp <;> simp only [rop, reduceCtorEq] at hr ⊢
    case alloc => rw [← h.len]; simp only [Option.some.injEq, Prod.mk.injEq] at hr; obtain ⟨rfl, rfl⟩ := hr; exact ⟨_, rfl, Mono.push h _⟩
    case box => rw [← h.len]; simp only [Option.some.injEq, Prod.mk.injEq] at hr; obtain ⟨rfl, rfl⟩ := hr; exact ⟨_, rfl, Mono.push h _⟩
    case slice =>
      simp only [Option.map_eq_some_iff, Prod.mk.injEq] at hr ⊢
      obtain ⟨v0, hv, rfl, rfl⟩ := hr
      exact ⟨HA, ⟨v0, rslice_mono h hv, rfl, rfl⟩, Mono.refl h⟩
    case buildSlice =>
      rw [← h.len]
      simp only [Option.map_eq_some_iff, Prod.mk.injEq] at hr ⊢
      obtain ⟨cs, h1, rfl, rfl⟩ := hr
      exact ⟨_, ⟨cs, h1, rfl, rfl⟩, Mono.push h _⟩
    case load =>
      split at hr
      · rename_i hx
        simp only [Option.map_eq_some_iff, Prod.mk.injEq] at hr ⊢
        obtain ⟨v0, h1, rfl, rfl⟩ := hr
        refine ⟨HA, ⟨v0, ?_, rfl, rfl⟩, Mono.refl h⟩
        unfold rload at h1 ⊢
        split at h1
        · rename_i k hk; rw [h.act hk]; exact h1
        · simp at h1
      · simp at hr
    case store =>
      split at hr
      · rename_i hx
        split at hr
        · rename_i hc
          rw [if_pos ⟨hc.1, apartB_mono h hc.2⟩]
          simp only [Option.map_eq_some_iff, Prod.mk.injEq] at hr ⊢
          obtain ⟨H1, h1, rfl, rfl⟩ := hr
          obtain ⟨HA1, p1, p2⟩ := rput_mono h h1
          exact ⟨HA1, ⟨HA1, p1, rfl, rfl⟩, p2⟩
        · simp at hr
      · simp at hr
    case makeSlice =>
      rw [← h.len]
      split at hr
      · split at hr
        · rename_i hc
          simp only [Option.some.injEq, Prod.mk.injEq] at hr
          obtain ⟨rfl, rfl⟩ := hr
          rw [if_pos hc]
          exact ⟨_, rfl, Mono.push h _⟩
        · simp at hr
      · simp at hr
    case call f args =>
      rw [← h.len]
      split at hr
      · exact hcall _ _ _ _ _ _ _ (by split <;> omega) hr h
      · simp at hr
    case callS f args =>
      rw [← h.len]
      exact hcall _ _ _ _ _ _ _ (by split <;> omega) hr h
    case append =>
      split at hr
      · simp only [Option.bind_eq_some_iff] at hr ⊢
        obtain ⟨xs, h1, h2⟩ := hr
        obtain ⟨HA', a1, a2⟩ := rappend_mono h h2
        exact ⟨HA', ⟨xs, sliceCells_mono h h1, a1⟩, a2⟩
      · simp at hr
    case copy =>
      split at hr
      · split at hr
        · rename_i h0
          rw [if_pos h0]
          simp only [Option.some.injEq, Prod.mk.injEq] at hr; obtain ⟨rfl, rfl⟩ := hr
          exact ⟨HA, rfl, Mono.refl h⟩
        · rename_i h0
          rw [if_neg h0]
          split at hr
          · simp only [Option.bind_eq_some_iff, Option.map_eq_some_iff, Prod.mk.injEq] at hr ⊢
            obtain ⟨xs, h1, H1, h2, rfl, rfl⟩ := hr
            obtain ⟨HA1, p1, p2⟩ := rput_mono h h2
            exact ⟨HA1, ⟨xs, sliceCells_mono h h1, HA1, p1, rfl, rfl⟩, p2⟩
          · simp at hr
      · simp at hr
    case clear =>
      split at hr
      · simp only [Option.some.injEq, Prod.mk.injEq] at hr; obtain ⟨rfl, rfl⟩ := hr
        exact ⟨HA, rfl, Mono.refl h⟩
      · split at hr
        · rename_i h0
          rw [if_pos h0]
          simp only [Option.some.injEq, Prod.mk.injEq] at hr; obtain ⟨rfl, rfl⟩ := hr
          exact ⟨HA, rfl, Mono.refl h⟩
        · rename_i h0
          rw [if_neg h0]
          simp only [Option.map_eq_some_iff, Prod.mk.injEq] at hr ⊢
          obtain ⟨H1, h2, rfl, rfl⟩ := hr
          obtain ⟨HA1, p1, p2⟩ := rput_mono h h2
          exact ⟨HA1, ⟨HA1, p1, rfl, rfl⟩, p2⟩
      · simp at hr
    case tomb => simp only [Option.some.injEq, Prod.mk.injEq] at hr; obtain ⟨rfl, rfl⟩ := hr; exact ⟨_, rfl, Mono.push h _⟩

end Go.RM

/-
  The pass keeps what the code computes.
-/
namespace Go.RM
set_option linter.unusedSimpArgs false
set_option linter.unusedVariables false

theorem rop_congr {call : Nat → Nat → List AV → Heap → Option (AV × Heap)} {fl : Nat} {free : Bool} {X Y : RX → AV} {H : Heap} {r : ROp} (h : ∀ rx ∈ r.rxs, X rx = Y rx) : rop call fl free X H r = rop call fl free Y H r := by
  have hm : ∀ {l : List RX}, (∀ rx ∈ l, X rx = Y rx) → l.map X = l.map Y := fun h => List.map_congr_left h
  have hm3 : ∀ {l : List (Nat × Nat × RX)}, (∀ rx ∈ l.map (·.2.2), X rx = Y rx) → (l.map fun p => (p.1, p.2.1, X p.2.2)) = (l.map fun p => (p.1, p.2.1, Y p.2.2)) := fun h =>
    List.map_congr_left fun p hp => by rw [h p.2.2 (List.mem_map.2 ⟨p, hp, rfl⟩)]
  have ho : ∀ {x : Option RX}, (∀ rx ∈ x.toList, X rx = Y rx) → x.map X = x.map Y := fun {x} h => by
    cases x with
    | none => rfl
    | some a => simp [h a (by simp)]
  cases r <;> simp only [ROp.rxs] at h <;> simp only [rop]
  case move => rw [h _ (by simp)]
  case pick => rw [h _ (by simp), h _ (by simp), h _ (by simp)]
  case box => rw [h _ (by simp)]
  case build => rw [hm3 h]
  case buildSlice => rw [hm3 h]
  case load => rw [h _ (by simp)]
  case store n x v ap => rw [h x (by simp), h v (by simp), hm (l := ap) fun rx hrx => h rx (by simp [hrx])]
  case nilCheck => rw [h _ (by simp)]
  case bin => rw [h _ (by simp), h _ (by simp)]
  case un => rw [h _ (by simp)]
  case convInt => rw [h _ (by simp)]
  case makeFunc => rw [hm h]
  case makeSlice => rw [h _ (by simp), h _ (by simp)]
  case slice e x lo hi mx => rw [h x (by simp), ho (x := lo) fun rx hrx => h rx (by simp at hrx ⊢; simp [hrx]), ho (x := hi) fun rx hrx => h rx (by simp at hrx ⊢; simp [hrx]), ho (x := mx) fun rx hrx => h rx (by simp at hrx ⊢; simp [hrx])]
  case sliceStr x lo hi => rw [h x (by simp), ho (x := lo) fun rx hrx => h rx (by simp at hrx ⊢; simp [hrx]), ho (x := hi) fun rx hrx => h rx (by simp at hrx ⊢; simp [hrx])]
  case fieldAddr => rw [h _ (by simp)]
  case field => rw [h _ (by simp)]
  case indexAddr => rw [h _ (by simp), h _ (by simp)]
  case indexArr => rw [h _ (by simp), h _ (by simp)]
  case indexStr => rw [h _ (by simp), h _ (by simp)]
  case indexAgg => rw [h _ (by simp), h _ (by simp)]
  case extract => rw [h _ (by simp)]
  case call f l => rw [h f (by simp), hm (l := l) fun rx hrx => h rx (by simp [hrx])]
  case callS f l => rw [hm h]
  case len => rw [h _ (by simp)]
  case lenStr => rw [h _ (by simp)]
  case append => rw [h _ (by simp), h _ (by simp)]
  case copy => rw [h _ (by simp), h _ (by simp)]
  case clear => rw [h _ (by simp)]
  case min x l => rw [h x (by simp), hm (l := l) fun rx hrx => h rx (by simp [hrx])]
  case max x l => rw [h x (by simp), hm (l := l) fun rx hrx => h rx (by simp [hrx])]
  case tomb => rw [h _ (by simp)]
  case upd => rw [h _ (by simp), h _ (by simp)]

structure Rel (bv : List Nat) (fl : Nat) (HB0 HA0 : Heap) (EA : List AV) (HA : Heap) (EB : List AV) (HB : Heap) : Prop where
  len : EA.length = EB.length
  lt : ∀ x ∈ bv, x < EA.length
  fl0 : fl ≤ HB0.length
  hl : HB0.length ≤ HB.length
  le : Le HB HA
  fr : ∀ b, Tomb HB0 b → HA[b]? = HA0[b]? ∧ Tomb HB b
  eq : ∀ y, y ∉ bv → EA.getD y .undef = EB.getD y .undef
  box : ∀ x ∈ bv, (EA.getD x .undef = .undef ∧ EB.getD x .undef = .undef) ∨ ∃ b k, EA.getD x .undef = .ptr b 0 ∧ Tomb HB b ∧ HB0.length ≤ b ∧ HA[b]? = some k ∧ k.live = true ∧ k.kid = none ∧ EB.getD x .undef = .agg k.cells
  inj : ∀ x ∈ bv, ∀ x' ∈ bv, ∀ b, EA.getD x .undef = .ptr b 0 → EA.getD x' .undef = .ptr b 0 → x = x'

structure IL (bv : List Nat) (fl : Nat) (HB0 HA0 : Heap) (EA0 EB0 LA LB EA : List AV) (HA : Heap) (EB : List AV) (HB : Heap) (ks : List LK) (c : Curs) : Prop where
  rel : Rel bv fl HB0 HA0 EA HA EB HB
  la : LA.length = ks.length
  lb : LB.length = ks.length
  plain : ∀ j : Nat, ks[j]? = some LK.plain → LA[j]? = LB[j]?
  eq0 : ∀ y, y ∉ bv → EA0.getD y .undef = EB0.getD y .undef
  cur : ∀ x ∈ bv, RX.ev LB EB0 (c.get x) = EB.getD x .undef
  curlt : ∀ x i, c.get x = .loc i → i < ks.length
  old : ∀ x ∈ bv, c.fresh x = false → EA.getD x .undef = EA0.getD x .undef
  addr : ∀ (j x off : Nat) (g : Option (Nat × Bool)), ks[j]? = some (LK.addr x off g) → x ∈ bv ∧ guardPlain ks g = true ∧ (wantedB g LA = true → ∃ b, EA.getD x .undef = .ptr b 0 ∧ LA[j]? = some (AV.ptr b off))

theorem not_mem_of {bv : List Nat} {y : Nat} (h : (!memN y bv) = true) : y ∉ bv := fun hm => by rw [memN_iff.2 hm] at h; simp at h

theorem snoc_get {α : Type} {l : List α} {a : α} {j : Nat} {v : α} (h : (l ++ [a])[j]? = some v) : l[j]? = some v ∨ (j = l.length ∧ a = v) := by
  by_cases e : j < l.length
  · rw [List.getElem?_append_left e] at h; exact .inl h
  · rw [List.getElem?_append_right (by omega)] at h
    cases hq : j - l.length with
    | zero => rw [hq] at h; simp at h; exact .inr ⟨by omega, h⟩
    | succ q => rw [hq] at h; simp at h

theorem snoc_lt {α : Type} {l : List α} (a : α) {j : Nat} (h : j < l.length) : (l ++ [a])[j]? = l[j]? := List.getElem?_append_left h
theorem snoc_end {α : Type} (l : List α) (a : α) : (l ++ [a])[l.length]? = some a := by rw [List.getElem?_append_right (Nat.le_refl _)]; simp

theorem guard_lt {ks : List LK} {j : Nat} {b : Bool} (h : guardPlain ks (some (j, b)) = true) : ks[j]? = some .plain := by
  simp only [guardPlain] at h
  split at h
  · assumption
  · simp at h

theorem guard_snoc {ks : List LK} {g : Option (Nat × Bool)} (h : guardPlain ks g = true) (k : LK) : guardPlain (ks ++ [k]) g = true := by
  cases g with
  | none => rfl
  | some p =>
    obtain ⟨j, b⟩ := p
    have := guard_lt h
    simp only [guardPlain]
    rw [snoc_lt k (List.getElem?_eq_some_iff.1 this).1, this]

section
variable {bv : List Nat} {fl : Nat} {HB0 HA0 : Heap} {EA0 EB0 LA LB EA : List AV} {HA : Heap} {EB : List AV} {HB : Heap} {ks : List LK} {c : Curs}

theorem IL.wanted (I : IL bv fl HB0 HA0 EA0 EB0 LA LB EA HA EB HB ks c) {g : Option (Nat × Bool)} (h : guardPlain ks g = true) : wantedB g LA = wantedB g LB := by
  cases g with
  | none => rfl
  | some p =>
    obtain ⟨j, b⟩ := p
    simp only [wantedB, I.plain j (guard_lt h)]

theorem wanted_snoc {LA : List AV} (hl : LA.length = ks.length) {g : Option (Nat × Bool)} (h : guardPlain ks g = true) (v : AV) : wantedB g (LA ++ [v]) = wantedB g LA := by
  cases g with
  | none => rfl
  | some p =>
    obtain ⟨j, b⟩ := p
    have := (List.getElem?_eq_some_iff.1 (guard_lt h)).1
    simp only [wantedB, snoc_lt v (show j < LA.length by omega)]

theorem IL.plainX (I : IL bv fl HB0 HA0 EA0 EB0 LA LB EA HA EB HB ks c) {rx : RX} (h : plainRX bv ks rx = true) : RX.ev LA EA0 rx = RX.ev LB EB0 rx := by
  cases rx with
  | var y => exact I.eq0 y (not_mem_of h)
  | k v => rfl
  | loc j =>
    simp only [plainRX] at h
    split at h
    · rename_i hk
      simp only [RX.ev, List.getD_eq_getElem?_getD, I.plain j hk]
    · simp at h

theorem ev_snoc {LB : List AV} {rx : RX} {n : Nat} (hl : LB.length = n) (h : ∀ i, rx = .loc i → i < n) (v : AV) : RX.ev (LB ++ [v]) EB0 rx = RX.ev LB EB0 rx := by
  cases rx with
  | var y => rfl
  | k v => rfl
  | loc j =>
    have := h j rfl
    simp only [RX.ev, List.getD_eq_getElem?_getD, snoc_lt v (show j < LB.length by omega)]

theorem Rel.mono (R : Rel bv fl HB0 HA0 EA HA EB HB) {HB' HA' : Heap} (M : Mono HB HA HB' HA') : Rel bv fl HB0 HA0 EA HA' EB HB' where
  len := R.len
  lt := R.lt
  fl0 := R.fl0
  hl := Nat.le_trans R.hl M.len
  le := M.le
  fr := fun b t => ⟨(M.fr b (R.fr b t).2).1.trans (R.fr b t).1, (M.fr b (R.fr b t).2).2⟩
  eq := R.eq
  box := fun x hx => by
    rcases R.box x hx with h | ⟨b, k, h1, h2, h3, h4, h5⟩
    · exact .inl h
    · exact .inr ⟨b, k, h1, (M.fr b h2).2, h3, by rw [(M.fr b h2).1]; exact h4, h5⟩
  inj := R.inj

theorem getD_set_eq {E : List AV} {x : Nat} {v : AV} (h : x < E.length) : (E.set x v).getD x .undef = v := by simp [h]
theorem getD_set_ne {E : List AV} {x y : Nat} {v : AV} (h : y ≠ x) : (E.set x v).getD y .undef = E.getD y .undef := by
  simp only [List.getD_eq_getElem?_getD, List.getElem?_set_ne (Ne.symm h)]

theorem putDst_plain {d : Option Nat} (hd : dstPlain bv d = true) {v : AV} {E : List AV} {x : Nat} (hx : x ∈ bv) : (putDst d v E).getD x .undef = E.getD x .undef := by
  refine putDst_ne fun e => ?_
  subst e
  exact not_mem_of hd hx

theorem Rel.put (R : Rel bv fl HB0 HA0 EA HA EB HB) {d : Option Nat} (hd : dstPlain bv d = true) (v : AV) : Rel bv fl HB0 HA0 (putDst d v EA) HA (putDst d v EB) HB where
  len := by rw [putDst_len, putDst_len]; exact R.len
  lt := fun x hx => by rw [putDst_len]; exact R.lt x hx
  fl0 := R.fl0
  hl := R.hl
  le := R.le
  fr := R.fr
  eq := fun y hy => by
    cases d with
    | none => exact R.eq y hy
    | some z =>
      by_cases e : y = z
      · subst e
        by_cases hl : y < EA.length
        · simp only [putDst]; rw [getD_set_eq hl, getD_set_eq (by rw [← R.len]; exact hl)]
        · have h1 := R.len
          simp only [putDst, List.getD_eq_getElem?_getD]
          rw [List.getElem?_eq_none (by simp; omega), List.getElem?_eq_none (by simp; omega)]
      · simp only [putDst]; rw [getD_set_ne e, getD_set_ne e]; exact R.eq y hy
  box := fun x hx => by rw [putDst_plain hd hx, putDst_plain hd hx]; exact R.box x hx
  inj := fun x hx x' hx' b => by rw [putDst_plain hd hx, putDst_plain hd hx']; exact R.inj x hx x' hx' b

/-- A step that leaves the taken variables alone; 'k' is the kind of the new local. -/
theorem IL.next (I : IL bv fl HB0 HA0 EA0 EB0 LA LB EA HA EB HB ks c) {HB' HA' : Heap} (M : Mono HB HA HB' HA') {d : Option Nat} (hd : dstPlain bv d = true) {vA v : AV} {k : LK} (hput : d ≠ none → vA = v)
    (hk1 : k = .plain → vA = v) (hk2 : ∀ x off g, k = .addr x off g → x ∈ bv ∧ guardPlain ks g = true ∧ (wantedB g LA = true → ∃ b, EA.getD x .undef = .ptr b 0 ∧ vA = .ptr b off)) :
    IL bv fl HB0 HA0 EA0 EB0 (LA ++ [vA]) (LB ++ [v]) (putDst d vA EA) HA' (putDst d v EB) HB' (ks ++ [k]) c := by
  have hE : ∀ x ∈ bv, (putDst d vA EA).getD x .undef = EA.getD x .undef := fun x hx => putDst_plain hd hx
  refine ⟨?_, by simp [I.la], by simp [I.lb], fun j hj => ?_, I.eq0, fun x hx => ?_, fun x i h => ?_, fun x hx hf => ?_, fun j x off g hj => ?_⟩
  · cases d with
    | none => exact I.rel.mono M
    | some y => rw [hput (by simp)]; exact (I.rel.mono M).put hd v
  · rcases snoc_get hj with h | ⟨h1, h2⟩
    · have := (List.getElem?_eq_some_iff.1 h).1
      rw [snoc_lt vA (by rw [I.la]; exact this), snoc_lt v (by rw [I.lb]; exact this)]
      exact I.plain j h
    · subst h1
      have e1 := snoc_end LA vA
      have e2 := snoc_end LB v
      rw [I.la] at e1; rw [I.lb] at e2
      rw [e1, e2, hk1 h2]
  · rw [ev_snoc I.lb (I.curlt x), I.cur x hx, putDst_plain hd hx]
  · have := I.curlt x i h; simp; omega
  · rw [hE x hx]; exact I.old x hx hf
  · rcases snoc_get hj with h | ⟨h1, h2⟩
    · obtain ⟨a1, a2, a3⟩ := I.addr j x off g h
      refine ⟨a1, guard_snoc a2 k, fun hw => ?_⟩
      rw [wanted_snoc I.la a2] at hw
      obtain ⟨b, b1, b2⟩ := a3 hw
      exact ⟨b, by rw [hE x a1]; exact b1, by rw [snoc_lt vA (by rw [I.la]; exact (List.getElem?_eq_some_iff.1 h).1)]; exact b2⟩
    · subst h1
      obtain ⟨a1, a2, a3⟩ := hk2 x off g h2
      refine ⟨a1, guard_snoc a2 k, fun hw => ?_⟩
      rw [wanted_snoc I.la a2] at hw
      obtain ⟨b, b1, rfl⟩ := a3 hw
      have e1 := snoc_end LA (AV.ptr b off)
      rw [I.la] at e1
      exact ⟨b, by rw [hE x a1]; exact b1, e1⟩

/-- A variable is made anew. -/
theorem IL.make (I : IL bv fl HB0 HA0 EA0 EB0 LA LB EA HA EB HB ks c) {x : Nat} (hx : x ∈ bv) (hc : c.has x = false) (hks : ks.any (LK.names x) = false) {cs : List AV} {e : Nat} :
    IL bv fl HB0 HA0 EA0 EB0 (LA ++ [.ptr HA.length 0]) (LB ++ [.agg cs]) (putDst (some x) (.ptr HA.length 0) EA) (HA ++ [{ cells := cs, e }]) (putDst (some x) (.agg cs) EB) (HB ++ [{ cells := [], e, live := false, clean := false }]) (ks ++ [.addr x 0 none]) ((x, .loc ks.length, true) :: c) := by
  have hlen := I.rel.le.len
  have hxl := I.rel.lt x hx
  have hgA : ∀ b : Nat, b < HA.length → (HA ++ [{ cells := cs, e := e : Blk }])[b]? = HA[b]? := fun b hb => List.getElem?_append_left hb
  have hgB : ∀ b : Nat, b < HB.length → (HB ++ [{ cells := [], e := e, live := false, clean := false : Blk }])[b]? = HB[b]? := fun b hb => List.getElem?_append_left hb
  have htB : ∀ b, Tomb HB b → Tomb (HB ++ [{ cells := [], e := e, live := false, clean := false : Blk }]) b := fun b t => by
    have := t.lt
    obtain ⟨k, t1, t2⟩ := t
    exact ⟨k, by rw [hgB b this]; exact t1, t2⟩
  have hnew : Tomb (HB ++ [{ cells := [], e := e, live := false, clean := false : Blk }]) HA.length := ⟨_, by rw [← hlen]; exact snoc_end _ _, rfl, rfl⟩
  have hnames : ∀ (j y off : Nat) (g : Option (Nat × Bool)), ks[j]? = some (LK.addr y off g) → y ≠ x := fun j y off g hj e => by
    subst e
    have : ks.any (LK.names y) = true := List.any_eq_true.2 ⟨_, List.mem_of_getElem? hj, by simp [LK.names]⟩
    rw [this] at hks; simp at hks
  have hEA : ∀ y, y ≠ x → (putDst (some x) (.ptr HA.length 0) EA).getD y .undef = EA.getD y .undef := fun y hy => getD_set_ne hy
  have hEB : ∀ y, y ≠ x → (putDst (some x) (.agg cs) EB).getD y .undef = EB.getD y .undef := fun y hy => getD_set_ne hy
  have hEAx : (putDst (some x) (.ptr HA.length 0) EA).getD x .undef = .ptr HA.length 0 := getD_set_eq hxl
  have hEBx : (putDst (some x) (.agg cs) EB).getD x .undef = .agg cs := getD_set_eq (by rw [← I.rel.len]; exact hxl)
  have hold : ∀ y ∈ bv, EA.getD y .undef ≠ .ptr HA.length 0 := fun y hy e => by
    rcases I.rel.box y hy with ⟨h, _⟩ | ⟨b, k, h1, h2, _⟩
    · rw [e] at h; simp [AV.undef] at h
    · rw [e] at h1; cases h1
      have := h2.lt; omega
  refine ⟨⟨by rw [putDst_len, putDst_len]; exact I.rel.len, fun y hy => by rw [putDst_len]; exact I.rel.lt y hy, I.rel.fl0, by have := I.rel.hl; simp; omega, ⟨by simp [hlen], fun b => ?_⟩, fun b t => ?_, fun y hy => ?_, fun y hy => ?_, fun y hy y' hy' b h1 h2 => ?_⟩,
    by simp [I.la], by simp [I.lb], fun j hj => ?_, I.eq0, fun y hy => ?_, fun y i h => ?_, fun y hy hf => ?_, fun j y off g hj => ?_⟩
  · by_cases hb : b < HB.length
    · rw [hgB b hb, hgA b (by omega)]
      rcases I.rel.le.get b with h | ⟨h1, h2⟩
      · exact .inl h
      · exact .inr ⟨htB b h1, h2⟩
    · by_cases hb2 : b = HB.length
      · subst hb2
        right
        exact ⟨by rw [hlen]; exact hnew, _, { cells := cs, e }, snoc_end _ _, by rw [hlen]; exact snoc_end _ _, rfl⟩
      · left
        rw [List.getElem?_eq_none (by simp; omega), List.getElem?_eq_none (by simp; omega)]
  · obtain ⟨f1, f2⟩ := I.rel.fr b t
    have := f2.lt
    exact ⟨by rw [hgA b (by omega)]; exact f1, htB b f2⟩
  · have hyx : y ≠ x := fun e => hy (e ▸ hx)
    rw [hEA y hyx, hEB y hyx]; exact I.rel.eq y hy
  · by_cases e : y = x
    · subst e
      exact .inr ⟨HA.length, { cells := cs, e }, hEAx, hnew, by have := I.rel.hl; omega, snoc_end _ _, rfl, rfl, hEBx⟩
    · rw [hEA y e, hEB y e]
      rcases I.rel.box y hy with h | ⟨b, k, h1, h2, h3, h4, h5⟩
      · exact .inl h
      · exact .inr ⟨b, k, h1, htB b h2, h3, by rw [hgA b (by have := h2.lt; omega)]; exact h4, h5⟩
  · by_cases e : y = x <;> by_cases e' : y' = x
    · rw [e, e']
    · exfalso
      rw [hEA y' e'] at h2
      rw [e, hEAx] at h1
      cases h1
      exact hold y' hy' h2
    · exfalso
      rw [hEA y e] at h1
      rw [e', hEAx] at h2
      cases h2
      exact hold y hy h1
    · rw [hEA y e] at h1; rw [hEA y' e'] at h2
      exact I.rel.inj y hy y' hy' b h1 h2
  · rcases snoc_get hj with h | ⟨_, h2⟩
    · have := (List.getElem?_eq_some_iff.1 h).1
      rw [snoc_lt _ (by rw [I.la]; exact this), snoc_lt _ (by rw [I.lb]; exact this)]
      exact I.plain j h
    · simp at h2
  · by_cases e : x = y
    · subst e
      have e2 := snoc_end LB (AV.agg cs)
      rw [I.lb] at e2
      simp only [Curs.get, if_true, RX.ev, List.getD_eq_getElem?_getD, e2, Option.getD_some]
      exact hEBx.symm
    · simp only [Curs.get, if_neg e]
      rw [ev_snoc I.lb (I.curlt y), I.cur y hy, hEB y (Ne.symm e)]
  · by_cases e : x = y
    · simp only [Curs.get, if_pos e, RX.loc.injEq] at h
      subst h; simp
    · simp only [Curs.get, if_neg e] at h
      have := I.curlt y i h; simp; omega
  · by_cases e : x = y
    · subst e; simp [Curs.fresh] at hf
    · simp only [Curs.fresh, if_neg e, Bool.false_or] at hf
      rw [hEA y (Ne.symm e)]; exact I.old y hy hf
  · rcases snoc_get hj with h | ⟨h1, h2⟩
    · obtain ⟨a1, a2, a3⟩ := I.addr j y off g h
      refine ⟨a1, guard_snoc a2 _, fun hw => ?_⟩
      rw [wanted_snoc I.la a2] at hw
      obtain ⟨b, b1, b2⟩ := a3 hw
      exact ⟨b, by rw [hEA y (hnames j y off g h)]; exact b1, by rw [snoc_lt _ (by rw [I.la]; exact (List.getElem?_eq_some_iff.1 h).1)]; exact b2⟩
    · simp only [LK.addr.injEq] at h2
      obtain ⟨rfl, rfl, rfl⟩ := h2
      subst h1
      have e1 := snoc_end LA (AV.ptr HA.length 0)
      rw [I.la] at e1
      exact ⟨hx, rfl, fun _ => ⟨_, hEAx, e1⟩⟩

/-- What an operand that stands for a taken variable's place is. -/
theorem IL.asBox (I : IL bv fl HB0 HA0 EA0 EB0 LA LB EA HA EB HB ks c) {p : RX} {x off : Nat} {g : Option (Nat × Bool)} (h : RM.asBox bv ks c p = some (x, off, g)) :
    x ∈ bv ∧ (wantedB g LA = true → ∀ b, EA.getD x .undef = .ptr b 0 → RX.ev LA EA0 p = .ptr b off) := by
  cases p with
  | k v => simp [RM.asBox] at h
  | var y =>
    simp only [RM.asBox] at h
    split at h
    · rename_i hc
      simp only [Bool.and_eq_true, Bool.not_eq_true'] at hc
      simp only [Option.some.injEq, Prod.mk.injEq] at h
      obtain ⟨rfl, rfl, rfl⟩ := h
      have hm := memN_iff.1 hc.1
      exact ⟨hm, fun _ b hb => by rw [I.old y hm hc.2] at hb; exact hb⟩
    · simp at h
  | loc j =>
    simp only [RM.asBox] at h
    split at h
    · rename_i x' off' g' hk
      simp only [Option.some.injEq, Prod.mk.injEq] at h
      obtain ⟨rfl, rfl, rfl⟩ := h
      obtain ⟨a1, _, a3⟩ := I.addr j _ _ _ hk
      refine ⟨a1, fun hw b hb => ?_⟩
      obtain ⟨b', b1, b2⟩ := a3 hw
      rw [hb] at b1; cases b1
      simp only [RX.ev, List.getD_eq_getElem?_getD, b2, Option.getD_some]
    · simp at h

theorem same_wanted {g h : Option (Nat × Bool)} (hs : sameGuard g h = true) {L : List AV} (hw : wantedB h L = true) : wantedB g L = true := by
  cases g with
  | none => rfl
  | some p =>
    cases h with
    | none => simp [sameGuard] at hs
    | some q =>
      simp only [sameGuard, Bool.and_eq_true, beq_iff_eq] at hs
      obtain ⟨i, b⟩ := p
      obtain ⟨j, b'⟩ := q
      simp only at hs
      obtain ⟨rfl, rfl⟩ := hs
      exact hw

/-- The value of a taken variable is its block's cells. -/
theorem IL.value (I : IL bv fl HB0 HA0 EA0 EB0 LA LB EA HA EB HB ks c) {x : Nat} (hx : x ∈ bv) {cs : List AV} (h : RX.ev LB EB0 (c.get x) = .agg cs) :
    ∃ b k, EA.getD x .undef = .ptr b 0 ∧ Tomb HB b ∧ HB0.length ≤ b ∧ HA[b]? = some k ∧ (k.live = true ∧ k.kid = none) ∧ k.cells = cs := by
  rw [I.cur x hx] at h
  rcases I.rel.box x hx with ⟨_, h'⟩ | ⟨b, k, h1, h2, h3, h4, h5, h5', h6⟩
  · rw [h] at h'; simp [AV.undef] at h'
  · rw [h] at h6; cases h6
    exact ⟨b, k, h1, h2, h3, h4, ⟨h5, h5'⟩, rfl⟩

/-- A store into a taken variable. -/
theorem IL.store (I : IL bv fl HB0 HA0 EA0 EB0 LA LB EA HA EB HB ks c) {x : Nat} (hx : x ∈ bv) {b : Nat} {k : Blk} (h1 : EA.getD x .undef = .ptr b 0) (h2 : Tomb HB b) (h3 : HB0.length ≤ b) (h4 : HA[b]? = some k) (h5 : k.live = true ∧ k.kid = none) {ncs : List AV} :
    IL bv fl HB0 HA0 EA0 EB0 (LA ++ [.undef]) (LB ++ [.agg ncs]) EA (HA.set b { k with cells := ncs, clean := false }) (putDst (some x) (.agg ncs) EB) HB (ks ++ [.no]) ((x, .loc ks.length, c.fresh x) :: c) := by
  have hbl := get_lt h4
  have hgA : ∀ y : Nat, y ≠ b → (HA.set b { k with cells := ncs, clean := false })[y]? = HA[y]? := fun y hy => List.getElem?_set_ne (by omega)
  have hgb : (HA.set b { k with cells := ncs, clean := false })[b]? = some { k with cells := ncs, clean := false } := List.getElem?_set_self hbl
  have hxl := I.rel.lt x hx
  have hEB : ∀ y, y ≠ x → (putDst (some x) (.agg ncs) EB).getD y .undef = EB.getD y .undef := fun y hy => getD_set_ne hy
  have hEBx : (putDst (some x) (.agg ncs) EB).getD x .undef = .agg ncs := getD_set_eq (by rw [← I.rel.len]; exact hxl)
  refine ⟨⟨by rw [putDst_len]; exact I.rel.len, I.rel.lt, I.rel.fl0, I.rel.hl, ⟨by simp [I.rel.le.len], fun y => ?_⟩, fun y t => ?_, fun y hy => ?_, fun y hy => ?_, I.rel.inj⟩,
    by simp [I.la], by simp [I.lb], fun j hj => ?_, I.eq0, fun y hy => ?_, fun y i h => ?_, fun y hy hf => ?_, fun j y off g hj => ?_⟩
  · by_cases e : y = b
    · subst e
      right
      refine ⟨h2, ?_⟩
      rcases I.rel.le.get y with h | ⟨_, k1, k2, g1, g2, g3⟩
      · rw [h4] at h
        exact ⟨k, _, h, hgb, rfl⟩
      · rw [h4] at g2; cases g2
        exact ⟨k1, _, g1, hgb, g3⟩
    · rw [hgA y e]; exact I.rel.le.get y
  · obtain ⟨f1, f2⟩ := I.rel.fr y t
    have := t.lt
    exact ⟨by rw [hgA y (by omega)]; exact f1, f2⟩
  · have hyx : y ≠ x := fun e => hy (e ▸ hx)
    rw [hEB y hyx]; exact I.rel.eq y hy
  · by_cases e : y = x
    · subst e
      exact .inr ⟨b, _, h1, h2, h3, hgb, h5.1, h5.2, hEBx⟩
    · rw [hEB y e]
      rcases I.rel.box y hy with h | ⟨b', k', g1, g2, g3, g4, g5⟩
      · exact .inl h
      · have hne : b' ≠ b := fun e' => by subst e'; exact e (I.rel.inj y hy x hx b' g1 h1)
        exact .inr ⟨b', k', g1, g2, g3, by rw [hgA b' hne]; exact g4, g5⟩
  · rcases snoc_get hj with h | ⟨_, h2⟩
    · have := (List.getElem?_eq_some_iff.1 h).1
      rw [snoc_lt _ (by rw [I.la]; exact this), snoc_lt _ (by rw [I.lb]; exact this)]
      exact I.plain j h
    · simp at h2
  · by_cases e : x = y
    · subst e
      have e2 := snoc_end LB (AV.agg ncs)
      rw [I.lb] at e2
      simp only [Curs.get, if_true, RX.ev, List.getD_eq_getElem?_getD, e2, Option.getD_some]
      exact hEBx.symm
    · simp only [Curs.get, if_neg e]
      rw [ev_snoc I.lb (I.curlt y), I.cur y hy, hEB y (Ne.symm e)]
  · by_cases e : x = y
    · simp only [Curs.get, if_pos e, RX.loc.injEq] at h
      subst h; simp
    · simp only [Curs.get, if_neg e] at h
      have := I.curlt y i h; simp; omega
  · by_cases e : x = y
    · subst e
      simp only [Curs.fresh, if_true, Bool.or_self] at hf
      exact I.old x hy hf
    · simp only [Curs.fresh, if_neg e, Bool.false_or] at hf
      exact I.old y hy hf
  · rcases snoc_get hj with h | ⟨h1, h2⟩
    · obtain ⟨a1, a2, a3⟩ := I.addr j y off g h
      refine ⟨a1, guard_snoc a2 _, fun hw => ?_⟩
      rw [wanted_snoc I.la a2] at hw
      obtain ⟨b, b1, b2⟩ := a3 hw
      exact ⟨b, b1, by rw [snoc_lt _ (by rw [I.la]; exact (List.getElem?_eq_some_iff.1 h).1)]; exact b2⟩
    · simp at h2

theorem IL.apart (I : IL bv fl HB0 HA0 EA0 EB0 LA LB EA HA EB HB ks c) {b : Nat} (hb : ¬ Tomb HB b) : ∀ {ap : List RX}, (∀ a ∈ ap, apOk bv ks c a = true) → apartB HB b ((ap.map (apRX bv c)).map (RX.ev LB EB0)) = true → apartB HA b (ap.map (RX.ev LA EA0)) = true
  | [], _, _ => rfl
  | a :: ap, ha, h => by
    have ha0 := ha a (by simp)
    have ih := fun h' => I.apart hb (ap := ap) (fun x hx => ha x (by simp [hx])) h'
    have same : RX.ev LB EB0 (apRX bv c a) = RX.ev LA EA0 a → apartB HA b ((a :: ap).map (RX.ev LA EA0)) = true := fun e => by
      simp only [List.map_cons, e] at h ⊢
      cases hv : RX.ev LA EA0 a <;> rw [hv] at h <;> simp only [apartB, Bool.and_eq_true, reduceCtorEq, Bool.false_eq_true] at h ⊢
      case ptr b' o' =>
        refine ⟨⟨h.1.1, ?_⟩, ih h.2⟩
        have h2 := h.1.2
        unfold notKid at h2 ⊢
        split at h2
        · rename_i k hk; rw [I.rel.le.act hk]; exact h2
        · cases h2
      case agg => exact ih h
    cases a with
    | loc j => exact same (I.plainX (rx := .loc j) ha0).symm
    | k v => exact same rfl
    | var x =>
      by_cases hm : memN x bv = true
      · simp only [apOk, hm, Bool.not_true, Bool.false_or, Bool.not_eq_true'] at ha0
        have hx := memN_iff.1 hm
        have e1 : apRX bv c (.var x) = c.get x := by simp [apRX, hm, ha0]
        have e2 : RX.ev LA EA0 (.var x) = EA.getD x .undef := (I.old x hx ha0).symm
        simp only [List.map_cons, e1, e2, I.cur x hx] at h ⊢
        rcases I.rel.box x hx with ⟨_, h'⟩ | ⟨b', k, h1, h2, h3, h4, h5, h5', h6⟩
        · rw [h'] at h; simp [apartB, AV.undef] at h
        · rw [h6] at h; rw [h1]
          simp only [apartB, Bool.and_eq_true, bne_iff_ne, ne_eq] at h ⊢
          refine ⟨⟨fun e => hb (e ▸ h2), ?_⟩, ih h⟩
          unfold notKid
          rw [act_of h4 (.inl h5)]
          simp [h5']
      · exact same (by
          have : apRX bv c (.var x) = .var x := by simp [apRX, hm]
          rw [this]
          exact (I.eq0 x fun h => hm (memN_iff.2 h)).symm)

end
end Go.RM

/-
  The pass keeps what the code computes: operations, lists, code, calls.
-/
namespace Go.RM
set_option linter.unusedSimpArgs false
set_option linter.unusedVariables false

section
variable {bv : List Nat} {fl : Nat} {HB0 HA0 : Heap} {EA0 EB0 LA LB EA : List AV} {HA : Heap} {EB : List AV} {HB : Heap} {ks : List LK} {c : Curs}
variable {callB callA : Nat → Nat → List AV → Heap → Option (AV × Heap)}

def StepGoal (bv : List Nat) (fl : Nat) (HB0 HA0 : Heap) (EA0 EB0 LA LB EA : List AV) (HA : Heap) (EB : List AV) (HB : Heap) (ks : List LK) (callB callA : Nat → Nat → List AV → Heap → Option (AV × Heap)) (o o' : ROper) (k : LK) (c' : Curs) : Prop :=
  (wantedB o'.guard LB = true → ∀ v HB', rop callB fl o'.free (RX.ev LB EB0) HB o'.op = some (v, HB') → wantedB o.guard LA = true ∧ ∃ vA HA', rop callA fl o.free (RX.ev LA EA0) HA o.op = some (vA, HA') ∧
    IL bv fl HB0 HA0 EA0 EB0 (LA ++ [vA]) (LB ++ [v]) (putDst o.dst vA EA) HA' (putDst o'.dst v EB) HB' (ks ++ [k]) c') ∧
  (wantedB o'.guard LB = false → wantedB o.guard LA = false ∧ IL bv fl HB0 HA0 EA0 EB0 (LA ++ [.undef]) (LB ++ [.undef]) (putDst o.dst .undef EA) HA (putDst o'.dst .undef EB) HB (ks ++ [k]) c')

theorem plain_step (hcall : CallLe callB callA) (I : IL bv fl HB0 HA0 EA0 EB0 LA LB EA HA EB HB ks c) {o o' : ROper} {k : LK} {c' : Curs} (h : optPlain bv ks c o = some (o', k, c')) :
    StepGoal bv fl HB0 HA0 EA0 EB0 LA LB EA HA EB HB ks callB callA o o' k c' := by
  unfold optPlain at h
  split at h
  · rename_i hc
    simp only [Option.some.injEq, Prod.mk.injEq] at h
    obtain ⟨rfl, rfl, rfl⟩ := h
    simp only [Bool.and_eq_true, List.all_eq_true] at hc
    obtain ⟨⟨h1, h2⟩, h3⟩ := hc
    refine ⟨fun hw v HB' hr => ⟨by rw [I.wanted h3]; exact hw, ?_⟩, fun hw => ⟨by rw [I.wanted h3]; exact hw, ?_⟩⟩
    · obtain ⟨HA', r1, r2⟩ := rop_mono hcall (Nat.le_trans I.rel.fl0 I.rel.hl) I.rel.le hr
      refine ⟨v, HA', ?_, I.next r2 h2 (fun _ => rfl) (fun _ => rfl) (fun _ _ _ h => by simp at h)⟩
      rw [rop_congr fun rx hrx => I.plainX (h1 rx hrx)]; exact r1
    · exact I.next (Mono.refl I.rel.le) h2 (fun _ => rfl) (fun _ => rfl) (fun _ _ _ h => by simp at h)
  · simp at h

theorem make_step (hcall : CallLe callB callA) (I : IL bv fl HB0 HA0 EA0 EB0 LA LB EA HA EB HB ks c) {o o' : ROper} {k : LK} {c' : Curs} {e : Nat} {v : RX} (h : optMake bv ks c ks.length o e v = some (o', k, c'))
    (ho : ∀ (free : Bool) (L E : List AV), rop callA fl free (RX.ev L E) HA o.op = some (.ptr HA.length 0, HA ++ [{ cells := (RX.ev L E v).cells, e }])) :
    StepGoal bv fl HB0 HA0 EA0 EB0 LA LB EA HA EB HB ks callB callA o o' k c' := by
  unfold optMake at h
  split at h
  · rename_i x hd
    split at h
    · rename_i hx
      split at h
      · rename_i hc
        simp only [Option.some.injEq, Prod.mk.injEq] at h
        obtain ⟨rfl, rfl, rfl⟩ := h
        simp only [Bool.and_eq_true, Option.isNone_iff_eq_none, Bool.not_eq_true'] at hc
        obtain ⟨⟨⟨h1, h2⟩, h3⟩, h4⟩ := hc
        refine ⟨fun hw v' HB' hr => ⟨by rw [h1]; rfl, ?_⟩, fun hw => by simp [wantedB] at hw⟩
        simp only [rop, Option.some.injEq, Prod.mk.injEq] at hr
        obtain ⟨rfl, rfl⟩ := hr
        refine ⟨_, _, ho _ _ _, ?_⟩
        rw [hd, I.plainX h2]
        exact I.make (memN_iff.1 hx) h3 h4
      · simp at h
    · exact plain_step hcall I h
  · exact plain_step hcall I h

theorem opt_step (hcall : CallLe callB callA) (I : IL bv fl HB0 HA0 EA0 EB0 LA LB EA HA EB HB ks c) {o o' : ROper} {k : LK} {c' : Curs} (h : optOper bv ks c ks.length o = some (o', k, c')) :
    StepGoal bv fl HB0 HA0 EA0 EB0 LA LB EA HA EB HB ks callB callA o o' k c' := by
  unfold optOper at h
  split at h
  · rename_i e z hop
    exact make_step hcall I h fun free L E => by rw [hop]; simp only [rop]; rfl
  · rename_i e v hop
    exact make_step hcall I h fun free L E => by rw [hop]; simp only [rop]
  · rename_i sz p hop
    split at h
    · rename_i x off g hb
      split at h
      · rename_i hc
        simp only [Option.some.injEq, Prod.mk.injEq] at h
        obtain ⟨rfl, rfl, rfl⟩ := h
        simp only [Bool.and_eq_true] at hc
        obtain ⟨⟨h1, h2⟩, h3⟩ := hc
        obtain ⟨hx, hptr⟩ := I.asBox hb
        refine ⟨fun hw v HB' hr => ?_, fun hw => ?_⟩
        · have hwA : wantedB o.guard LA = true := by rw [I.wanted h3]; exact hw
          refine ⟨hwA, ?_⟩
          simp only [rop] at hr
          split at hr
          · rename_i cs hcs
            simp only [Option.map_eq_some_iff, Prod.mk.injEq] at hr
            obtain ⟨v0, hv0, rfl, rfl⟩ := hr
            obtain ⟨b, kb, b1, b2, b3, b4, b5, rfl⟩ := I.value hx hcs
            have hp := hptr (same_wanted h1 hwA) b b1
            refine ⟨v0, HA, ?_, I.next (Mono.refl I.rel.le) h2 (fun _ => rfl) (fun _ => rfl) (fun _ _ _ h => by simp at h)⟩
            rw [hop]
            simp only [rop, hp]
            have hblk : HA.act b = some kb := act_of b4 (.inl b5.1)
            have : rload HA sz b off = some v0 := by
              unfold rload; rw [hblk]
              cases sz with
              | none => simpa [rpart] using hv0
              | some n => simpa [rpart] using hv0
            rw [this]; rfl
          · simp at hr
        · have hwA : wantedB o.guard LA = false := by rw [I.wanted h3]; exact hw
          exact ⟨hwA, I.next (Mono.refl I.rel.le) h2 (fun _ => rfl) (fun _ => rfl) (fun _ _ _ h => by simp at h)⟩
      · simp at h
    · exact plain_step hcall I h
  · rename_i off p hop
    split at h
    · rename_i x off' g hb
      split at h
      · rename_i hc
        simp only [Option.some.injEq, Prod.mk.injEq] at h
        obtain ⟨rfl, rfl, rfl⟩ := h
        simp only [Bool.and_eq_true, Option.isNone_iff_eq_none] at hc
        obtain ⟨⟨h1, h2⟩, h3⟩ := hc
        obtain ⟨hx, hptr⟩ := I.asBox hb
        have hd : dstPlain bv o.dst = true := by rw [h2]; rfl
        refine ⟨fun hw v HB' hr => ?_, fun hw => ?_⟩
        · have hwA : wantedB o.guard LA = true := by rw [I.wanted h3]; exact hw
          refine ⟨hwA, ?_⟩
          simp only [rop] at hr
          split at hr
          · rename_i cs hcs
            simp only [Option.map_eq_some_iff, Prod.mk.injEq] at hr
            obtain ⟨v0, hv0, rfl, rfl⟩ := hr
            obtain ⟨b, kb, b1, b2, b3, b4, b5, rfl⟩ := I.value hx hcs
            have hp := hptr (same_wanted h1 hwA) b b1
            refine ⟨.ptr b (off' + off), HA, by rw [hop]; simp only [rop, hp], I.next (Mono.refl I.rel.le) hd (fun h => absurd h2 h) (fun h => by simp at h) (fun x' o' g' h => ?_)⟩
            simp only [LK.addr.injEq] at h
            obtain ⟨rfl, rfl, rfl⟩ := h
            exact ⟨hx, h3, fun _ => ⟨b, b1, rfl⟩⟩
          · simp at hr
        · have hwA : wantedB o.guard LA = false := by rw [I.wanted h3]; exact hw
          refine ⟨hwA, I.next (Mono.refl I.rel.le) hd (fun h => absurd h2 h) (fun h => by simp at h) (fun x' o' g' h => ?_)⟩
          simp only [LK.addr.injEq] at h
          obtain ⟨rfl, rfl, rfl⟩ := h
          exact ⟨hx, h3, fun hw' => by rw [hwA] at hw'; simp at hw'⟩
      · simp at h
    · exact plain_step hcall I h
  · rename_i n p v ap hop
    split at h
    · rename_i x off g hb
      split at h
      · rename_i hc
        simp only [Option.some.injEq, Prod.mk.injEq] at h
        obtain ⟨rfl, rfl, rfl⟩ := h
        simp only [Bool.and_eq_true, Option.isNone_iff_eq_none, List.isEmpty_iff] at hc
        obtain ⟨⟨⟨⟨h1, h2⟩, h3⟩, h4⟩, h5⟩ := hc
        obtain ⟨hx, hptr⟩ := I.asBox hb
        refine ⟨fun hw v' HB' hr => ⟨by rw [h2]; rfl, ?_⟩, fun hw => by simp [wantedB] at hw⟩
        simp only [rop] at hr
        split at hr
        · rename_i cs hcs
          split at hr
          · rename_i hcond
            simp only [Option.some.injEq, Prod.mk.injEq] at hr
            obtain ⟨rfl, rfl⟩ := hr
            obtain ⟨b, kb, b1, b2, b3, b4, b5, rfl⟩ := I.value hx hcs
            have hp := hptr (by rw [h1]; rfl) b b1
            have hblk : HA.blk b = some kb := by unfold Heap.blk; rw [b4]; simp [b5.1]
            have hfl : fl ≤ b := Nat.le_trans I.rel.fl0 b3
            rw [← I.plainX h5] at hcond ⊢
            refine ⟨.undef, HA.set b { kb with cells := splice kb.cells off (RX.ev LA EA0 v).cells, clean := false }, ?_, ?_⟩
            · rw [hop, h4]
              simp only [rop, hp, List.map_nil, apartB]
              rw [if_pos ⟨hcond.1, trivial⟩]
              unfold rput
              rw [hblk]
              simp only
              rw [if_pos ⟨hfl, hcond.2.1, hcond.2.2⟩]
              rfl
            · rw [h3]
              exact I.store hx b1 b2 b3 b4 b5
          · simp at hr
        · simp at hr
      · simp at h
    · split at h
      · rename_i hc
        simp only [Option.some.injEq, Prod.mk.injEq] at h
        obtain ⟨rfl, rfl, rfl⟩ := h
        simp only [Bool.and_eq_true, List.all_eq_true] at hc
        obtain ⟨⟨⟨⟨h1, h2⟩, h3⟩, h4⟩, h5⟩ := hc
        refine ⟨fun hw v' HB' hr => ⟨by rw [I.wanted h4]; exact hw, ?_⟩, fun hw => ⟨by rw [I.wanted h4]; exact hw, ?_⟩⟩
        · simp only [rop] at hr
          split at hr
          · rename_i b off hb
            split at hr
            · rename_i hcond
              simp only [Option.map_eq_some_iff, Prod.mk.injEq] at hr
              obtain ⟨HB1, g1, rfl, rfl⟩ := hr
              have hnt : ¬ Tomb HB b := by
                unfold rput at g1
                split at g1
                · rename_i k hk; exact not_tomb_act (blk_act hk).1
                · simp at g1
              obtain ⟨HA1, a1, a2⟩ := rput_mono I.rel.le g1
              refine ⟨.undef, HA1, ?_, I.next a2 h3 (fun _ => rfl) (fun _ => rfl) (fun _ _ _ h => by simp at h)⟩
              rw [hop]
              simp only [rop, I.plainX h1, hb, I.plainX h2]
              rw [if_pos ⟨hcond.1, I.apart hnt h5 hcond.2⟩, a1]
              rfl
            · simp at hr
          · simp at hr
        · exact I.next (Mono.refl I.rel.le) h3 (fun _ => rfl) (fun _ => rfl) (fun _ _ _ h => by simp at h)
      · simp at h
  · exact plain_step hcall I h

end

section
variable {bv : List Nat} {fl : Nat} {HB0 HA0 : Heap} {callB callA : Nat → Nat → List AV → Heap → Option (AV × Heap)}

theorem opt_rops (hcall : CallLe callB callA) {EA0 EB0 : List AV} : ∀ {l l' : List ROper} {ks : List LK} {c : Curs} {LA LB EA EB LB' : List AV} {HA HB HB' : Heap}, optOps bv l ks c = some l' → IL bv fl HB0 HA0 EA0 EB0 LA LB EA HA EB HB ks c →
    rops callB fl EB0 l' LB HB = some (LB', HB') → ∃ LA' HA', rops callA fl EA0 l LA HA = some (LA', HA') ∧ Rel bv fl HB0 HA0 (putAll l (LA'.drop LA.length) EA) HA' (putAll l' (LB'.drop LB.length) EB) HB' ∧ LA.length ≤ LA'.length ∧ LA'.take LA.length = LA ∧ LB'.take LB.length = LB
  | [], l', ks, c, LA, LB, EA, EB, LB', HA, HB, HB', ho, I, hr => by
    simp only [optOps, Option.some.injEq] at ho; subst ho
    simp only [rops, Option.some.injEq, Prod.mk.injEq] at hr
    obtain ⟨rfl, rfl⟩ := hr
    exact ⟨LA, HA, rfl, by simpa [putAll] using I.rel, Nat.le_refl _, by simp, by simp⟩
  | o :: l, l', ks, c, LA, LB, EA, EB, LB', HA, HB, HB', ho, I, hr => by
    simp only [optOps] at ho
    split at ho
    · rename_i o' k c' h1
      simp only [Option.map_eq_some_iff] at ho
      obtain ⟨l1, h2, rfl⟩ := ho
      obtain ⟨s1, s2⟩ := opt_step hcall I h1
      have key : ∀ (vA v : AV) (HA1 HB1 : Heap), IL bv fl HB0 HA0 EA0 EB0 (LA ++ [vA]) (LB ++ [v]) (putDst o.dst vA EA) HA1 (putDst o'.dst v EB) HB1 (ks ++ [k]) c' → rops callB fl EB0 l1 (LB ++ [v]) HB1 = some (LB', HB') →
          ∃ LA' HA', rops callA fl EA0 l (LA ++ [vA]) HA1 = some (LA', HA') ∧ Rel bv fl HB0 HA0 (putAll (o :: l) (LA'.drop LA.length) EA) HA' (putAll (o' :: l1) (LB'.drop LB.length) EB) HB' ∧ LA.length ≤ LA'.length ∧ LA'.take LA.length = LA ∧ LB'.take LB.length = LB := fun vA v HA1 HB1 I1 hr1 => by
        obtain ⟨LA', HA', r1, r2, r3, r4, r5⟩ := opt_rops hcall h2 I1 hr1
        have hd : ∀ {L L' : List AV} {u : AV}, L'.take (L ++ [u]).length = L ++ [u] → L'.drop L.length = u :: L'.drop (L ++ [u]).length ∧ L'.take L.length = L := fun {L L' u} ht => by
          constructor
          · conv => lhs; rw [← List.take_append_drop (L ++ [u]).length L', ht]
            rw [List.append_assoc, List.drop_append_of_le_length (Nat.le_refl _)]
            simp
          · have := congrArg (List.take L.length) ht
            rw [List.take_take] at this
            simpa using this
        obtain ⟨a1, a2⟩ := hd r4
        obtain ⟨b1, b2⟩ := hd r5
        refine ⟨LA', HA', r1, ?_, by simp at r3; omega, a2, b2⟩
        rw [a1, b1]
        exact r2
      simp only [rops] at hr
      split at hr
      · rename_i hw
        split at hr
        · rename_i v HB1 hv
          obtain ⟨w1, vA, HA1, w2, w3⟩ := s1 hw v HB1 hv
          obtain ⟨LA', HA', r1, r2⟩ := key vA v HA1 HB1 w3 hr
          refine ⟨LA', HA', ?_, r2⟩
          simp only [rops]
          rw [if_pos w1, w2]
          exact r1
        · simp at hr
      · rename_i hw
        obtain ⟨w1, w3⟩ := s2 (by simpa using hw)
        obtain ⟨LA', HA', r1, r2⟩ := key .undef .undef HA HB w3 hr
        refine ⟨LA', HA', ?_, r2⟩
        simp only [rops]
        rw [if_neg (by rw [w1]; simp)]
        exact r1
    · simp at ho

def ExecLe (TB TA : Nat → Option RFunc) (n : Nat) : Prop := ∀ (bv : List Nat) (fl : Nat) (c c' : RCode) (HB0 HA0 : Heap) (EA : List AV) (HA : Heap) (EB : List AV) (HB : Heap) (o : Out) (EB' : List AV) (HB' : Heap), optCode bv c = some c' → Rel bv fl HB0 HA0 EA HA EB HB →
  rexec TB n fl c' EB HB = some (o, EB', HB') → ∃ EA' HA', rexec TA n fl c EA HA = some (o, EA', HA') ∧ Rel bv fl HB0 HA0 EA' HA' EB' HB'

theorem Rel.start {EA EB : List AV} {HA HB : Heap} (R : Rel bv fl HB0 HA0 EA HA EB HB) : IL bv fl HB0 HA0 EA EB [] [] EA HA EB HB [] [] :=
  ⟨R, rfl, rfl, fun j h => by simp at h, R.eq, fun x _ => rfl, fun x i h => by simp [Curs.get] at h, fun _ _ _ => rfl, fun j x off g h => by simp at h⟩

theorem Rel.cond {EA EB : List AV} {HA HB : Heap} (R : Rel bv fl HB0 HA0 EA HA EB HB) {x : RX} (h : plainRX bv [] x = true) : x.ev [] EA = x.ev [] EB := by
  cases x with
  | var y => exact R.eq y (not_mem_of h)
  | loc j => rfl
  | k v => rfl

theorem exec_step {TB TA : Nat → Option RFunc} {n : Nat} (hcall : CallLe (rcall TB n) (rcall TA n)) (ih : ExecLe TB TA n) : ExecLe TB TA (n + 1) := by
  intro bv fl c c' HB0 HA0 EA HA EB HB o EB' HB' hc R h
  cases c <;> simp only [optCode] at hc
  case ops l =>
    simp only [Option.map_eq_some_iff] at hc
    obtain ⟨l', h1, rfl⟩ := hc
    simp only [rexec, Option.map_eq_some_iff, Prod.mk.injEq] at h ⊢
    obtain ⟨⟨LB', H1⟩, hr, rfl, rfl, rfl⟩ := h
    obtain ⟨LA', HA', r1, r2, _⟩ := opt_rops hcall h1 R.start hr
    exact ⟨putAll l LA' EA, HA', ⟨(LA', HA'), r1, rfl, rfl, rfl⟩, by simpa using r2⟩
  case seq a b =>
    split at hc
    · rename_i a' b' ha hb
      simp only [Option.some.injEq] at hc; subst hc
      simp only [rexec] at h ⊢
      split at h
      · rename_i E1 H1 h1
        obtain ⟨EA1, HA1, r1, r2⟩ := ih bv fl a a' HB0 HA0 EA HA EB HB _ _ _ ha R h1
        rw [r1]
        exact ih bv fl b b' HB0 HA0 EA1 HA1 E1 H1 o EB' HB' hb r2 h
      · rename_i hne
        obtain ⟨EA1, HA1, r1, r2⟩ := ih bv fl a a' HB0 HA0 EA HA EB HB o EB' HB' ha R h
        rw [r1]
        cases o with
        | normal => exact absurd h (by intro h; exact hne _ _ h)
        | exit id => exact ⟨EA1, HA1, rfl, r2⟩
        | ret => exact ⟨EA1, HA1, rfl, r2⟩
    · simp at hc
  case cond x a b =>
    split at hc
    · rename_i hx
      split at hc
      · rename_i a' b' ha hb
        simp only [Option.some.injEq] at hc; subst hc
        simp only [rexec] at h ⊢
        rw [R.cond hx]
        split at h
        · rename_i hv; exact ih bv fl a a' HB0 HA0 EA HA EB HB o EB' HB' ha R h
        · rename_i hv; exact ih bv fl b b' HB0 HA0 EA HA EB HB o EB' HB' hb R h
        · simp at h
      · simp at hc
    · simp at hc
  case block id a =>
    simp only [Option.map_eq_some_iff] at hc
    obtain ⟨a', ha, rfl⟩ := hc
    simp only [rexec] at h ⊢
    split at h
    · rename_i id' E1 H1 h1
      obtain ⟨EA1, HA1, r1, r2⟩ := ih bv fl a a' HB0 HA0 EA HA EB HB _ _ _ ha R h1
      rw [r1]
      simp only
      split at h
      · rename_i he
        simp only [Option.some.injEq, Prod.mk.injEq] at h
        obtain ⟨rfl, rfl, rfl⟩ := h
        rw [if_pos he]; exact ⟨EA1, HA1, rfl, r2⟩
      · rename_i he
        simp only [Option.some.injEq, Prod.mk.injEq] at h
        obtain ⟨rfl, rfl, rfl⟩ := h
        rw [if_neg he]; exact ⟨EA1, HA1, rfl, r2⟩
    · rename_i hne
      obtain ⟨EA1, HA1, r1, r2⟩ := ih bv fl a a' HB0 HA0 EA HA EB HB o EB' HB' ha R h
      rw [r1]
      cases o with
      | exit id' => exact absurd h (by intro h; exact hne _ _ _ h)
      | normal => exact ⟨EA1, HA1, rfl, r2⟩
      | ret => exact ⟨EA1, HA1, rfl, r2⟩
  case loop a =>
    simp only [Option.map_eq_some_iff] at hc
    obtain ⟨a', ha, rfl⟩ := hc
    simp only [rexec] at h ⊢
    split at h
    · rename_i E1 H1 h1
      obtain ⟨EA1, HA1, r1, r2⟩ := ih bv fl a a' HB0 HA0 EA HA EB HB _ _ _ ha R h1
      rw [r1]
      exact ih bv fl (.loop a) (.loop a') HB0 HA0 EA1 HA1 E1 H1 o EB' HB' (by simp [optCode, ha]) r2 h
    · rename_i hne
      obtain ⟨EA1, HA1, r1, r2⟩ := ih bv fl a a' HB0 HA0 EA HA EB HB o EB' HB' ha R h
      rw [r1]
      cases o with
      | normal => exact absurd h (by intro h; exact hne _ _ h)
      | exit id => exact ⟨EA1, HA1, rfl, r2⟩
      | ret => exact ⟨EA1, HA1, rfl, r2⟩
  all_goals
    simp only [Option.some.injEq] at hc; subst hc
    simp only [rexec, reduceCtorEq, Option.some.injEq, Prod.mk.injEq] at h ⊢
  all_goals
    obtain ⟨rfl, rfl, rfl⟩ := h
    exact ⟨EA, HA, ⟨rfl, rfl, rfl⟩, R⟩

theorem optRes_run {EA EB : List AV} {HA HB : Heap} (R : Rel bv fl HB0 HA0 EA HA EB HB) {r r' : RRes} {v : AV} (hr : optRes bv r = some r') (h : resOf EB HB r' = some v) : resOf EA HA r = some v := by
  cases r with
  | var x =>
    simp only [optRes] at hr
    split at hr
    · simp at hr
    · rename_i hx
      simp only [Option.some.injEq] at hr; subst hr
      simp only [resOf] at h ⊢
      rw [R.eq x (fun hm => hx (memN_iff.2 hm))]; exact h
  | cell x sz =>
    simp only [optRes] at hr
    split at hr
    · rename_i hx
      simp only [Option.some.injEq] at hr; subst hr
      simp only [resOf] at h ⊢
      split at h
      · rename_i cs hcs
        rcases R.box x (memN_iff.1 hx) with ⟨_, h'⟩ | ⟨b, k, h1, h2, h3, h4, h5, h5', h6⟩
        · rw [hcs] at h'; simp [AV.undef] at h'
        · rw [hcs] at h6; cases h6
          rw [h1]
          have hblk : HA.act b = some k := act_of h4 (.inl h5)
          simp only [rload, hblk]
          cases sz with
          | none => simpa [rpart] using h
          | some n => simpa [rpart] using h
      · simp at h
    · rename_i hx
      simp only [Option.some.injEq] at hr; subst hr
      simp only [resOf] at h ⊢
      rw [R.eq x (fun hm => hx (memN_iff.2 hm))]
      split at h
      · rename_i b off hb
        unfold rload at h ⊢
        split at h
        · rename_i k hk; rw [R.le.act hk]; exact h
        · simp at h
      · simp at h
  | part x sz =>
    simp only [optRes] at hr
    split at hr
    · simp at hr
    · rename_i hx
      simp only [Option.some.injEq] at hr; subst hr
      simp only [resOf] at h ⊢
      rw [R.eq x (fun hm => hx (memN_iff.2 hm))]; exact h

theorem optResL_run {EA EB : List AV} {HA HB : Heap} (R : Rel bv fl HB0 HA0 EA HA EB HB) : ∀ {l l' : List RRes} {vs : List AV}, optResL bv l = some l' → resAll EB HB l' = some vs → resAll EA HA l = some vs
  | [], l', vs, hr, h => by simp only [optResL, Option.some.injEq] at hr; subst hr; exact h
  | r :: l, l', vs, hr, h => by
    simp only [optResL] at hr
    split at hr
    · rename_i a b h1 h2
      simp only [Option.some.injEq] at hr; subst hr
      simp only [resAll] at h ⊢
      split at h
      · rename_i v hv
        rw [optRes_run R h1 hv]
        simp only [Option.map_eq_some_iff] at h ⊢
        obtain ⟨vs', g1, rfl⟩ := h
        exact ⟨vs', optResL_run R h2 g1, rfl⟩
      · simp at h
    · simp at hr

end

theorem optW_call {TB TA : Nat → Option RFunc} {n : Nat} (ih : ExecLe TB TA n) {bv : List Nat} {f g : RFunc} (ho : optFuncW bv f = some g) {fl : Nat} {args : List AV} {HB HA : Heap} {v : AV} {HB' : Heap} (hfl : fl ≤ HB.length) (hle : Le HB HA)
    (h : (if args.length = g.nargs then (match rexec TB n fl g.body (args ++ List.replicate (g.nvars - g.nargs) .undef) HB with
        | some (.normal, E, H') => (resAll E H' g.res).map fun vs => (resVal vs, H')
        | some (.ret, E, H') => (resAll E H' g.res).map fun vs => (resVal vs, H')
        | _ => none) else none) = some (v, HB')) :
    ∃ HA', (if args.length = f.nargs then (match rexec TA n fl f.body (args ++ List.replicate (f.nvars - f.nargs) .undef) HA with
        | some (.normal, E, H') => (resAll E H' f.res).map fun vs => (resVal vs, H')
        | some (.ret, E, H') => (resAll E H' f.res).map fun vs => (resVal vs, H')
        | _ => none) else none) = some (v, HA') ∧ Mono HB HA HB' HA' := by
  unfold optFuncW at ho
  split at ho
  · rename_i hbv
    simp only [Bool.and_eq_true, List.all_eq_true, decide_eq_true_eq] at hbv
    obtain ⟨hbv, hnv⟩ := hbv
    split at ho
    · rename_i r c hr hc
      simp only [Option.some.injEq] at ho; subst ho
      simp only at h
      rw [Option.ite_none_right_eq_some] at h
      obtain ⟨hlen, h⟩ := h
      rw [if_pos hlen]
      have hund : ∀ x ∈ bv, (args ++ List.replicate (f.nvars - f.nargs) AV.undef).getD x .undef = .undef := fun x hx => by
        have := (hbv x hx).1
        rw [List.getD_eq_getElem?_getD, List.getElem?_append_right (by omega), List.getElem?_replicate]
        split <;> rfl
      have R : Rel bv fl HB HA (args ++ List.replicate (f.nvars - f.nargs) .undef) HA (args ++ List.replicate (f.nvars - f.nargs) .undef) HB :=
        ⟨rfl, fun x hx => by have := (hbv x hx).2; simp; omega, hfl, Nat.le_refl _, hle, fun b t => ⟨rfl, t⟩, fun _ _ => rfl, fun x hx => .inl ⟨hund x hx, hund x hx⟩, fun x hx x' hx' b h1 _ => by rw [hund x hx] at h1; simp [AV.undef] at h1⟩
      have fin : ∀ o E1 H1, rexec TB n fl c (args ++ List.replicate (f.nvars - f.nargs) .undef) HB = some (o, E1, H1) → (o = .normal ∨ o = .ret) → (resAll E1 H1 r).map (fun vs => (resVal vs, H1)) = some (v, HB') →
          ∃ HA', (match rexec TA n fl f.body (args ++ List.replicate (f.nvars - f.nargs) .undef) HA with
            | some (.normal, E, H') => (resAll E H' f.res).map fun vs => (resVal vs, H')
            | some (.ret, E, H') => (resAll E H' f.res).map fun vs => (resVal vs, H')
            | _ => none) = some (v, HA') ∧ Mono HB HA HB' HA' := fun o E1 H1 h1 ho h2 => by
        obtain ⟨EA1, HA1, r1, r2⟩ := ih bv fl f.body c HB HA _ HA _ HB o E1 H1 hc R h1
        rw [r1]
        simp only [Option.map_eq_some_iff, Prod.mk.injEq] at h2
        obtain ⟨vs, g1, rfl, rfl⟩ := h2
        have g2 := optResL_run r2 hr g1
        refine ⟨HA1, ?_, ⟨r2.le, r2.hl, r2.fr⟩⟩
        rcases ho with rfl | rfl <;> simp [g2]
      split at h
      · rename_i E1 H1 h1; exact fin _ E1 H1 h1 (.inl rfl) h
      · rename_i E1 H1 h1; exact fin _ E1 H1 h1 (.inr rfl) h
      · simp at h
    · simp at ho
  · simp at ho

theorem rprim_mono {HB HA : Heap} (h : Le HB HA) {p : Prim} {fl : Nat} {args : List AV} {v : AV} {HB' : Heap} (hp : rprim p fl args HB = some (v, HB')) : ∃ HA', rprim p fl args HA = some (v, HA') ∧ Mono HB HA HB' HA' := by
  unfold rprim at hp ⊢
  split at hp
  · unfold rinsert at hp ⊢
    split at hp
    · split at hp
      · rename_i h1 h2
        simp only [sliceCells_mono h h1, h.blk h2]
        split at hp
        · rename_i hc
          rw [if_pos hc]
          split at hp
          · split at hp
            · rename_i hc2
              simp only [Option.some.injEq, Prod.mk.injEq] at hp
              obtain ⟨rfl, rfl⟩ := hp
              exact ⟨_, by rw [if_pos hc2, h.len], Mono.push h _⟩
            · simp at hp
          · split at hp
            · rename_i k hk
              simp only [h.blk hk]
              split at hp
              · rename_i hc2
                rw [if_pos hc2]
                split at hp
                · rename_i hc3
                  rw [if_pos hc3]
                  simp only [Option.some.injEq, Prod.mk.injEq] at hp
                  obtain ⟨rfl, rfl⟩ := hp
                  exact ⟨_, by rw [h.len], (Mono.set h (not_tomb_act (blk_act hk).1)).trans (Mono.push (Mono.set h (not_tomb_act (blk_act hk).1)).le _)⟩
                · rename_i hc3
                  rw [if_neg hc3]
                  simp only [Option.bind_eq_some_iff, Option.map_eq_some_iff, Prod.mk.injEq] at hp ⊢
                  obtain ⟨H1, g1, H2, g2, rfl, rfl⟩ := hp
                  obtain ⟨HA1, a1, a2⟩ := rput_mono h g1
                  obtain ⟨HA2, b1, b2⟩ := rput_mono a2.le g2
                  exact ⟨HA2, ⟨HA1, a1, HA2, b1, rfl, rfl⟩, a2.trans b2⟩
              · simp at hp
            · simp at hp
          · simp at hp
        · simp at hp
      · simp at hp
    · simp at hp
  · unfold rclone at hp ⊢
    split at hp
    · simp at hp
    · split at hp
      · rename_i h0
        rw [if_pos h0]
        simp only [Option.some.injEq, Prod.mk.injEq] at hp
        obtain ⟨rfl, rfl⟩ := hp
        exact ⟨_, rfl, Mono.refl h⟩
      · rename_i h0
        rw [if_neg h0]
        split at hp
        · rename_i hc
          rw [if_pos hc]
          simp only [Option.map_eq_some_iff, Prod.mk.injEq] at hp ⊢
          obtain ⟨xs, g1, rfl, rfl⟩ := hp
          exact ⟨_, ⟨xs, sliceCells_mono h g1, by rw [h.len], rfl⟩, Mono.push h _⟩
        · simp at hp
  · simp at hp

theorem optFuncW_prim {bv : List Nat} {f g : RFunc} (h : optFuncW bv f = some g) : g.prim = f.prim := by
  unfold optFuncW at h
  split at h
  · split at h
    · simp only [Option.some.injEq] at h; subst h; rfl
    · simp at h
  · simp at h

theorem opt_all {TA : Nat → Option RFunc} : ∀ n, ExecLe (fun f => (TA f).bind optFunc) TA n ∧ CallLe (rcall (fun f => (TA f).bind optFunc) n) (rcall TA n)
  | 0 => ⟨fun bv fl c c' HB0 HA0 EA HA EB HB o EB' HB' _ _ h => by simp [rexec] at h, fun fl g args HB v HB' HA _ h => by simp [rcall] at h⟩
  | n + 1 => by
    obtain ⟨h1, h2⟩ := opt_all (TA := TA) n
    refine ⟨exec_step h2 h1, fun fl g args HB v HB' HA hfl h hle => ?_⟩
    simp only [rcall] at h ⊢
    cases hf : TA g with
    | none => simp [hf] at h
    | some f =>
      simp only [hf, Option.bind_some] at h
      have : ∃ bv g', optFuncW bv f = some g' ∧ optFunc f = some g' := by
        cases ho : optFunc f with
        | none => simp [ho] at h
        | some g' =>
          have ho' := ho
          unfold optFunc at ho'
          simp only at ho'
          split at ho'
          · rename_i g2 hg2; exact ⟨_, g', by rw [← ho']; exact hg2, rfl⟩
          · exact ⟨_, g', ho', rfl⟩
      obtain ⟨bv, g', hw, ho⟩ := this
      simp only [ho] at h
      rw [optFuncW_prim hw] at h
      simp only
      cases hp : f.prim with
      | some p => rw [hp] at h; exact rprim_mono hle h
      | none =>
        rw [hp] at h
        simp only at h ⊢
        exact optW_call h1 hw hfl hle h

/-- WHAT THE CHANGED CODE COMPUTES, THE CODE COMPUTES. -/
theorem opt_sound {P : Program} {pr : Nat → Option Prim} {n fl f : Nat} {args : List AV} {H : Heap} {v : AV} {H' : Heap} (hfl : fl ≤ H.length) (h : rcall (tableO P pr) n fl f args H = some (v, H')) : ∃ HA', rcall (table P pr) n fl f args H = some (v, HA') := by
  obtain ⟨HA', h1, _⟩ := (opt_all (TA := table P pr) n).2 fl f args H v H' H hfl h (Le.refl H)
  exact ⟨HA', h1⟩

end Go.RM

