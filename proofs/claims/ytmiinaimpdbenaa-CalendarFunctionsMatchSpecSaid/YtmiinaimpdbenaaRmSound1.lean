/-
  How the abstract machine's values and heap stand to the model's: the relation of values, and of heaps.
-/
import Derived.Test.YtmiinaimpdbenaaRmCompile
import Derived.Orders
import Derived.Below
import Derived.Laws.IdiomCopy
import Derived.Laws.Cells
import Derived.Deep.DeepAppendWide
namespace Go.RM

/-- Where a block lies: block and first cell; how many cells are its own; cells an element. -/
structure Loc where
  cb : Nat
  co : Nat
  room : Nat
  e : Nat

abbrev BMap := Nat → Option Loc

def capOk (l : Loc) (off cap : Nat) : Option Nat → Prop
  | none => off + cap * l.e = l.room
  | some c => cap = c ∧ off + c * l.e ≤ l.room

def SlOk (m : BMap) (b off n : Nat) (lim : Option Nat) (a : Option Addr) (cap : Nat) : Prop :=
  n ≤ cap ∧ ∃ l, m b = some l ∧ capOk l off cap lim ∧ (a = some ⟨l.cb, l.co + off, none⟩ ∨ cap = 0)

mutual
def VRel (m : BMap) : AV → Value → Prop
  | .int k n, v => v = .int k n
  | .bool b, v => v = .bool b
  | .str s, v => v = .string s
  | .ptr b off, v => ∃ l, m b = some l ∧ v = .pointer (some ⟨l.cb, l.co + off, none⟩)
  | .nilptr, v => v = .pointer none
  | .slice b off n lim, v => ∃ a cap, v = .slice a n cap ∧ SlOk m b off n lim a cap
  | .empty, v => ∃ a, v = .slice a 0 0
  | .func f caps, v => ∃ cs, v = .func (.func f) #[] ⟨cs⟩ ∧ VRels m caps cs
  | .nilfunc, v => v = .nilFunc
  | .agg cs, v => ∃ vs, v = .agg ⟨vs⟩ ∧ VRels m cs vs
  | .tuple cs, v => ∃ vs, v = .tuple ⟨vs⟩ ∧ VRels m cs vs
def VRels (m : BMap) : List AV → List Value → Prop
  | [], [] => True
  | a :: as, v :: vs => VRel m a v ∧ VRels m as vs
  | _, _ => False
end

def Ext (m m' : BMap) : Prop := ∀ b l, m b = some l → m' b = some l
theorem Ext.refl (m : BMap) : Ext m m := fun _ _ h => h
theorem Ext.trans {a b c : BMap} (h : Ext a b) (k : Ext b c) : Ext a c := fun x l hx => k x l (h x l hx)

theorem SlOk.mono {m m' : BMap} (h : Ext m m') {b off n : Nat} {lim : Option Nat} {a : Option Addr} {cap : Nat} (s : SlOk m b off n lim a cap) : SlOk m' b off n lim a cap :=
  ⟨s.1, let ⟨l, h1, h2, h3⟩ := s.2; ⟨l, h _ _ h1, h2, h3⟩⟩

mutual
theorem VRel.mono {m m' : BMap} (h : Ext m m') : ∀ {a : AV} {v : Value}, VRel m a v → VRel m' a v
  | .int .., _, r => r
  | .bool _, _, r => r
  | .str _, _, r => r
  | .ptr .., _, ⟨l, h1, h2⟩ => ⟨l, h _ _ h1, h2⟩
  | .nilptr, _, r => r
  | .slice .., _, ⟨a, cap, h1, h2⟩ => ⟨a, cap, h1, h2.mono h⟩
  | .empty, _, r => r
  | .func _ _, _, ⟨cs, h1, h2⟩ => ⟨cs, h1, VRels.mono h h2⟩
  | .nilfunc, _, r => r
  | .agg _, _, ⟨cs, h1, h2⟩ => ⟨cs, h1, VRels.mono h h2⟩
  | .tuple _, _, ⟨cs, h1, h2⟩ => ⟨cs, h1, VRels.mono h h2⟩
theorem VRels.mono {m m' : BMap} (h : Ext m m') : ∀ {as : List AV} {vs : List Value}, VRels m as vs → VRels m' as vs
  | [], [], _ => trivial
  | _ :: _, _ :: _, ⟨h1, h2⟩ => ⟨VRel.mono h h1, VRels.mono h h2⟩
end

theorem VRels.length {m : BMap} : ∀ {as : List AV} {vs : List Value}, VRels m as vs → as.length = vs.length
  | [], [], _ => rfl
  | _ :: _, _ :: _, ⟨_, h2⟩ => by simp [VRels.length h2]

theorem VRels.get {m : BMap} : ∀ {as : List AV} {vs : List Value}, VRels m as vs → ∀ (i : Nat) (a : AV), as[i]? = some a → ∃ v, vs[i]? = some v ∧ VRel m a v
  | _ :: _, v :: _, ⟨h1, _⟩, 0, a, h => by
    simp at h; subst h; exact ⟨v, rfl, h1⟩
  | _ :: as, _ :: vs, ⟨_, h2⟩, i + 1, a, h => by
    obtain ⟨v, e, r⟩ := VRels.get h2 i a (by simpa using h)
    exact ⟨v, by simpa using e, r⟩

theorem VRels.of {m : BMap} : ∀ {as : List AV} {vs : List Value}, as.length = vs.length → (∀ (i : Nat) (a : AV) (v : Value), as[i]? = some a → vs[i]? = some v → VRel m a v) → VRels m as vs
  | [], [], _, _ => trivial
  | a :: as, v :: vs, h, k => ⟨k 0 a v rfl rfl, VRels.of (by simpa using h) fun i x y hx hy => k (i + 1) x y (by simpa using hx) (by simpa using hy)⟩
  | [], _ :: _, h, _ => by simp at h
  | _ :: _, [], h, _ => by simp at h

theorem VRels.append {m : BMap} : ∀ {as bs : List AV} {vs ws : List Value}, VRels m as vs → VRels m bs ws → VRels m (as ++ bs) (vs ++ ws)
  | [], _, [], _, _, h => h
  | _ :: _, _, _ :: _, _, ⟨h1, h2⟩, h => ⟨h1, VRels.append h2 h⟩

theorem VRels.drop {m : BMap} : ∀ {as : List AV} {vs : List Value} (n : Nat), VRels m as vs → VRels m (as.drop n) (vs.drop n)
  | as, vs, 0, h => by simpa using h
  | [], [], n + 1, _ => by simp [VRels]
  | _ :: _, _ :: _, n + 1, ⟨_, h2⟩ => by simpa using VRels.drop n h2

theorem VRels.take {m : BMap} : ∀ {as : List AV} {vs : List Value} (n : Nat), VRels m as vs → VRels m (as.take n) (vs.take n)
  | _, _, 0, _ => by simp [VRels]
  | [], [], n + 1, _ => by simp [VRels]
  | _ :: _, _ :: _, n + 1, ⟨h1, h2⟩ => by simpa [VRels] using ⟨h1, VRels.take n h2⟩

theorem VRels.replicate {m : BMap} {a : AV} {v : Value} (h : VRel m a v) : ∀ n, VRels m (List.replicate n a) (List.replicate n v)
  | 0 => trivial
  | n + 1 => by rw [List.replicate_succ, List.replicate_succ]; exact ⟨h, VRels.replicate h n⟩

theorem VRels.flatten {m : BMap} {zero : List AV} {vs : List Value} (h : VRels m zero vs) : ∀ n, VRels m (zeros n zero) ((List.replicate n vs).flatten)
  | 0 => trivial
  | n + 1 => by
    have ih := VRels.flatten h n
    unfold zeros at ih ⊢
    rw [List.replicate_succ, List.replicate_succ, List.flatten_cons, List.flatten_cons]
    exact VRels.append h ih

theorem VRels.splice {m : BMap} {as cs : List AV} {vs ws : List Value} (h : VRels m as vs) (k : VRels m cs ws) (off : Nat) :
    VRels m (splice as off cs) (vs.take off ++ ws ++ vs.drop (off + ws.length)) := by
  unfold RM.splice
  rw [← k.length]
  exact VRels.append (VRels.append (h.take _) k) (h.drop _)

theorem VRel.undef (m : BMap) : VRel m .undef Go.undef := ⟨[], rfl, trivial⟩

mutual
theorem ofConst_rel (m : BMap) : ∀ {v : Value} {a : AV}, ofConst v = some a → VRel m a v
  | .int k n, a, h => by simp only [ofConst, Option.some.injEq] at h; subst h; rfl
  | .bool b, a, h => by simp only [ofConst, Option.some.injEq] at h; subst h; rfl
  | .string b, a, h => by simp only [ofConst, Option.some.injEq] at h; subst h; rfl
  | .pointer none, a, h => by simp only [ofConst, Option.some.injEq] at h; subst h; rfl
  | .pointer (some _), a, h => by simp [ofConst] at h
  | .nilFunc, a, h => by simp only [ofConst, Option.some.injEq] at h; subst h; rfl
  | .slice none 0 0, a, h => by simp only [ofConst, Option.some.injEq] at h; subst h; exact ⟨none, rfl⟩
  | .slice none 0 (_ + 1), a, h => by simp [ofConst] at h
  | .slice none (_ + 1) _, a, h => by simp [ofConst] at h
  | .slice (some _) _ _, a, h => by simp [ofConst] at h
  | .func (.func f) ⟨first⟩ ⟨cap⟩, a, h => by
    simp only [ofConst, List.size_toArray] at h
    split at h
    · rename_i hc
      simp only [Option.some.injEq] at h; subst h
      have h1 : first = [] := List.eq_nil_of_length_eq_zero hc.1
      have h2 : cap = [] := List.eq_nil_of_length_eq_zero hc.2
      subst h1; subst h2
      exact ⟨[], rfl, trivial⟩
    · simp at h
  | .func (.method _) _ _, a, h => by simp [ofConst] at h
  | .func (.methodOf _ _) _ _, a, h => by simp [ofConst] at h
  | .func (.via ..) _ _, a, h => by simp [ofConst] at h
  | .func (.yield _) _ _, a, h => by simp [ofConst] at h
  | .agg ⟨cs⟩, a, h => by
    simp only [ofConst, Option.map_eq_some_iff] at h
    obtain ⟨l, hl, rfl⟩ := h
    exact ⟨cs, rfl, ofConsts_rel m hl⟩
  | .tuple ⟨cs⟩, a, h => by
    simp only [ofConst, Option.map_eq_some_iff] at h
    obtain ⟨l, hl, rfl⟩ := h
    exact ⟨cs, rfl, ofConsts_rel m hl⟩
  | .float .., a, h => by simp [ofConst] at h
  | .complex .., a, h => by simp [ofConst] at h
  | .map _, a, h => by simp [ofConst] at h
  | .chan _, a, h => by simp [ofConst] at h
  | .iface .., a, h => by simp [ofConst] at h
  | .nilIface, a, h => by simp [ofConst] at h
theorem ofConsts_rel (m : BMap) : ∀ {vs : List Value} {as : List AV}, ofConsts vs = some as → VRels m as vs
  | [], as, h => by simp only [ofConsts, Option.some.injEq] at h; subst h; trivial
  | v :: vs, as, h => by
    simp only [ofConsts] at h
    split at h
    · rename_i a l h1 h2
      simp only [Option.some.injEq] at h; subst h
      exact ⟨ofConst_rel m h1, ofConsts_rel m h2⟩
    · simp at h
end

theorem VRel.cells {m : BMap} {a : AV} {v : Value} (h : VRel m a v) : VRels m a.cells v.cells.toList := by
  cases a with
  | agg cs => obtain ⟨vs, rfl, r⟩ := h; exact r
  | int k n => cases h; exact ⟨rfl, trivial⟩
  | bool b => cases h; exact ⟨rfl, trivial⟩
  | str s => cases h; exact ⟨rfl, trivial⟩
  | ptr b o => obtain ⟨l, h1, rfl⟩ := h; exact ⟨⟨l, h1, rfl⟩, trivial⟩
  | nilptr => cases h; exact ⟨rfl, trivial⟩
  | slice b o n l => obtain ⟨x, c, rfl, r⟩ := h; exact ⟨⟨x, c, rfl, r⟩, trivial⟩
  | empty => obtain ⟨x, rfl⟩ := h; exact ⟨⟨x, rfl⟩, trivial⟩
  | func f c => obtain ⟨x, rfl, r⟩ := h; exact ⟨⟨x, rfl, r⟩, trivial⟩
  | nilfunc => cases h; exact ⟨rfl, trivial⟩
  | tuple cs => obtain ⟨x, rfl, r⟩ := h; exact ⟨⟨x, rfl, r⟩, trivial⟩

theorem VRel.oneCell {m : BMap} {a : AV} {v : Value} (h : VRel m a v) (hs : a.scalar = true) : v.oneCell' = true := by
  cases a with
  | agg cs => simp [AV.scalar] at hs
  | tuple cs => simp [AV.scalar] at hs
  | int k n => cases h; rfl
  | bool b => cases h; rfl
  | str s => cases h; rfl
  | ptr b o => obtain ⟨l, h1, rfl⟩ := h; rfl
  | nilptr => cases h; rfl
  | slice b o n l => obtain ⟨x, c, rfl, r⟩ := h; rfl
  | empty => obtain ⟨x, rfl⟩ := h; rfl
  | func f c => obtain ⟨x, rfl, r⟩ := h; rfl
  | nilfunc => cases h; rfl

theorem VRels.oneCells {m : BMap} : ∀ {as : List AV} {vs : List Value}, VRels m as vs → as.all AV.scalar = true → ∀ v ∈ vs, v.oneCell' = true
  | [], [], _, _, v, h => by simp at h
  | a :: as, w :: vs, ⟨h1, h2⟩, hs, v, h => by
    simp only [List.all_cons, Bool.and_eq_true] at hs
    rcases List.mem_cons.1 h with rfl | h
    · exact h1.oneCell hs.1
    · exact VRels.oneCells h2 hs.2 v h

/-! ### Heaps -/

def CellsAt (m : BMap) (w : World) (l : Loc) (cs : List AV) : Prop := ∀ (j : Nat) (v : AV), cs[j]? = some v → ∃ cv, w.cell? ⟨l.cb, l.co + j, none⟩ = some cv ∧ VRel m v cv

def Room (w : World) (l : Loc) : Prop := ∀ j, j < l.room → (w.cell? ⟨l.cb, l.co + j, none⟩).isSome = true ∧ w.frozen? ⟨l.cb, l.co + j, none⟩ = false

/-- Two blocks may lie in one row: the one is given up, the other its replacement. -/
def KidOf (k : Blk) (l : Loc) (b' : Nat) (k' : Blk) (l' : Loc) : Prop := k.live = false ∧ k.kid = some b' ∧ l.co + k.cells.length ≤ l'.co + k'.cells.length

structure Sim (n0 base : Nat) (m : BMap) (H : Heap) (w : World) : Prop where
  size : base ≤ w.heap.size
  low : n0 ≤ H.length
  kids : ∀ (b c : Nat) (k : Blk), H[b]? = some k → k.kid = some c → c < H.length
  es : ∀ (b : Nat) (k : Blk) (l : Loc), H[b]? = some k → m b = some l → l.e = k.e
  cells : ∀ b k l, H.act b = some k → m b = some l → l.e = k.e ∧ k.cells.length ≤ l.room ∧ CellsAt m w l k.cells
  ro : ∀ b l, b < n0 → m b = some l → l.cb < base
  own : ∀ b k l, n0 ≤ b → H.act b = some k → m b = some l → base ≤ l.cb ∧ l.cb < w.heap.size ∧ Room w l
  inj : ∀ b b' k k' l l', n0 ≤ b → n0 ≤ b' → H.act b = some k → H.act b' = some k' → m b = some l → m b' = some l' → l.cb = l'.cb → b = b' ∨ KidOf k l b' k' l' ∨ KidOf k' l' b k l

theorem blk_act {H : Heap} {b : Nat} {k : Blk} (h : H.blk b = some k) : H.act b = some k ∧ k.live = true ∧ H[b]? = some k := by
  unfold Heap.blk at h
  split at h
  · rename_i k' hk
    split at h
    · rename_i hl
      cases h
      exact ⟨by simp [Heap.act, hk, hl], hl, hk⟩
    · simp at h
  · simp at h

theorem act_get {H : Heap} {b : Nat} {k : Blk} (h : H.act b = some k) : H[b]? = some k := by
  unfold Heap.act at h
  split at h
  · split at h
    · cases h; assumption
    · simp at h
  · simp at h

theorem act_blk {H : Heap} {b : Nat} {k : Blk} (h : H.act b = some k) (hl : k.live = true) : H.blk b = some k := by
  simp [Heap.blk, act_get h, hl]

/-- What the run may have turned: no block of the world but those that a writable block lies in. -/
def Hit (fl : Nat) (m : BMap) (H : Heap) (c : Nat) : Prop := ∃ b k l, fl ≤ b ∧ H.act b = some k ∧ m b = some l ∧ l.cb = c

structure Step (n0 base fl : Nat) (m : BMap) (H : Heap) (w : World) (m' : BMap) (H' : Heap) (w' : World) : Prop where
  ext : Ext m m'
  new : ∀ b l, m' b = some l → m b = none → H.length ≤ b ∧ b < H'.length
  sim : Sim n0 base m' H' w'
  os : w'.os = w.os
  tape : w'.tape = w.tape
  output : w'.output = w.output
  size : w.heap.size ≤ w'.heap.size
  len : H.length ≤ H'.length
  frame : ∀ c, c < w.heap.size → ¬ Hit fl m H c → w'.heap[c]? = w.heap[c]?
  hits : ∀ c, c < w.heap.size → Hit fl m' H' c → Hit fl m H c

theorem Step.refl {n0 base fl : Nat} {m : BMap} {H : Heap} {w : World} (h : Sim n0 base m H w) : Step n0 base fl m H w m H w :=
  ⟨Ext.refl m, fun b l h1 h2 => by simp [h1] at h2, h, rfl, rfl, rfl, Nat.le_refl _, Nat.le_refl _, fun _ _ _ => rfl, fun _ _ h => h⟩

theorem Step.trans {n0 base fl : Nat} {m1 m2 m3 : BMap} {H1 H2 H3 : Heap} {w1 w2 w3 : World} (a : Step n0 base fl m1 H1 w1 m2 H2 w2) (b : Step n0 base fl m2 H2 w2 m3 H3 w3) :
    Step n0 base fl m1 H1 w1 m3 H3 w3 where
  ext := a.ext.trans b.ext
  new := fun x l h1 h2 => by
    cases h : m2 x with
    | none => have := b.new x l h1 h; have := a.len; omega
    | some l' => have := a.new x l' h h2; have := b.len; omega
  sim := b.sim
  os := b.os.trans a.os
  tape := b.tape.trans a.tape
  output := b.output.trans a.output
  size := Nat.le_trans a.size b.size
  len := Nat.le_trans a.len b.len
  frame := fun c hc hh => by
    rw [b.frame c (Nat.lt_of_lt_of_le hc a.size) (fun h => hh (a.hits c hc h)), a.frame c hc hh]
  hits := fun c hc h => a.hits c hc (b.hits c (Nat.lt_of_lt_of_le hc a.size) h)

end Go.RM
