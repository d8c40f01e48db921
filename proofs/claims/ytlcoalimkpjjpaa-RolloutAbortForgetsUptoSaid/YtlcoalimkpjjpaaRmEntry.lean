import Derived.Test.YtlcoalimkpjjpaaRmRegion7
import Derived.ProofKit
import Derived.Test.YtlcoalimkpjjpaaRmOpt
import Derived.ChangeCalls
import Derived.JoinedCond
import Derived.Test.YtlcoalimkpjjpaaRmLib
import Derived.Test.YtlcoalimkpjjpaaRolP2
/-
  How a call's arguments stand in the abstract machine: each slice has a read-only block of its own.
-/
namespace Go.RM
open Go.WideShapes Go.RowKit
set_option linter.unusedSimpArgs false
set_option linter.unusedVariables false
set_option linter.unusedSectionVars false

/-- Shapes of what a call is handed. 'slice n e': each element takes n cells. -/
inductive TC where
  | int (k : IntKind)
  | bool
  | str
  | slice (n : Nat) (e : TC)
  | struct (fs : List TC)

mutual
def TC.size : TC → Nat
  | .struct fs => TC.sizes fs
  | _ => 1
def TC.sizes : List TC → Nat
  | [] => 0
  | f :: fs => f.size + TC.sizes fs
end

mutual
def tcOk (P : Program) : TypeId → TC → Bool
  | t, .int k => (match P.underlying t with | some (.int k') => decide (k' = k) | _ => false)
  | t, .bool => (match P.underlying t with | some .bool => true | _ => false)
  | t, .str => (match P.underlying t with | some .string => true | _ => false)
  | t, .slice n e => (match P.underlying t with | some (.slice et) => decide (P.cellsOf et = n) && decide (0 < n) && decide (e.size = n) && tcOk P et e | _ => false)
  | t, .struct l => (match P.underlying t with | some (.struct fs) => decide (P.cellsOf t = TC.sizes l) && fsOk P fs.toList l 0 | _ => false)
def fsOk (P : Program) : List Field → List TC → Nat → Bool
  | [], [], _ => true
  | f :: fs, c :: l, off => decide (f.offset = off) && decide (P.cellsOf f.type = c.size) && tcOk P f.type c && fsOk P fs l (off + c.size)
  | _, _, _ => false
end

/-- A slice's elements, each a list of n cells. -/
def Elems (H : Heap) (n : Nat) (v : AV) (css : List (List AV)) : Prop :=
  (∀ c ∈ css, c.length = n) ∧ ((v = .empty ∧ css = []) ∨ ∃ b off lim k, v = .slice b off css.length lim ∧ lim = none ∧ H.blk b = some k ∧ k.e = n ∧ off + css.length * n ≤ k.cells.length ∧ (k.cells.drop off).take (css.length * n) = css.flatten)

mutual
def WF (Pn : Nat → Prop) (H : Heap) : TC → List AV → Prop
  | .int k, cs => ∃ n, cs = [.int k n] ∧ (Lit.int k n).wf = true
  | .bool, cs => ∃ b, cs = [.bool b]
  | .str, cs => ∃ s, cs = [.str s] ∧ s.size ≤ maxLen ∧ Pn s.size
  | .slice n e, cs => ∃ v css, cs = [v] ∧ Elems H n v css ∧ css.length ≤ maxLen ∧ Pn css.length ∧ ∀ c ∈ css, WF Pn H e c
  | .struct fs, cs => WFs Pn H fs cs
def WFs (Pn : Nat → Prop) (H : Heap) : List TC → List AV → Prop
  | [], cs => cs = []
  | f :: fs, cs => ∃ a b, cs = a ++ b ∧ WF Pn H f a ∧ WFs Pn H fs b
end

variable {Pn : Nat → Prop}

theorem blk_append {H : Heap} {b : Nat} {k : Blk} (h : H.blk b = some k) (news : Heap) : Heap.blk (H ++ news) b = some k := by
  have hg := (blk_act h).2.2
  unfold Heap.blk at h ⊢
  rw [List.getElem?_append_left (get_lt hg)]
  exact h

theorem Elems.append {H : Heap} {n : Nat} {v : AV} {css : List (List AV)} (h : Elems H n v css) (news : Heap) : Elems (H ++ news) n v css := by
  refine ⟨h.1, h.2.imp id ?_⟩
  rintro ⟨b, off, lim, k, h1, h0, h2, h3⟩
  exact ⟨b, off, lim, k, h1, h0, blk_append h2 news, h3⟩

mutual
theorem WF.append {H : Heap} : ∀ {tc : TC} {cs : List AV}, WF Pn H tc cs → ∀ news, WF Pn (H ++ news) tc cs
  | .int k, cs, h, news => by simpa only [WF] using h
  | .bool, cs, h, news => by simpa only [WF] using h
  | .str, cs, h, news => by simpa only [WF] using h
  | .slice n e, cs, h, news => by
    simp only [WF] at h ⊢
    obtain ⟨v, css, h1, h2, h3, h5, h4⟩ := h
    exact ⟨v, css, h1, h2.append news, h3, h5, fun c hc => WF.append (h4 c hc) news⟩
  | .struct fs, cs, h, news => by
    simp only [WF] at h ⊢
    exact WFs.append h news
theorem WFs.append {H : Heap} : ∀ {fs : List TC} {cs : List AV}, WFs Pn H fs cs → ∀ news, WFs Pn (H ++ news) fs cs
  | [], cs, h, news => by simpa only [WFs] using h
  | f :: fs, cs, h, news => by
    simp only [WFs] at h ⊢
    obtain ⟨a, b, h1, h2, h3⟩ := h
    exact ⟨a, b, h1, WF.append h2 news, WFs.append h3 news⟩
end

/-- A heap all of whose blocks are the caller's. -/
structure RO (m : BMap) (H : Heap) (w : World) : Prop where
  kid : ∀ (b : Nat) (k : Blk), H[b]? = some k → k.kid = none
  dom : ∀ b l, m b = some l → b < H.length
  es : ∀ (b : Nat) (k : Blk) (l : Loc), H[b]? = some k → m b = some l → l.e = k.e
  cells : ∀ (b : Nat) (k : Blk) (l : Loc), H[b]? = some k → m b = some l → k.cells.length ≤ l.room ∧ CellsAt m w l k.cells
  ro : ∀ b l, m b = some l → l.cb < w.heap.size

theorem RO.sim {m : BMap} {H : Heap} {w : World} (h : RO m H w) : Sim H.length w.heap.size m H w := by
  refine ⟨Nat.le_refl _, Nat.le_refl _, fun b c k hb hk => by rw [h.kid b k hb] at hk; simp at hk, h.es, fun b k l ha hm => ⟨h.es b k l (act_get ha) hm, h.cells b k l (act_get ha) hm⟩, fun b l _ hm => h.ro b l hm, fun b k l hb ha _ => ?_, fun b b' k k' l l' hb _ ha => ?_⟩
  · have := act_lt ha; omega
  · have := act_lt ha; omega

theorem RO.nil (w : World) : RO (fun _ => none) [] w := ⟨fun b k h => by simp at h, fun b l h => by simp at h, fun b k l h => by simp at h, fun b k l h => by simp at h, fun b l h => by simp at h⟩

theorem RO.push {m : BMap} {H : Heap} {w : World} (h : RO m H w) {k : Blk} {l : Loc} (hk : k.kid = none) (he : l.e = k.e) (hr : k.cells.length ≤ l.room) (hc : CellsAt m w l k.cells) (hl : l.cb < w.heap.size) :
    Ext m (upd m H.length l) ∧ RO (upd m H.length l) (H ++ [k]) w := by
  have hn : m H.length = none := by
    cases hm : m H.length with
    | none => rfl
    | some l' => have := h.dom _ _ hm; omega
  have hext := upd_ext l hn
  have hget : ∀ (b : Nat) (k' : Blk), (H ++ [k])[b]? = some k' → (b < H.length ∧ H[b]? = some k') ∨ (b = H.length ∧ k' = k) := fun b k' hb => by
    by_cases e : b < H.length
    · rw [List.getElem?_append_left e] at hb; exact .inl ⟨e, hb⟩
    · rw [List.getElem?_append_right (by omega)] at hb
      cases hq : b - H.length with
      | zero => rw [hq] at hb; simp at hb; exact .inr ⟨by omega, hb.symm⟩
      | succ q => rw [hq] at hb; simp at hb
  refine ⟨hext, fun b k' hb => ?_, fun b l' hm => ?_, fun b k' l' hb hm => ?_, fun b k' l' hb hm => ?_, fun b l' hm => ?_⟩
  · rcases hget b k' hb with ⟨_, h1⟩ | ⟨_, rfl⟩
    · exact h.kid b k' h1
    · exact hk
  · by_cases e : b = H.length
    · subst e; simp
    · rw [upd_ne _ e] at hm; have := h.dom b l' hm; simp; omega
  · rcases hget b k' hb with ⟨h0, h1⟩ | ⟨rfl, rfl⟩
    · rw [upd_ne _ (by omega)] at hm; exact h.es b k' l' h1 hm
    · rw [upd_same] at hm; cases hm; exact he
  · rcases hget b k' hb with ⟨h0, h1⟩ | ⟨rfl, rfl⟩
    · rw [upd_ne _ (by omega)] at hm
      obtain ⟨e1, e2⟩ := h.cells b k' l' h1 hm
      exact ⟨e1, cellsAt_mono e2 hext fun _ _ => rfl⟩
    · rw [upd_same] at hm; cases hm; exact ⟨hr, cellsAt_mono hc hext fun _ _ => rfl⟩
  · by_cases e : b = H.length
    · subst e; rw [upd_same] at hm; cases hm; exact hl
    · rw [upd_ne _ e] at hm; exact h.ro b l' hm

theorem flatten_len {n : Nat} : ∀ {css : List (List AV)}, (∀ c ∈ css, c.length = n) → css.flatten.length = css.length * n
  | [], _ => by simp
  | c :: css, h => by
    rw [List.flatten_cons, List.length_append, flatten_len (fun c hc => h c (by simp [hc])), h c (by simp), List.length_cons, Nat.succ_mul]; omega

theorem flatten_get {n : Nat} (hn : 0 < n) : ∀ {css : List (List AV)}, (∀ c ∈ css, c.length = n) → ∀ (j : Nat) (v : AV), css.flatten[j]? = some v → ∃ c, css[j / n]? = some c ∧ c[j % n]? = some v
  | [], _, j, v, h => by simp at h
  | c :: css, hc, j, v, h => by
    have hcl := hc c (by simp)
    rw [List.flatten_cons] at h
    by_cases hj : j < n
    · rw [List.getElem?_append_left (by omega)] at h
      exact ⟨c, by rw [Nat.div_eq_of_lt hj]; rfl, by rw [Nat.mod_eq_of_lt hj]; exact h⟩
    · rw [List.getElem?_append_right (by omega), hcl] at h
      obtain ⟨c', h1, h2⟩ := flatten_get hn (fun c hc' => hc c (by simp [hc'])) (j - n) v h
      have e1 : j / n = (j - n) / n + 1 := by rw [Nat.div_eq_sub_div hn (by omega)]
      have e2 : j % n = (j - n) % n := Nat.mod_eq_sub_mod (by omega)
      exact ⟨c', by rw [e1]; simpa using h1, by rw [e2]; exact h2⟩

section
variable {P : Program} {W : World} {T : Type} {enc : TypeId × Value → T}

def Read (Pn : Nat → Prop) (W : World) (tc : TC) (cs : List Value) : Prop := ∀ (m : BMap) (H : Heap), RO m H W → ∃ m' news avs, Ext m m' ∧ RO m' (H ++ news) W ∧ VRels m' avs cs ∧ WF Pn (H ++ news) tc avs ∧ avs.length = tc.size

def Reads (Pn : Nat → Prop) (W : World) (l : List TC) (cs : List Value) : Prop := ∀ (m : BMap) (H : Heap), RO m H W → ∃ m' news avs, Ext m m' ∧ RO m' (H ++ news) W ∧ VRels m' avs cs ∧ WFs Pn (H ++ news) l avs ∧ avs.length = TC.sizes l

theorem read_elems {e : TC} {n : Nat} (hsz : e.size = n) : ∀ (css : List (List Value)), (∀ cs ∈ css, Read Pn W e cs) → ∀ (m : BMap) (H : Heap), RO m H W →
    ∃ (m' : BMap) (news : Heap) (avss : List (List AV)), Ext m m' ∧ RO m' (H ++ news) W ∧ avss.length = css.length ∧ (∀ (i : Nat) (a : List AV) (c : List Value), avss[i]? = some a → css[i]? = some c → VRels m' a c) ∧ (∀ a ∈ avss, WF Pn (H ++ news) e a ∧ a.length = n)
  | [], _, m, H, h => ⟨m, [], [], Ext.refl m, by simpa using h, rfl, fun i a c h => by simp at h, fun a h => by simp at h⟩
  | cs :: css, hr, m, H, h => by
    obtain ⟨m1, n1, a1, e1, r1, v1, w1, l1⟩ := hr cs (by simp) m H h
    obtain ⟨m2, n2, as, e2, r2, l2, v2, w2⟩ := read_elems hsz css (fun c hc => hr c (by simp [hc])) m1 (H ++ n1) r1
    refine ⟨m2, n1 ++ n2, a1 :: as, e1.trans e2, by rwa [List.append_assoc] at r2, by simp [l2], fun i a c ha hc => ?_, fun a ha => ?_⟩
    · cases i with
      | zero => simp only [List.getElem?_cons_zero, Option.some.injEq] at ha hc; subst ha; subst hc; exact v1.mono e2
      | succ i => exact v2 i a c (by simpa using ha) (by simpa using hc)
    · rw [← List.append_assoc]
      rcases List.mem_cons.1 ha with rfl | ha
      · exact ⟨w1.append n2, by rw [l1, hsz]⟩
      · exact w2 a ha

theorem read_slice {e : TC} {n : Nat} (hn : 0 < n) (hsz : e.size = n) {a : Addr} {len cap : Nat} (hlc : len ≤ cap) (hcap : cap ≤ maxLen) (hspot : 0 < cap → a.spot = none ∧ a.block < W.heap.size)
    {css : List (List Value)} (hlen : css.length = len) (hP : Pn len) (hcs : ∀ (i : Nat) (c : List Value), css[i]? = some c → c.length = n ∧ (∀ j, j < n → W.cell? ((a.add (i * n)).add j) = c[j]?) ∧ Read Pn W e c) : Read Pn W (.slice n e) [.slice (some a) len cap] := by
  intro m H h
  by_cases h0 : cap = 0
  · have : len = 0 := by omega
    subst this; subst h0
    refine ⟨m, [], [.empty], Ext.refl m, by simpa using h, ⟨⟨_, rfl⟩, trivial⟩, ?_, rfl⟩
    simp only [WF]
    exact ⟨.empty, [], rfl, ⟨fun c hc => by simp at hc, .inl ⟨rfl, rfl⟩⟩, by simp, hP, fun c hc => by simp at hc⟩
  · obtain ⟨hs, hb⟩ := hspot (by omega)
    obtain ⟨m1, n1, avss, e1, r1, l1, v1, w1⟩ := read_elems hsz css (fun c hc => by
      obtain ⟨i, hi⟩ := List.getElem?_of_mem hc
      exact (hcs i c hi).2.2) m H h
    have hall : ∀ c ∈ avss, c.length = n := fun c hc => (w1 c hc).2
    have hfl := flatten_len hall
    obtain ⟨ab, ao, asp⟩ := a
    simp only at hs hb; subst hs
    have hcell : CellsAt m1 W ⟨ab, ao, cap * n, n⟩ avss.flatten := fun j v hv => by
      obtain ⟨c, h1, h2⟩ := flatten_get hn hall j v hv
      have hi : j / n < css.length := by rw [← l1]; exact (List.getElem?_eq_some_iff.1 h1).1
      obtain ⟨cv, hcv⟩ : ∃ cv, css[j / n]? = some cv := ⟨_, List.getElem?_eq_getElem hi⟩
      obtain ⟨g1, g2, _⟩ := hcs _ _ hcv
      obtain ⟨x, x1, x2⟩ := (v1 _ _ _ h1 hcv).get _ _ h2
      refine ⟨x, ?_, x2⟩
      have := g2 (j % n) (Nat.mod_lt _ hn)
      rw [add_mk, add_mk, x1, show ao + j / n * n + j % n = ao + j by have := Nat.div_add_mod j n; rw [Nat.mul_comm] at this; omega] at this
      exact this
    obtain ⟨e2, r2⟩ := r1.push (k := { cells := avss.flatten, e := n }) (l := ⟨ab, ao, cap * n, n⟩) rfl rfl (by rw [hfl, l1, hlen]; exact Nat.mul_le_mul_right _ hlc) hcell hb
    refine ⟨_, n1 ++ [{ cells := avss.flatten, e := n }], [.slice (H ++ n1).length 0 len none], e1.trans e2, by rwa [List.append_assoc] at r2, ⟨⟨_, _, rfl, hlc, _, upd_same _ _ _, ?_, .inl (by simp)⟩, trivial⟩, ?_, rfl⟩
    · show 0 + cap * n = cap * n; omega
    · simp only [WF]
      rw [← List.append_assoc]
      refine ⟨_, avss, rfl, ⟨hall, .inr ⟨_, _, _, _, by rw [l1, hlen], rfl, by unfold Heap.blk; rw [List.getElem?_append_right (Nat.le_refl _)]; simp; rfl, rfl, by rw [hfl]; simp, ?_⟩⟩, by omega, by rw [l1, hlen]; exact hP, fun c hc => (w1 c hc).1.append _⟩
      rw [List.drop_zero, ← hfl, List.take_length]

/-- What is asked of a reading, and handed on to its parts. -/
structure Bd (Pn : Nat → Prop) (B : DataW T → Prop) : Prop where
  zero : Pn 0
  len : ∀ {e s : List (DataW T)}, B (.slice e s) → Pn e.length
  elem : ∀ {e s : List (DataW T)} {x : DataW T}, B (.slice e s) → x ∈ e ++ s → B x
  part : ∀ {l : List (DataW T)} {x : DataW T}, B (.agg l) → x ∈ l → B x
  str : ∀ {s : ByteArray}, B (.lit (.string s.data.toList)) → Pn s.size

variable {B : DataW T → Prop} (hB : Bd Pn B)
include hB

mutual
theorem read_tc : ∀ (tc : TC) (fuel : Nat) (t : TypeId) (cs : List Value) (x : DataW T × List MemPlace), tcOk P t tc = true → DataW.trod enc P W 0 (fun _ => true) true fuel t cs = some x → B x.1 → Read Pn W tc cs
  | .int k, fuel, t, cs, x, hk, h, hb => by
    simp only [tcOk] at hk
    split at hk
    · rename_i k' hu
      simp only [decide_eq_true_eq] at hk; subst hk
      intro m H hr
      have : ∃ n, cs = [.int k' n] ∧ (Lit.int k' n).wf = true := by
        cases fuel with
        | zero => simp [DataW.trod] at h
        | succ fuel =>
          unfold DataW.trod at h
          rw [hu] at h
          split at h <;> simp_all
      obtain ⟨n, rfl, hw⟩ := this
      refine ⟨m, [], [.int k' n], Ext.refl m, by simpa using hr, ⟨rfl, trivial⟩, ?_, rfl⟩
      simp only [WF]; exact ⟨n, rfl, hw⟩
    · simp at hk
  | .bool, fuel, t, cs, x, hk, h, hb => by
    simp only [tcOk] at hk
    split at hk
    · rename_i hu
      intro m H hr
      have : ∃ b, cs = [.bool b] := by
        cases fuel with
        | zero => simp [DataW.trod] at h
        | succ fuel =>
          unfold DataW.trod at h
          rw [hu] at h
          split at h <;> simp_all
      obtain ⟨b, rfl⟩ := this
      refine ⟨m, [], [.bool b], Ext.refl m, by simpa using hr, ⟨rfl, trivial⟩, ?_, rfl⟩
      simp only [WF]; exact ⟨b, rfl⟩
    · simp at hk
  | .str, fuel, t, cs, x, hk, h, hb => by
    simp only [tcOk] at hk
    split at hk
    · rename_i hu
      intro m H hr
      have : ∃ s, cs = [.string s] ∧ s.size ≤ maxLen ∧ (DataW.lit (.string s.data.toList), []) = x := by
        cases fuel with
        | zero => simp [DataW.trod] at h
        | succ fuel =>
          unfold DataW.trod at h
          rw [hu] at h
          split at h <;> simp_all
      obtain ⟨s, rfl, hs0, hxe⟩ := this
      have hs : s.size ≤ maxLen ∧ Pn s.size := ⟨hs0, hB.str (by rw [← hxe] at hb; exact hb)⟩
      refine ⟨m, [], [.str s], Ext.refl m, by simpa using hr, ⟨rfl, trivial⟩, ?_, rfl⟩
      simp only [WF]; exact ⟨s, rfl, hs⟩
    · simp at hk
  | .slice n e, fuel, t, cs, x, hk, h, hb => by
    simp only [tcOk] at hk
    split at hk
    · rename_i et hu
      simp only [Bool.and_eq_true, decide_eq_true_eq] at hk
      obtain ⟨⟨⟨hc, hn⟩, hsz⟩, he⟩ := hk
      rcases DataW.trod_slice hu h with ⟨rfl, _⟩ | ⟨a, len, cap, elems, rest, f, _, rfl, hx, _, hlc, hcap, hel, hels, hrest, _⟩
      · intro m H hr
        refine ⟨m, [], [.empty], Ext.refl m, by simpa using hr, ⟨⟨_, rfl⟩, trivial⟩, ?_, rfl⟩
        simp only [WF]
        exact ⟨.empty, [], rfl, ⟨fun c hc => by simp at hc, .inl ⟨rfl, rfl⟩⟩, by simp, hB.zero, fun c hc => by simp at hc⟩
      · obtain ⟨hrl, hrest⟩ := hrest rfl
        rw [hc] at hels hrest
        rw [hx] at hb
        have hbe : ∀ y ∈ elems ++ rest, B y.1 := fun y hy => hB.elem hb (by rw [← List.map_append]; exact List.mem_map_of_mem hy)
        have hPl : Pn len := by have := hB.len hb; rw [List.length_map, hel] at this; exact this
        have hone : ∀ i y, B y.1 → (W.cells? 0 (a.add (i * n)) n).bind (DataW.trod enc P W 0 (fun _ => true) true f et) = some y → ∃ c : List Value, c.length = n ∧ (∀ j, j < n → W.cell? ((a.add (i * n)).add j) = c[j]?) ∧ Read Pn W e c := fun i y hyb hy => by
          rw [Option.bind_eq_some_iff] at hy
          obtain ⟨c, h1, h2⟩ := hy
          obtain ⟨_, g1, g2⟩ := World.cells?_some h1
          exact ⟨c, g1, g2, read_tc e f et c y he h2 hyb⟩
        have hspot : 0 < cap → a.spot = none ∧ a.block < W.heap.size := fun h0 => by
          have : ∃ y, B y.1 ∧ (W.cells? 0 (a.add (0 * n)) n).bind (DataW.trod enc P W 0 (fun _ => true) true f et) = some y := by
            by_cases hl : 0 < len
            · exact ⟨elems[0], hbe _ (List.mem_append.2 (.inl (List.getElem_mem _))), by rw [hels 0 hl, List.getElem?_eq_getElem]⟩
            · have hl0 : len = 0 := by omega
              have := hrest 0 (by omega)
              rw [hl0, Nat.add_zero] at this
              exact ⟨rest[0], hbe _ (List.mem_append.2 (.inr (List.getElem_mem _))), by rw [this, List.getElem?_eq_getElem]⟩
          obtain ⟨y, hyb, hy⟩ := this
          obtain ⟨c, g1, g2, _⟩ := hone 0 y hyb hy
          have := g2 0 hn
          rw [Nat.zero_mul, List.getElem?_eq_getElem (by omega)] at this
          simp only [Addr.add, if_true] at this
          unfold World.cell? at this
          split at this
          · rename_i cc _ _ hb
            split at this
            · simp at this
            · rename_i hs
              refine ⟨by simpa using hs, ?_⟩
              rcases Nat.lt_or_ge a.block W.heap.size with h | h
              · exact h
              · rw [Array.getElem?_eq_none h] at hb; simp at hb
          · simp at this
        have hall : ∀ k, k ≤ len → ∃ css : List (List Value), css.length = k ∧ ∀ (i : Nat) (c : List Value), css[i]? = some c → c.length = n ∧ (∀ j, j < n → W.cell? ((a.add (i * n)).add j) = c[j]?) ∧ Read Pn W e c := by
          intro k
          induction k with
          | zero => intro _; exact ⟨[], rfl, fun i c h => by simp at h⟩
          | succ k ih =>
            intro hk
            obtain ⟨css, l1, h1⟩ := ih (by omega)
            obtain ⟨c, g⟩ := hone k elems[k] (hbe _ (List.mem_append.2 (.inl (List.getElem_mem _)))) (by rw [hels k (by omega), List.getElem?_eq_getElem])
            refine ⟨css ++ [c], by simp [l1], fun i c' hi => ?_⟩
            by_cases e : i < css.length
            · rw [List.getElem?_append_left e] at hi; exact h1 i c' hi
            · rw [List.getElem?_append_right (by omega)] at hi
              cases hq : i - css.length with
              | zero =>
                rw [hq] at hi; simp at hi; subst hi
                have : i = k := by omega
                subst this; exact g
              | succ q => rw [hq] at hi; simp at hi
        obtain ⟨css, l1, h1⟩ := hall len (Nat.le_refl _)
        exact read_slice hn hsz hlc hcap hspot l1 hPl h1
    · simp at hk
  | .struct l, fuel, t, cs, x, hk, h, hb => by
    simp only [tcOk] at hk
    split at hk
    · rename_i fs hu
      simp only [Bool.and_eq_true, decide_eq_true_eq] at hk
      obtain ⟨hc, hfs⟩ := hk
      obtain ⟨xs, n, _, hx, hlen, hxl, hf⟩ := DataW.trod_struct hu h
      rw [hx] at hb
      have := read_fs l n fs.toList 0 cs (by rw [hlen, hc]; omega) hfs fun i f hi => by
        have := hf i f (by simpa using hi)
        have hil : i < xs.length := by rw [hxl]; simpa using (List.getElem?_eq_some_iff.1 hi).1
        exact ⟨xs[i], by rw [this, List.getElem?_eq_getElem hil], hB.part hb (List.mem_map_of_mem (List.getElem_mem hil))⟩
      intro m H hr
      obtain ⟨m', news, avs, h1, h2, h3, h4, h5⟩ := this m H hr
      rw [List.drop_zero] at h3
      exact ⟨m', news, avs, h1, h2, h3, by simpa only [WF] using h4, by simpa only [TC.size] using h5⟩
    · simp at hk
theorem read_fs : ∀ (l : List TC) (fuel : Nat) (fs : List Field) (off : Nat) (cs : List Value), cs.length = off + TC.sizes l → fsOk P fs l off = true →
    (∀ (i : Nat) (f : Field), fs[i]? = some f → ∃ y, DataW.trod enc P W 0 (fun _ => true) true fuel f.type ((cs.drop f.offset).take (P.cellsOf f.type)) = some y ∧ B y.1) → Reads Pn W l (cs.drop off)
  | [], fuel, fs, off, cs, hl, hk, h => by
    intro m H hr
    refine ⟨m, [], [], Ext.refl m, by simpa using hr, ?_, ?_, rfl⟩
    · rw [List.drop_eq_nil_of_le (by rw [hl]; simp [TC.sizes])]; trivial
    · simp only [WFs]
  | c :: l, fuel, fs, off, cs, hl, hk, h => by
    cases fs with
    | nil => simp [fsOk] at hk
    | cons f fs =>
      simp only [fsOk, Bool.and_eq_true, decide_eq_true_eq] at hk
      obtain ⟨⟨⟨h1, h2⟩, h3⟩, h4⟩ := hk
      simp only [TC.sizes] at hl
      obtain ⟨y, hy, hyb⟩ := h 0 f rfl
      rw [h1, h2] at hy
      have r1 := read_tc c fuel f.type _ y h3 hy hyb
      have r2 := read_fs l fuel fs (off + c.size) cs (by omega) h4 fun i f hi => h (i + 1) f (by simpa using hi)
      intro m H hr
      obtain ⟨m1, n1, a1, e1, o1, v1, w1, l1⟩ := r1 m H hr
      obtain ⟨m2, n2, a2, e2, o2, v2, w2, l2⟩ := r2 m1 (H ++ n1) o1
      refine ⟨m2, n1 ++ n2, a1 ++ a2, e1.trans e2, by rwa [List.append_assoc] at o2, ?_, ?_, by simp [TC.sizes, l1, l2]⟩
      · have := VRels.append (v1.mono e2) v2
        have hs : (cs.drop off).take c.size ++ cs.drop (off + c.size) = cs.drop off := by
          rw [← List.drop_drop, List.take_append_drop]
        rwa [hs] at this
      · simp only [WFs]
        rw [← List.append_assoc]
        exact ⟨a1, a2, rfl, w1.append n2, w2⟩
end

/-! ### Arguments -/

def WFv (Pn : Nat → Prop) (H : Heap) (tc : TC) (v : AV) : Prop :=
  match tc with
  | .struct fs => ∃ cs, v = .agg cs ∧ WFs Pn H fs cs
  | tc => WF Pn H tc [v]

def WFvs (Pn : Nat → Prop) (H : Heap) : List TC → List AV → Prop
  | [], [] => True
  | tc :: tcs, v :: vs => WFv Pn H tc v ∧ WFvs Pn H tcs vs
  | _, _ => False

omit hB in
theorem WFv.append {H : Heap} {tc : TC} {v : AV} (h : WFv Pn H tc v) (news : Heap) : WFv Pn (H ++ news) tc v := by
  cases tc with
  | struct fs => obtain ⟨cs, h1, h2⟩ := h; exact ⟨cs, h1, h2.append news⟩
  | _ => exact WF.append h news

def tcsOk (P : Program) : List TypeId → List TC → Bool
  | [], [] => true
  | t :: ts, c :: cs => tcOk P t c && tcsOk P ts cs
  | _, _ => false

theorem read_arg {tc : TC} {t : TypeId} {v : Value} {x : DataW T} {ps : List MemPlace} {base : Nat} (hk : tcOk P t tc = true) (h : DataW.Trod enc P W 0 (fun _ => true) true t v x ps) (hok : Value.okWide P W .any base t v) (hb : B x) :
    ∀ (m : BMap) (H : Heap), RO m H W → ∃ m' news av, Ext m m' ∧ RO m' (H ++ news) W ∧ VRel m' av v ∧ WFv Pn (H ++ news) tc av := by
  intro m H hr
  obtain ⟨fuel, hf⟩ := h
  have key := read_tc hB tc fuel t _ _ hk hf hb
  cases tc with
  | struct l =>
    simp only [tcOk] at hk
    split at hk
    · rename_i fs hu
      obtain ⟨cs, rfl, _⟩ := okWide_struct hu hok
      obtain ⟨m', news, avs, h1, h2, h3, h4, h5⟩ := key m H hr
      exact ⟨m', news, .agg avs, h1, h2, ⟨cs.toList, rfl, h3⟩, avs, rfl, by simpa only [WF] using h4⟩
    · simp at hk
  | int k =>
    simp only [tcOk] at hk
    split at hk
    · rename_i k' hu
      obtain ⟨n, rfl⟩ := okWide_int hu hok
      obtain ⟨m', news, avs, h1, h2, h3, h4, h5⟩ := key m H hr
      obtain ⟨av, rfl⟩ : ∃ av, avs = [av] := List.length_eq_one_iff.1 h5
      exact ⟨m', news, av, h1, h2, h3.1, h4⟩
    · simp at hk
  | bool =>
    simp only [tcOk] at hk
    split at hk
    · rename_i hu
      obtain ⟨n, rfl⟩ := okWide_bool hu hok
      obtain ⟨m', news, avs, h1, h2, h3, h4, h5⟩ := key m H hr
      obtain ⟨av, rfl⟩ : ∃ av, avs = [av] := List.length_eq_one_iff.1 h5
      exact ⟨m', news, av, h1, h2, h3.1, h4⟩
    · simp at hk
  | str =>
    simp only [tcOk] at hk
    split at hk
    · rename_i hu
      obtain ⟨n, rfl⟩ := okWide_string hu hok
      obtain ⟨m', news, avs, h1, h2, h3, h4, h5⟩ := key m H hr
      obtain ⟨av, rfl⟩ : ∃ av, avs = [av] := List.length_eq_one_iff.1 h5
      exact ⟨m', news, av, h1, h2, h3.1, h4⟩
    · simp at hk
  | slice n e =>
    simp only [tcOk] at hk
    split at hk
    · rename_i et hu
      obtain ⟨a, len, cap, rfl⟩ := okWide_slice hu hok
      obtain ⟨m', news, avs, h1, h2, h3, h4, h5⟩ := key m H hr
      obtain ⟨av, rfl⟩ : ∃ av, avs = [av] := List.length_eq_one_iff.1 h5
      exact ⟨m', news, av, h1, h2, h3.1, h4⟩
    · simp at hk

omit hB in
theorem WFvs.append {H : Heap} : ∀ {tcs : List TC} {vs : List AV}, WFvs Pn H tcs vs → ∀ news, WFvs Pn (H ++ news) tcs vs
  | [], [], _, _ => trivial
  | _ :: _, _ :: _, ⟨h1, h2⟩, news => ⟨h1.append news, h2.append news⟩

theorem read_args {base : Nat} : ∀ {tcs : List TC} {ts : List TypeId} {vs : List Value} {ds : List (DataW T)} {ps : List MemPlace}, tcsOk P ts tcs = true → DataW.TrodAll enc P W 0 (fun _ => true) true ts vs ds ps →
    (∀ (j : Nat) t v, ts[j]? = some t → vs[j]? = some v → Value.okWide P W .any base t v) → (∀ d ∈ ds, B d) → ∀ (m : BMap) (H : Heap), RO m H W → ∃ m' news avs, Ext m m' ∧ RO m' (H ++ news) W ∧ VRels m' avs vs ∧ WFvs Pn (H ++ news) tcs avs
  | [], [], [], [], ps, _, _, _, _, m, H, hr => ⟨m, [], [], Ext.refl m, by simpa using hr, trivial, trivial⟩
  | tc :: tcs, t :: ts, v :: vs, d :: ds, ps, hk, h, hok, hbs, m, H, hr => by
    obtain ⟨p, q, h1, h2, _⟩ := h
    simp only [tcsOk, Bool.and_eq_true] at hk
    obtain ⟨m1, n1, a1, e1, o1, v1, w1⟩ := read_arg hB hk.1 h1 (hok 0 t v rfl rfl) (hbs d (by simp)) m H hr
    obtain ⟨m2, n2, a2, e2, o2, v2, w2⟩ := read_args hk.2 h2 (fun j t v ht hv => hok (j + 1) t v (by simpa using ht) (by simpa using hv)) (fun x hx => hbs x (by simp [hx])) m1 (H ++ n1) o1
    refine ⟨m2, n1 ++ n2, a1 :: a2, e1.trans e2, by rwa [List.append_assoc] at o2, ⟨v1.mono e2, v2⟩, ?_⟩
    rw [← List.append_assoc]
    exact ⟨w1.append n2, w2⟩
  | [], t :: ts, _, _, _, hk, _, _, _, _, _, _ => by simp [tcsOk] at hk
  | _ :: _, [], _, _, _, hk, _, _, _, _, _, _ => by simp [tcsOk] at hk
  | [], [], _ :: _, _, _, _, h, _, _, _, _, _ => h.elim
  | [], [], [], _ :: _, _, _, h, _, _, _, _, _ => h.elim
  | _ :: _, _ :: _, [], _, _, _, h, _, _, _, _, _ => h.elim
  | _ :: _, _ :: _, _ :: _, [], _, _, h, _, _, _, _, _ => h.elim

end

/-- WHAT A CALL WITH GIVEN ARGUMENTS DOES: where the abstract machine says 'true', the call returns true and turns nothing that was there. -/
theorem calls_true {P : Program} (hmix : P.follows .mixedOrders = true) {f : FuncId} {tcs : List TC} (hcore : ∀ (H : Heap) (avs : List AV), WFvs Pn H tcs avs → ∃ n H', rcall (table P) n H.length f avs H = some (.bool true, H'))
    {T : Type} {enc : TypeId × Value → T} {B : DataW T → Prop} (hB : Bd Pn B) {W : World} {base : Nat} {ts : List TypeId} {args : Array Value} {ds : List (DataW T)} {ps : List MemPlace} (hbs : ∀ d ∈ ds, B d) (hk : tcsOk P ts tcs = true) (h : DataW.TrodAll enc P W 0 (fun _ => true) true ts args.toList ds ps)
    (hok : ∀ (j : Nat) t v, ts[j]? = some t → args.toList[j]? = some v → Value.okWide P W .any base t v) : Calls P f args W fun e W' => e = .returned (.bool true) ∧ Below W.heap.size W W' := by
  obtain ⟨m, news, avs, _, hr, hv, hw⟩ := read_args hB hk h hok hbs _ [] (RO.nil W)
  rw [List.nil_append] at hr hw
  obtain ⟨n, H', hrun⟩ := hcore news avs hw
  obtain ⟨_, hs⟩ := call_sound hmix n _ _ _ _ _ _ hrun
  have := hs news.length W.heap.size m W args.toList (Nat.le_refl _) hr.sim hv fun b hb _ => by
    cases hm : m b with
    | none => rfl
    | some l => have := hr.dom b l hm; omega
  have ha : (⟨args.toList⟩ : Array Value) = args := by simp
  rw [ha] at this
  refine Calls.mono this fun e W' he => ?_
  obtain ⟨v', m', rfl, hv', hst⟩ := he
  cases hv'
  refine ⟨rfl, hst.os, hst.tape, hst.output, hst.size, fun k hk => hst.frame k hk ?_⟩
  rintro ⟨b, kb, l, h1, h2, _⟩
  have := act_lt h2; omega

end Go.RM

/-
  Operations that cannot harm are run whether they are wanted or not: a pass over the abstract machine's code, and that it keeps what the code computes.
-/
namespace Go.RM
set_option linter.unusedSimpArgs false
set_option linter.unusedVariables false

abbrev Gd := Option (Nat × Bool)

def gEq : Gd → Gd → Bool
  | none, none => true
  | some (i, b), some (j, c) => i == j && b == c
  | _, _ => false

theorem gEq_eq {a b : Gd} (h : gEq a b = true) : a = b := by
  cases a <;> cases b <;> simp_all [gEq]
  rename_i x y
  exact Prod.ext h.1 h.2

/-- Where g is met, so is g'. -/
def implG (gs : List Gd) : Nat → Gd → Gd → Bool
  | _, _, none => true
  | 0, g, g' => gEq g g'
  | n + 1, g, g' => gEq g g' || (match g with | some (k, _) => implG gs n (gs.getD k none) g' | none => false)

def locOk (gs : List Gd) (g : Gd) : RX → Bool
  | .loc j => decide (j < gs.length) && implG gs gs.length g (gs.getD j none)
  | _ => true

def locOkP (gs : List Gd) (g : Gd) (c : RX) (b : Bool) : RX → Bool
  | .loc j => decide (j < gs.length) && (implG gs gs.length g (gs.getD j none) || (match c with | .loc k => gEq (gs.getD j none) (some (k, b)) | _ => false))
  | _ => true

def opOk (gs : List Gd) (g : Gd) : ROp → Bool
  | .pick c a b => locOk gs g c && locOkP gs g c true a && locOkP gs g c false b
  | r => r.rxs.all (locOk gs g)

def tame : ROp → Bool
  | .move _ => true
  | .pick .. => true
  | .bin op .. => (match op with | .quo => false | .rem => false | .shl => false | .shr => false | _ => true)
  | .un .. => true
  | .field .. => true
  | .convInt .. => true
  | .len _ => true
  | .lenStr _ => true
  | .build .. => true
  | .extract .. => true
  | .min .. => true
  | .max .. => true
  | _ => false

def chooseU (gs : List Gd) (ch : List Bool) (o : ROper) : Bool :=
  o.guard.isSome && o.dst.isNone && tame o.op && (o.op.rxs.all fun | .loc j => (gs.getD j none).isNone || ch.getD j false | _ => true)

def checkU (gs : List Gd) (ch : List Bool) (o : ROper) (w : Bool) : Bool :=
  opOk gs o.guard o.op && (match o.guard with | some (k, _) => decide (k < gs.length) && (w || (gs.getD k none).isNone || !ch.getD k false) | none => true) && (!w || (o.dst.isNone && pureR o.op))

def ugOps : List ROper → List Gd → List Bool → Option (List ROper)
  | [], _, _ => some []
  | o :: l, gs, ch =>
    let w := chooseU gs ch o
    if checkU gs ch o w then (ugOps l (gs ++ [o.guard]) (ch ++ [w])).map ((if w then { o with guard := none } else o) :: ·) else none

def ugCode : RCode → RCode
  | .ops l => (match ugOps l [] [] with | some l' => .ops l' | none => .ops l)
  | .seq a b => .seq (ugCode a) (ugCode b)
  | .cond x a b => .cond x (ugCode a) (ugCode b)
  | .block id c => .block id (ugCode c)
  | .loop c => .loop (ugCode c)
  | c => c

def ugFunc (f : RFunc) : RFunc := { f with body := ugCode f.body }

/-- The table of the functions, with both passes done. -/
def tableU (P : Program) (f : Nat) : Option RFunc := (tableO P f).map ugFunc

structure UL (gs : List Gd) (ch : List Bool) (LA LB : List AV) : Prop where
  lg : gs.length = LA.length
  lc : ch.length = LA.length
  ll : LB.length = LA.length
  kept : ∀ j, j < LA.length → ch.getD j false = false → LA[j]? = LB[j]?
  same : ∀ j, j < LA.length → wantedB (gs.getD j none) LA = true → LA[j]? = LB[j]?
  skip : ∀ j, j < LA.length → wantedB (gs.getD j none) LA = false → LA[j]? = some .undef
  back : ∀ j k b, j < LA.length → gs.getD j none = some (k, b) → k < j

theorem wanted_some {k : Nat} {b : Bool} {L : List AV} (h : wantedB (some (k, b)) L = true) : L[k]? = some (.bool b) := by
  simp only [wantedB] at h
  split at h
  · rename_i b' hb; simp only [beq_iff_eq] at h; subst h; exact hb
  · simp at h

theorem impl_wanted {gs : List Gd} {ch : List Bool} {LA LB : List AV} (U : UL gs ch LA LB) : ∀ (n : Nat) {g g' : Gd}, implG gs n g g' = true → wantedB g LA = true → wantedB g' LA = true
  | _, _, none, _, _ => rfl
  | 0, g, some g', h, hw => by simp only [implG] at h; rw [← gEq_eq h]; exact hw
  | n + 1, g, some g', h, hw => by
    simp only [implG, Bool.or_eq_true] at h
    rcases h with h | h
    · rw [← gEq_eq h]; exact hw
    · cases g with
      | none => simp at h
      | some p =>
        obtain ⟨k, b⟩ := p
        simp only at h
        have hk := wanted_some hw
        have hkl : k < LA.length := by
          rcases Nat.lt_or_ge k LA.length with h' | h'
          · exact h'
          · rw [List.getElem?_eq_none h'] at hk; simp at hk
        refine impl_wanted U n h ?_
        cases hq : wantedB (gs.getD k none) LA with
        | true => rfl
        | false => have := U.skip k hkl hq; rw [hk] at this; simp [AV.undef] at this

theorem locOk_eq {gs : List Gd} {ch : List Bool} {LA LB E : List AV} (U : UL gs ch LA LB) {g : Gd} (hw : wantedB g LA = true) {rx : RX} (h : locOk gs g rx = true) : RX.ev LA E rx = RX.ev LB E rx := by
  cases rx with
  | var y => rfl
  | k v => rfl
  | loc j =>
    simp only [locOk, Bool.and_eq_true, decide_eq_true_eq] at h
    have := U.same j (by rw [← U.lg]; exact h.1) (impl_wanted U _ h.2 hw)
    simp only [RX.ev, List.getD_eq_getElem?_getD, this]

theorem locOkP_eq {gs : List Gd} {ch : List Bool} {LA LB E : List AV} (U : UL gs ch LA LB) {g : Gd} (hw : wantedB g LA = true) {c : RX} {b : Bool} (hc : RX.ev LA E c = .bool b) {rx : RX} (h : locOkP gs g c b rx = true) : RX.ev LA E rx = RX.ev LB E rx := by
  cases rx with
  | var y => rfl
  | k v => rfl
  | loc j =>
    simp only [locOkP, Bool.and_eq_true, Bool.or_eq_true, decide_eq_true_eq] at h
    have hj : j < LA.length := by rw [← U.lg]; exact h.1
    have hs : wantedB (gs.getD j none) LA = true := by
      rcases h.2 with h2 | h2
      · exact impl_wanted U _ h2 hw
      · cases c with
        | loc k =>
          simp only at h2
          rw [gEq_eq h2]
          simp only [RX.ev, List.getD_eq_getElem?_getD] at hc
          cases hk : LA[k]? with
          | none => rw [hk] at hc; simp [AV.undef] at hc
          | some v => rw [hk] at hc; simp only [Option.getD_some] at hc; subst hc; simp [wantedB, hk]
        | var _ => simp at h2
        | k _ => simp at h2
    have := U.same j hj hs
    simp only [RX.ev, List.getD_eq_getElem?_getD, this]

theorem rop_same {gs : List Gd} {ch : List Bool} {LA LB E : List AV} (U : UL gs ch LA LB) {g : Gd} (hw : wantedB g LA = true) {call : Nat → Nat → List AV → Heap → Option (AV × Heap)} {fl : Nat} {free : Bool} {H : Heap} {r : ROp} (h : opOk gs g r = true) :
    rop call fl free (RX.ev LA E) H r = rop call fl free (RX.ev LB E) H r := by
  have gen : r.rxs.all (locOk gs g) = true → rop call fl free (RX.ev LA E) H r = rop call fl free (RX.ev LB E) H r := fun h => rop_congr fun rx hrx => locOk_eq U hw (List.all_eq_true.1 h rx hrx)
  cases r <;> simp only [opOk] at h <;> try exact gen h
  rename_i c a b
  simp only [Bool.and_eq_true] at h
  obtain ⟨⟨h1, h2⟩, h3⟩ := h
  have hc := locOk_eq (E := E) U hw h1
  simp only [rop]
  rw [← hc]
  cases hv : RX.ev LA E c <;> try rfl
  rename_i t
  cases t with
  | true => simp only [pickV_true]; rw [locOkP_eq U hw hv h2]
  | false => simp only [pickV_false]; rw [locOkP_eq U hw hv h3]

theorem wanted_app {g : Gd} {L : List AV} {v : AV} (h : ∀ k b, g = some (k, b) → k < L.length) : wantedB g (L ++ [v]) = wantedB g L := by
  cases g with
  | none => rfl
  | some p =>
    obtain ⟨k, b⟩ := p
    simp only [wantedB, snoc_lt v (h k b rfl)]

theorem UL.next {gs : List Gd} {ch : List Bool} {LA LB : List AV} (U : UL gs ch LA LB) {g : Gd} (hg : ∀ k b, g = some (k, b) → k < LA.length) {w : Bool} {vA vB : AV} (h1 : w = false → vA = vB) (h2 : wantedB g LA = true → vA = vB) (h3 : wantedB g LA = false → vA = .undef) :
    UL (gs ++ [g]) (ch ++ [w]) (LA ++ [vA]) (LB ++ [vB]) := by
  have hgs : ∀ j, j < LA.length → (gs ++ [g]).getD j none = gs.getD j none := fun j hj => by simp only [List.getD_eq_getElem?_getD, snoc_lt g (show j < gs.length by rw [U.lg]; exact hj)]
  have hgl : (gs ++ [g]).getD LA.length none = g := by rw [← U.lg, List.getD_eq_getElem?_getD, snoc_end]; rfl
  have hch : ∀ j, j < LA.length → (ch ++ [w]).getD j false = ch.getD j false := fun j hj => by simp only [List.getD_eq_getElem?_getD, snoc_lt w (show j < ch.length by rw [U.lc]; exact hj)]
  have hcl : (ch ++ [w]).getD LA.length false = w := by rw [← U.lc, List.getD_eq_getElem?_getD, snoc_end]; rfl
  have hwj : ∀ j, j < LA.length → wantedB (gs.getD j none) (LA ++ [vA]) = wantedB (gs.getD j none) LA := fun j hj => wanted_app fun k b e => by have := U.back j k b hj e; omega
  have hwg : wantedB g (LA ++ [vA]) = wantedB g LA := wanted_app hg
  have hA : ∀ j, j < LA.length → (LA ++ [vA])[j]? = LA[j]? ∧ (LB ++ [vB])[j]? = LB[j]? := fun j hj => ⟨snoc_lt vA hj, snoc_lt vB (by rw [U.ll]; exact hj)⟩
  have hAl : (LA ++ [vA])[LA.length]? = some vA ∧ (LB ++ [vB])[LA.length]? = some vB := ⟨snoc_end _ _, by rw [← U.ll]; exact snoc_end _ _⟩
  have split : ∀ {j}, j < (LA ++ [vA]).length → j < LA.length ∨ j = LA.length := fun h => by simp at h; omega
  refine ⟨by simp [U.lg], by simp [U.lc], by simp [U.ll], fun j hj hc => ?_, fun j hj hc => ?_, fun j hj hc => ?_, fun j k b hj hc => ?_⟩
  · rcases split hj with h | rfl
    · rw [(hA j h).1, (hA j h).2]; rw [hch j h] at hc; exact U.kept j h hc
    · rw [hcl] at hc; rw [hAl.1, hAl.2, h1 hc]
  · rcases split hj with h | rfl
    · rw [hgs j h, hwj j h] at hc
      rw [(hA j h).1, (hA j h).2]; exact U.same j h hc
    · rw [hgl, hwg] at hc; rw [hAl.1, hAl.2, h2 hc]
  · rcases split hj with h | rfl
    · rw [hgs j h, hwj j h] at hc
      rw [(hA j h).1]; exact U.skip j h hc
    · rw [hgl, hwg] at hc; rw [hAl.1, h3 hc]
  · rcases split hj with h | rfl
    · rw [hgs j h] at hc; exact U.back j k b h hc
    · rw [hgl] at hc; exact hg k b hc

def CallSub (callB callA : Nat → Nat → List AV → Heap → Option (AV × Heap)) : Prop := ∀ fl g args H r, callB fl g args H = some r → callA fl g args H = some r

theorem rop_sub {callB callA : Nat → Nat → List AV → Heap → Option (AV × Heap)} (h : CallSub callB callA) {fl : Nat} {free : Bool} {X : RX → AV} {H : Heap} {r : ROp} {x : AV × Heap} (hr : rop callB fl free X H r = some x) : rop callA fl free X H r = some x := by
  cases r with
  | call f args =>
    simp only [rop] at hr ⊢
    split at hr
    · exact h _ _ _ _ _ hr
    · simp at hr
  | callS f args => exact h _ _ _ _ _ hr
  | _ => exact hr

theorem ug_rops {callB callA : Nat → Nat → List AV → Heap → Option (AV × Heap)} (hcall : CallSub callB callA) {fl : Nat} {E : List AV} : ∀ {l l' : List ROper} {gs : List Gd} {ch : List Bool} {LA LB LB' : List AV} {H H' : Heap}, ugOps l gs ch = some l' → UL gs ch LA LB →
    rops callB fl E l' LB H = some (LB', H') → ∃ LA', rops callA fl E l LA H = some (LA', H') ∧ LA'.take LA.length = LA ∧ LB'.take LB.length = LB ∧ LA.length ≤ LA'.length ∧ ∀ E0, putAll l (LA'.drop LA.length) E0 = putAll l' (LB'.drop LB.length) E0
  | [], l', gs, ch, LA, LB, LB', H, H', hu, U, hr => by
    simp only [ugOps, Option.some.injEq] at hu; subst hu
    simp only [rops, Option.some.injEq, Prod.mk.injEq] at hr
    obtain ⟨rfl, rfl⟩ := hr
    exact ⟨LA, rfl, by simp, by simp, Nat.le_refl _, fun E0 => by simp [putAll]⟩
  | o :: l, l', gs, ch, LA, LB, LB', H, H', hu, U, hr => by
    simp only [ugOps] at hu
    split at hu
    · rename_i hck
      simp only [Option.map_eq_some_iff] at hu
      obtain ⟨l1, h2, rfl⟩ := hu
      simp only [checkU, Bool.and_eq_true] at hck
      obtain ⟨⟨hop, hgd⟩, hpu⟩ := hck
      generalize hw : chooseU gs ch o = w at *
      have hg : ∀ k b, o.guard = some (k, b) → k < LA.length := fun k b e => by
        rw [e] at hgd
        simp only [Bool.and_eq_true, decide_eq_true_eq] at hgd
        rw [← U.lg]; exact hgd.1
      have key : ∀ (vA vB : AV) (H1 : Heap), UL (gs ++ [o.guard]) (ch ++ [w]) (LA ++ [vA]) (LB ++ [vB]) → rops callB fl E l1 (LB ++ [vB]) H1 = some (LB', H') → (∀ E0, putDst o.dst vA E0 = putDst o.dst vB E0) →
          ∃ LA', rops callA fl E l (LA ++ [vA]) H1 = some (LA', H') ∧ LA'.take LA.length = LA ∧ LB'.take LB.length = LB ∧ LA.length ≤ LA'.length ∧ ∀ E0, putAll (o :: l) (LA'.drop LA.length) E0 = putAll ((if w = true then { o with guard := none } else o) :: l1) (LB'.drop LB.length) E0 := fun vA vB H1 U1 hr1 hd => by
        obtain ⟨LA', r1, r2, r3, r4, r5⟩ := ug_rops hcall h2 U1 hr1
        have hdr : ∀ {L L' : List AV} {u : AV}, L'.take (L ++ [u]).length = L ++ [u] → L'.drop L.length = u :: L'.drop (L ++ [u]).length ∧ L'.take L.length = L := fun {L L' u} ht => by
          constructor
          · conv => lhs; rw [← List.take_append_drop (L ++ [u]).length L', ht]
            rw [List.append_assoc, List.drop_append_of_le_length (Nat.le_refl _)]
            simp
          · have := congrArg (List.take L.length) ht
            rw [List.take_take] at this
            simpa using this
        obtain ⟨a1, a2⟩ := hdr r2
        obtain ⟨b1, b2⟩ := hdr r3
        refine ⟨LA', r1, a2, b2, by simp at r4; omega, fun E0 => ?_⟩
        rw [a1, b1]
        have hdst : (if w = true then { o with guard := none } else o).dst = o.dst := by split <;> rfl
        simp only [putAll, hdst, hd]
        exact r5 _
      -- what the changed list does at its head
      cases hwv : w with
      | false =>
        rw [hwv] at hr key hgd
        simp only [Bool.false_eq_true, if_false] at hr key
        have hsame : wantedB o.guard LA = wantedB o.guard LB := by
          cases hgo : o.guard with
          | none => rfl
          | some p =>
            obtain ⟨k, b⟩ := p
            rw [hgo] at hgd
            simp only [Bool.false_or, Bool.and_eq_true, Bool.or_eq_true, decide_eq_true_eq, Option.isNone_iff_eq_none, Bool.not_eq_true'] at hgd
            have hk : k < LA.length := by rw [← U.lg]; exact hgd.1
            have : LA[k]? = LB[k]? := by
              rcases hgd.2 with h | h
              · exact U.same k hk (by rw [h]; rfl)
              · exact U.kept k hk h
            simp only [wantedB, this]
        simp only [rops] at hr ⊢
        rw [hsame]
        split at hr
        · rename_i hwB
          split at hr
          · rename_i v H1 hv
            have hwA : wantedB o.guard LA = true := by rw [hsame]; exact hwB
            have hvA := rop_sub hcall hv
            rw [← rop_same U hwA hop] at hvA
            obtain ⟨LA', r1, r2⟩ := key v v H1 (by exact U.next hg (fun _ => rfl) (fun _ => rfl) (fun h => by rw [hwA] at h; simp at h)) hr (fun _ => rfl)
            exact ⟨LA', by rw [if_pos hwB, hvA]; exact r1, r2⟩
          · simp at hr
        · rename_i hwB
          have hwA : wantedB o.guard LA = false := by rw [hsame]; simpa using hwB
          obtain ⟨LA', r1, r2⟩ := key .undef .undef H (by exact U.next hg (fun _ => rfl) (fun _ => rfl) (fun _ => rfl)) hr (fun _ => rfl)
          exact ⟨LA', by rw [if_neg hwB]; exact r1, r2⟩
      | true =>
        rw [hwv] at hr key hpu
        simp only [if_true, Bool.not_true, Bool.false_or, Bool.and_eq_true, Option.isNone_iff_eq_none] at hr key hpu
        have hd : ∀ vA vB E0, putDst o.dst vA E0 = putDst o.dst vB E0 := fun vA vB E0 => by rw [hpu.1]; rfl
        simp only [rops, wantedB, if_true] at hr
        split at hr
        · rename_i v H1 hv
          have hH := (rop_pure hpu.2 hv).1
          subst hH
          simp only [rops]
          cases hwA : wantedB o.guard LA with
          | true =>
            have hvA := rop_sub hcall hv
            rw [← rop_same U hwA hop] at hvA
            obtain ⟨LA', r1, r2⟩ := key v v H1 (by exact U.next hg (fun _ => rfl) (fun _ => rfl) (fun h => by rw [hwA] at h; simp at h)) hr (fun _ => rfl)
            exact ⟨LA', by rw [if_pos rfl, hvA]; exact r1, r2⟩
          | false =>
            obtain ⟨LA', r1, r2⟩ := key .undef v H1 (by exact U.next hg (fun h => by simp at h) (fun h => by rw [hwA] at h; simp at h) (fun _ => rfl)) hr (hd _ _)
            exact ⟨LA', by rw [if_neg (by simp)]; exact r1, r2⟩
        · simp at hr
    · simp at hu

def ExecSub (TB TA : Nat → Option RFunc) (n : Nat) : Prop := ∀ fl c E H r, rexec TB n fl (ugCode c) E H = some r → rexec TA n fl c E H = some r

theorem UL.nil : UL [] [] [] [] := ⟨rfl, rfl, rfl, fun j h => by simp at h, fun j h => by simp at h, fun j h => by simp at h, fun j k b h => by simp at h⟩

theorem ug_all {TA : Nat → Option RFunc} : ∀ n, ExecSub (fun f => (TA f).map ugFunc) TA n ∧ CallSub (rcall (fun f => (TA f).map ugFunc) n) (rcall TA n)
  | 0 => ⟨fun fl c E H r h => by simp [rexec] at h, fun fl g args H r h => by simp [rcall] at h⟩
  | n + 1 => by
    obtain ⟨h1, h2⟩ := ug_all (TA := TA) n
    constructor
    · intro fl c E H r h
      cases c <;> simp only [ugCode] at h
      case ops l =>
        split at h
        · rename_i l' hu
          rw [rexec] at h ⊢
          simp only [Option.map_eq_some_iff] at h ⊢
          obtain ⟨⟨LB, H1⟩, hr, rfl⟩ := h
          obtain ⟨LA', r1, _, _, _, r5⟩ := ug_rops h2 hu UL.nil hr
          have := r5 E
          simp only [List.length_nil, List.drop_zero] at this
          exact ⟨(LA', H1), r1, by simp [this]⟩
        · rw [rexec] at h ⊢
          simp only [Option.map_eq_some_iff] at h ⊢
          obtain ⟨x, hr, rfl⟩ := h
          exact ⟨x, rops_grow h2 hr, rfl⟩
      case seq a b =>
        rw [rexec] at h ⊢
        cases hh : rexec (fun f => (TA f).map ugFunc) n fl (ugCode a) E H with
        | none => rw [hh] at h; simp at h
        | some r1 =>
          rw [hh] at h; rw [h1 _ _ _ _ _ hh]
          obtain ⟨o, E1, H1⟩ := r1
          cases o <;> simp only at h ⊢ <;> first | exact h1 _ _ _ _ _ h | exact h
      case cond x a b =>
        rw [rexec] at h ⊢
        cases hx : x.ev [] E <;> simp only [hx] at h ⊢ <;> try (simp at h; done)
        rename_i bb
        cases bb <;> exact h1 _ _ _ _ _ h
      case block id a =>
        rw [rexec] at h ⊢
        cases hh : rexec (fun f => (TA f).map ugFunc) n fl (ugCode a) E H with
        | none => rw [hh] at h; simp at h
        | some r1 =>
          rw [hh] at h; rw [h1 _ _ _ _ _ hh]; exact h
      case loop a =>
        rw [rexec] at h ⊢
        cases hh : rexec (fun f => (TA f).map ugFunc) n fl (ugCode a) E H with
        | none => rw [hh] at h; simp at h
        | some r1 =>
          rw [hh] at h; rw [h1 _ _ _ _ _ hh]
          obtain ⟨o, E1, H1⟩ := r1
          cases o <;> simp only at h ⊢
          · exact h1 fl (.loop a) _ _ _ (by simpa only [ugCode] using h)
          · exact h
          · exact h
      all_goals (rw [rexec] at h ⊢; exact h)
    · intro fl g args H r h
      rw [rcall] at h ⊢
      cases hf : TA g with
      | none => simp [hf] at h
      | some rf =>
        simp only [hf, Option.map_some, ugFunc] at h ⊢
        split at h
        · rename_i hl
          rw [if_pos hl]
          cases hh : rexec (fun f => (TA f).map ugFunc) n fl (ugCode rf.body) (args ++ List.replicate (rf.nvars - rf.nargs) .undef) H with
          | none => rw [hh] at h; simp at h
          | some r1 => rw [hh] at h; rw [h1 _ _ _ _ _ hh]; exact h
        · simp at h

theorem ung_sound {P : Program} {n fl f : Nat} {args : List AV} {H : Heap} {v : AV} {H' : Heap} (hfl : fl ≤ H.length) (h : rcall (tableU P) n fl f args H = some (v, H')) : ∃ HA', rcall (table P) n fl f args H = some (v, HA') :=
  opt_sound hfl ((ug_all (TA := tableO P) n).2 _ _ _ _ _ h)

end Go.RM

/-
  The row of a law that answers true: its lifted form, from what the abstract machine computes.
-/
namespace Go.RM
open Go.ChangeShapes Go.WideShapes Go.ChangeAt Go.RowKit
set_option linter.unusedVariables false

theorem trodAll_below {T : Type} {enc : TypeId × Value → T} {P : Program} (hl : laidOutB P = true) {W W' : World} (hb : Below W.heap.size W W') : ∀ {ts : List TypeId} {vs : List Value} {ds : List (DataW T)} {ps : List MemPlace},
    (ts.all fun t => P.readableRec t && decide (t < P.types.size)) = true → DataW.TrodAll enc P W 0 (fun _ => true) true ts vs ds ps → (∀ x ∈ ps, x.block < W.heap.size) →
    DataW.TrodAll enc P W' 0 (fun b => decide (b < W.heap.size)) true ts vs ds ps
  | [], [], [], ps, _, h, _ => h
  | t :: ts, v :: vs, d :: ds, ps, hr, h, hlt => by
    obtain ⟨p, q, h1, h2, rfl⟩ := h
    simp only [List.all_cons, Bool.and_eq_true, decide_eq_true_eq] at hr
    exact ⟨p, q, Below.trod hl hr.1.1 hr.1.2 h1 hb (fun x hx => hlt x (by simp [hx])), trodAll_below hl hb hr.2 h2 (fun x hx => hlt x (by simp [hx])), rfl⟩
  | [], [], _ :: _, _, _, h, _ => h.elim
  | [], _ :: _, _, _, _, h, _ => h.elim
  | _ :: _, [], _, _, _, h, _ => h.elim
  | _ :: _, _ :: _, [], _, _, h, _ => h.elim

theorem Bd.all {T : Type} : Bd (T := T) (fun _ => True) (fun _ => True) := ⟨trivial, fun _ => trivial, fun _ _ => trivial, fun _ _ => trivial, fun _ => trivial⟩

/-- The same where the input is small. -/
theorem liftedU {C : Checked} {os : Os} {f : FuncId} {fn : Func} {s : ChangeSpec} {k : (H : Type) → List (DataW H) → Bool} {T : Type} {enc : TypeId × Value → T} {F : Stop.Interp}
    (own : ownKnob C.prog.godebug = none) (started : os.Started) (noInit : C.prog.inits.idxOf? f = none) (hfn : C.prog.funcs[f]? = some fn)
    (witness : ∃ (w : World) (tape : Tape) (i : Input), w.os = os ∧ (w.forCall tape i).Shaped C.prog ∧ i.vars = [] ∧ Input.okWide C.prog (w.forCall tape i) .any w.heap.size f i ∧
      ({ OpenSpec.ofChange s with cond := some k } : OpenSpec).pre6 enc C.prog fn [] false (w.forCall tape i).memory i.args ∧ ({} : Assume).holds C.prog (lone (Frame.enter C.prog f i.args .normal) [] (w.forCall tape i)))
    (hl : laidOutB C.prog = true) (hr : (fn.params.toList.all fun t => C.prog.readableRec t && decide (t < C.prog.types.size)) = true) {tb : TypeId} (hres : fn.resultTypes.toList = [tb]) (htb : C.prog.underlying tb = some .bool)
    (hvars : s.vars = []) (hs : ∀ ds : List (DataW T), ds.length = fn.params.toList.length → (s.fn T ds).results = [.lit (.bool true)] ∧ (s.fn T ds).args = ds ∧ (s.fn T ds).vars = [])
    {Pn : Nat → Prop} {B : DataW T → Prop} (hB : Bd Pn B) (hbs : ∀ ds : List (DataW T), k T ds = true → ∀ d ∈ ds, B d)
    {tcs : List TC} (hk : tcsOk C.prog fn.params.toList tcs = true) (hcore : ∀ (H : Heap) (avs : List AV), WFvs Pn H tcs avs → ∃ n H', rcall (tableU C.prog) n H.length f avs H = some (.bool true, H')) :
    ReturnsInHanded {} C os f .any (({ OpenSpec.ofChange s with cond := some k } : OpenSpec).pre6 enc C.prog fn [] false) ((({ OpenSpec.ofChange s with cond := some k } : OpenSpec).at F).post enc C.prog fn false true false false) := by
  refine returnsInHanded_of_cond (C := C) (s := { OpenSpec.ofChange s with cond := some k }) (k := k) rfl own started noInit hfn witness ?_
  intro W base args ds gs before hval hW _ hkk _
  have hW' := hW
  obtain ⟨p, q, hA, hV, rfl, hfz, hnd⟩ := hW
  have hV : DataW.TrodVars enc C.prog W (fun _ => true) s.vars gs q := hV
  rw [hvars] at hV
  obtain ⟨rfl, rfl⟩ := trodVars_none hV
  have hlen := (Go.trodAll_length hA).2
  obtain ⟨s1, s2, s3⟩ := hs ds hlen
  have hcore' : ∀ (H : Heap) (avs : List AV), WFvs Pn H tcs avs → ∃ n H', rcall (table C.prog) n H.length f avs H = some (.bool true, H') := fun H avs h => by
    obtain ⟨n, H', h'⟩ := hcore H avs h
    obtain ⟨HA', h2⟩ := ung_sound (Nat.le_refl _) h'
    exact ⟨n, HA', h2⟩
  rw [List.append_nil] at hkk
  have hcalls := calls_true C.mixed hcore' hB (hbs ds hkk) hk hA (fun j t v ht hv => hval j t v (by simpa using ht) (by simpa using hv))
  refine Calls.mono hcalls fun e W' ⟨he, hb⟩ => ?_
  subst he
  have hsz : fn.resultTypes.size = 1 := by rw [← Array.length_toList, hres]; rfl
  refine ⟨_, rfl, ds, [], p ++ [], [], p, [], hW', ?_, ?_, ?_, hb.frame _, fun h => by cases h⟩
  · show DataW.TrodAll enc C.prog W' _ _ _ fn.resultTypes.toList _ (s.fn T (ds ++ [])).results _
    rw [List.append_nil, s1, hres, hsz]
    exact trodAll_mk1 (shut_bool htb _)
  · show DataW.TrodAll enc C.prog W' _ _ _ fn.params.toList _ (s.fn T (ds ++ [])).args _
    rw [List.append_nil, s2]
    exact trodAll_below hl hb hr hA fun x hx => hW'.lt x (by simp [hx])
  · show DataW.TrodVars enc C.prog W' _ s.vars (s.fn T (ds ++ [])).vars _
    rw [List.append_nil, s3, hvars]; rfl

end Go.RM

/-
  What a call is handed, as lists.
-/
namespace Go.RM
set_option linter.unusedVariables false

/-- What is handed in the shape tc stands for a value of T, of which I holds. -/
structure In {α : Type} (Pn : Nat → Prop) (tc : TC) (T : Ty α) (I : α → Prop) : Prop where
  go : ∀ {H : Heap} {c : List AV}, WF Pn H tc c → ∃ a, T.rel H c a ∧ I a

def in64 (n : Int) : Prop := -9223372036854775808 ≤ n ∧ n ≤ 9223372036854775807

variable {Pn : Nat → Prop}

theorem wf_in64 {n : Int} (h : (Lit.int .i64 n).wf = true) : in64 n := by
  simp [Lit.wf, IntKind.min, IntKind.max, IntKind.bits, IntKind.signed] at h
  unfold in64
  omega

theorem In.int : In Pn (.int .i64) tInt in64 := ⟨fun {H c} h => by
  simp only [WF] at h
  obtain ⟨n, rfl, hn⟩ := h
  exact ⟨n, rfl, wf_in64 hn⟩⟩

theorem In.bool : In Pn .bool tBool (fun _ => True) := ⟨fun {H c} h => by
  simp only [WF] at h
  obtain ⟨b, rfl⟩ := h
  exact ⟨b, rfl, trivial⟩⟩

theorem In.str : In Pn .str tStr (fun s => s.size ≤ maxLen ∧ Pn s.size) := ⟨fun {H c} h => by
  simp only [WF] at h
  obtain ⟨s, rfl, hs⟩ := h
  exact ⟨s, rfl, hs⟩⟩

theorem In.all2 {α : Type} {tc : TC} {T : Ty α} {I : α → Prop} (h : In Pn tc T I) {H : Heap} : ∀ {css : List (List AV)}, (∀ c ∈ css, WF Pn H tc c) → ∃ l, All2 (T.rel H) css l ∧ ∀ x ∈ l, I x
  | [], _ => ⟨[], trivial, fun x hx => by cases hx⟩
  | c :: css, hc => by
    obtain ⟨a, h1, h2⟩ := h.go (hc c (by simp))
    obtain ⟨l, h3, h4⟩ := In.all2 h (css := css) fun d hd => hc d (by simp [hd])
    refine ⟨a :: l, ⟨h1, h3⟩, fun x hx => ?_⟩
    rcases List.mem_cons.1 hx with rfl | hx
    · exact h2
    · exact h4 x hx

theorem In.arr {α : Type} {tc : TC} {T : Ty α} {I : α → Prop} (h : In Pn tc T I) : In Pn (.slice T.e tc) (tArr T) (fun l => (∀ x ∈ l, I x) ∧ l.length ≤ maxLen ∧ Pn l.length) := ⟨fun {H c} hw => by
  simp only [WF] at hw
  obtain ⟨v, css, rfl, hel, hlen, hP, hall⟩ := hw
  obtain ⟨l, h1, h2⟩ := h.all2 hall
  have hll := h1.len
  refine ⟨l, ⟨v, rfl, ⟨css, h1, ?_⟩⟩, h2, by omega, by rw [← hll]; exact hP⟩
  have hm : maxLen = 9223372036854775807 := rfl
  refine ⟨by omega, ?_⟩
  rcases hel.2 with ⟨rfl, rfl⟩ | ⟨b, off, lim, k, rfl, rfl, hb, he, hfit, hcells⟩
  · exact .inl ⟨rfl, by rw [← hll]; rfl, rfl⟩
  · obtain ⟨g1, g2, g3⟩ := blk_act hb
    rw [hll] at hfit hcells
    exact .inr ⟨b, off, none, k, by rw [hll], g1, he, hfit, by simp, hcells.symm⟩⟩

/-- An argument that is a slice. -/
theorem In.sliceV {α : Type} {tc : TC} {T : Ty α} {I : α → Prop} (h : In Pn tc T I) {H : Heap} {v : AV} (hw : WFv Pn H (.slice T.e tc) v) : ∃ l, Arr T H v l ∧ (∀ x ∈ l, I x) ∧ l.length ≤ maxLen ∧ Pn l.length := by
  obtain ⟨l, ⟨w, hc, h1⟩, h2⟩ := h.arr.go (H := H) (c := [v]) hw
  obtain rfl : v = w := by simpa using hc
  exact ⟨l, h1, h2⟩
theorem in_intV {H : Heap} {v : AV} (hw : WFv Pn H (.int .i64) v) : ∃ n, v = .int .i64 n ∧ in64 n := by
  obtain ⟨n, hn, h⟩ := In.int.go (Pn := Pn) (H := H) (c := [v]) hw
  exact ⟨n, by simpa [tInt] using hn, h⟩
end Go.RM

/-
  A law's core: from what it returns.
-/
namespace Go.RM

abbrev tru : AV → Heap → Prop := fun v _ => v = .bool true

theorem core_of {F : Nat → Option RFunc} {fl f : Nat} {args : List AV} {H : Heap} (h : Ret F fl f args H tru) : ∃ n H', rcall F n fl f args H = some (.bool true, H') := by
  obtain ⟨n, v, H', h1, rfl⟩ := h
  exact ⟨n, H', h1⟩

theorem wfvs_cons {Pn : Nat → Prop} {H : Heap} {tc : TC} {tcs : List TC} {avs : List AV} (h : WFvs Pn H (tc :: tcs) avs) : ∃ v r, avs = v :: r ∧ WFv Pn H tc v ∧ WFvs Pn H tcs r := by
  cases avs with
  | nil => exact h.elim
  | cons v r => exact ⟨v, r, rfl, h.1, h.2⟩
theorem wfvs_nil {Pn : Nat → Prop} {H : Heap} {avs : List AV} (h : WFvs Pn H [] avs) : avs = [] := by
  cases avs with
  | nil => rfl
  | cons v r => exact h.elim

end Go.RM

/-
  The end of a law's run.
-/
namespace Go.RM
end Go.RM

/-
  The laws of rollout: the example, the specification.
-/
namespace Go.RM
set_option linter.unusedSimpArgs false
set_option linter.unusedVariables false
set_option maxRecDepth 8000
open Rol

variable {F : Nat → Option RFunc}

def exP : PP := ⟨0, 0, 0, 50⟩
def exE : List Ev := [⟨1, 7, 0, 0, 0⟩, ⟨3, 0, 0, 0, 0⟩]
theorem exRun : runR 2 exP exE = ([⟨[7], 0, 0, 0⟩, ⟨[], 7, 0, 0⟩], (0, 0)) := by rfl

abbrev RExC (F : Nat → Option RFunc) (f : Nat) : Prop := ∀ {fl H Q}, fl ≤ H.length → (∀ H', Keep H.length H H' → Q (.bool true) H') → Ret F fl f [] H Q
theorem rolExample_c {f n1 n2 n3 n4 : Nat} (hF : F f = some (rf_LrolloutExample n1 n2 n3 n4)) (h1 : RunC F n1) (h2 : VersC F n2) (h3 : EqRingsC F n3) (h4 : FEqualIntsC F n4) : RExC F f := fun {fl H Q} hfl hq => by
  refine v_LrolloutExample hF ?_
  intro b0 H1 hb0
  have he : Arr tEv H1 (.slice b0 0 2 (some 2)) exE := NewB.arr (T := tEv) hb0 [evC ⟨1, 7, 0, 0, 0⟩, evC ⟨3, 0, 0, 0, 0⟩] rfl ⟨rfl, rfl, trivial⟩ rfl
  have k1 := hb0.keep
  refine h1 (p := exP) he (k1.fl hfl) fun w H5 k5 hw => ⟨_, _, _, rfl, fun H7 d7 => ?_⟩
  have k7 := (k1.call k5).call d7.keep
  refine h2 (p := exP) ((he.keep k5).keep d7.keep) (k7.fl hfl) fun v H11 k11 hv => ⟨_, _, _, rfl, fun H13 d13 => ?_⟩
  have k13 := (k7.call k11).call d13.keep
  rw [exRun] at hw hv ⊢
  refine ⟨fun _ => ?_, fun h => absurd ⟨rfl, rfl⟩ h⟩
  intro b14 H15 hb14 b16 H17 hb16
  have k17 := (k13.call hb14.keep).call hb16.keep
  have hi : Ints H15 (.slice b14 0 1 (some 1)) [7] := hb14.ints [7] rfl rfl
  have ha : Arr tRing H17 (.slice b16 0 2 (some 2)) [⟨[7], 0, 0, 0⟩, ⟨[], 7, 0, 0⟩] := NewB.arr (T := tRing) hb16 [ringC (.slice b14 0 1 (some 1), ⟨[7], 0, 0, 0⟩), ringC (.empty, ⟨[], 7, 0, 0⟩)] rfl ⟨⟨_, rfl, hi⟩, ⟨_, rfl, Arr.nil⟩, trivial⟩ rfl
  have kw : Keep H5.length H5 H17 := ((((d7.keep).call k11).call d13.keep).call hb14.keep).call hb16.keep
  have kv : Keep H11.length H11 H17 := ((d13.keep).call hb14.keep).call hb16.keep
  refine h3 (hw.keep kw) ha (fun _ => ⟨_, rfl, fun _ b21 H22 hb22 => ?_, fun h => absurd rfl h⟩) (fun h => absurd rfl h)
  refine h4 ((hv.arrP tInt.plain).keep (kv.call hb22.keep)) (hb22.ints [7, 7] rfl rfl) ⟨_, rfl, ?_⟩
  rw [show decide (([⟨[7], 0, 0, 0⟩, ⟨[], 7, 0, 0⟩] : List RS).map verR = [7, 7]) = true from rfl]
  exact hq H22 (k17.call hb22.keep)

/-! ### What Run hands back -/

theorem rinv_nil {n : Nat} {p : PP} : RInv n p [] := ⟨List.Pairwise.nil, fun _ h => by simp at h, fun _ h => by simp at h, List.Pairwise.nil, fun _ h => by simp at h, fun _ h => by simp at h⟩
theorem state_nil {n : Nat} : stateD n [] = List.replicate n zeroR := by
  unfold stateD
  have : (List.range n).map (rOf []) = (List.range n).map fun _ => zeroR := range_eq fun k _ => rfl
  rw [this, List.map_const']; simp

theorem runL_state {n : Nat} {p : PP} (hp : OkP p) (hn : 0 < n) : ∀ {evs : List Ev} {es : List Ent} {i : Nat}, RInv n p es → (runL p (stateD n es) i evs).2.1 = 0 → ∃ es', RInv n p es' ∧ runL p (stateD n es) i evs = (stateD n es', (0, 0))
  | [], es, i, h, _ => ⟨es, h, rfl⟩
  | e :: evs, es, i, h, h0 => by
    rw [runL] at h0 ⊢
    split at h0
    · rename_i hc; exact absurd h0 hc
    · rename_i hc
      rw [if_neg hc]
      obtain ⟨s1, s2⟩ := sim h hp hn e
      obtain ⟨s3, s4⟩ := s2 (Decidable.not_not.1 hc)
      rw [s3] at h0 ⊢
      exact runL_state hp hn s4 h0

theorem runR_state {rings : Int} {p : PP} {evs : List Ev} (h : (runR rings p evs).2.1 = 0) : ∃ n es, rings = (n : Nat) ∧ 0 < n ∧ OkP p ∧ RInv n p es ∧ runR rings p evs = (stateD n es, (0, 0)) ∧ evs.length ≤ 40 ∧ n ≤ 5 := by
  unfold runR at h ⊢
  split at h
  · rename_i hc; exact absurd h hc
  · rename_i hc
    rw [if_neg hc]
    obtain ⟨p1, p2, p3, p4⟩ := pre_ok (Decidable.not_not.1 hc)
    rw [← state_nil] at h ⊢
    obtain ⟨es, i1, i2⟩ := runL_state p4 (by omega) rinv_nil h
    exact ⟨rings.toNat, es, by omega, by omega, p4, i1, i2, p3, by omega⟩

/-! ### The versions fall -/

end Go.RM

/-
  The laws of rollout: one active ring; confirmed before the next.
-/
namespace Go.RM
set_option linter.unusedSimpArgs false
set_option linter.unusedVariables false
set_option maxRecDepth 8000
open Rol

variable {F : Nat → Option RFunc}

theorem state_get {n : Nat} {es : List Ent} {j : Nat} (h : j < (stateD n es).length) : (stateD n es)[j] = rOf es j := by simp [stateD]

end Go.RM

/-
  The laws of rollout: the specification.
-/
namespace Go.RM
set_option linter.unusedSimpArgs false
set_option linter.unusedVariables false
set_option maxRecDepth 8000
open Rol

variable {F : Nat → Option RFunc}

theorem pre_eq {rings : Int} {p : PP} {n : Nat} : pre rings p n = if rings < 1 ∨ rings > 5 then (3, -2) else if ¬ (okC p.b1 p.b2 ∧ okP p.need p.pm) then (3, -3) else if n > 40 then (2, -1) else (0, 0) := by
  unfold pre decideR twoR
  by_cases h : rings < 1 ∨ rings > 5
  · rw [if_pos h, if_pos h]
  rw [if_neg h, if_neg h]
  by_cases h1 : okC p.b1 p.b2
  · rw [if_pos h1, if_pos okC00]
    by_cases h2 : okP p.need p.pm
    · simp [h1, h2]
    · simp [h1, h2]
  · simp [h1]

end Go.RM

/-
  The laws of rollout: an aborted version is forgotten.
-/
namespace Go.RM
set_option linter.unusedSimpArgs false
set_option linter.unusedVariables false
set_option maxRecDepth 8000
open Rol

variable {F : Nat → Option RFunc}

theorem tEv.plain : tEv.Plain := fun h => h

theorem runL_lenLe {p : PP} : ∀ {evs : List Ev} {l : List RS} {i k : Nat}, OkR l → lenLe k l → lenLe (k + evs.length) (runL p l i evs).1
  | [], l, i, k, _, h => h
  | e :: evs, l, i, k, ho, h => by
    rw [runL]
    split
    · intro r hr; simp at hr
    · obtain ⟨o1, o2, _⟩ := step_ok (p := p) (e := e) ho h
      have := runL_lenLe (p := p) (evs := evs) (i := i + 1) o1 o2
      rw [List.length_cons]
      intro r hr
      have := this r hr; omega

theorem runL_app {p : PP} {e : Ev} : ∀ {evs : List Ev} {l l' : List RS} {i : Nat}, runL p l i evs = (l', (0, 0)) → runL p l i (evs ++ [e]) = if (stepR p l' e).1 ≠ 0 then ([], ((stepR p l' e).1, ((i + evs.length : Nat) : Int))) else ((stepR p l' e).2, (0, 0))
  | [], l, l', i, h => by
    rw [runL] at h
    simp only [Prod.mk.injEq, and_true] at h
    subst h
    rw [List.nil_append, runL]
    split
    · rfl
    · rw [runL]
  | x :: evs, l, l', i, h => by
    rw [runL] at h
    rw [List.cons_append, runL]
    split at h
    · rename_i hc
      simp only [Prod.mk.injEq] at h
      exact absurd h.2.1 hc
    · rename_i hc
      rw [if_neg hc, runL_app h, List.length_cons]
      have : i + 1 + evs.length = i + (evs.length + 1) := by omega
      rw [this]

def abE (v : Int) : Ev := ⟨4, v, 0, 0, 0⟩
theorem step_ab {n : Nat} {p : PP} {es : List Ent} (hn : 0 < n) (v : Int) : stepR p (stateD n es) (abE v) = if (stateD n es).any (hit v) then (0, (stateD n es).map (abort1 v)) else (6, stateD n es) := by
  unfold stepR
  rw [if_neg (by unfold abE; simp), if_neg (by unfold unusedB abE; simp), if_neg (by rw [state_len]; unfold abE; simp; omega), if_neg (by unfold abE; simp), if_neg (by unfold abE; simp), if_neg (by unfold abE; simp)]
  rfl

theorem runR_more {rings : Int} {p : PP} {evs : List Ev} {n : Nat} {es : List Ent} {e : Ev} (hn : rings = (n : Nat)) (hr : runR rings p evs = (stateD n es, (0, 0))) (hl : evs.length + 1 ≤ 40) : runR rings p (evs ++ [e]) = if (stepR p (stateD n es) e).1 ≠ 0 then ([], ((stepR p (stateD n es) e).1, (evs.length : Int))) else ((stepR p (stateD n es) e).2, (0, 0)) := by
  have h0 : (pre rings p evs.length).1 = 0 := Decidable.byContradiction fun h => by
    unfold runR at hr
    rw [if_pos h] at hr
    simp only [Prod.mk.injEq] at hr
    rw [hr.2] at h; exact h rfl
  have h1 : (pre rings p (evs ++ [e]).length).1 = 0 := by
    obtain ⟨p1, p2, p3, p4⟩ := pre_ok h0
    rw [pre_eq, if_neg (by omega), if_neg (fun h => h ⟨p4.base, p4.par⟩), if_neg (by simp; omega)]
  unfold runR at hr ⊢
  rw [if_neg (by rw [h0]; decide)] at hr
  rw [if_neg (by rw [h1]; decide), runL_app hr]
  simp

theorem forgets_run {f n1 n2 n3 n4 n5 : Nat} (hF : F f = some (rf_LRolloutAbortForgets n1 n2 n3 n4 n5)) (h1 : RunFC F n1) (h2 : RExC F n2) (h3 : FFaultC F n3) (h4 : FWithoutC F n4) (h5 : EqRingsC F n5) {fl : Nat} {H : Heap} {rings ver : Int} {p : PP} {v : AV} {evs : List Ev} (hv : Arr tEv H v evs) (hl : evs.length ≤ 2 ^ 20) (hfl : fl ≤ H.length) : Ret F fl f [i64 rings, cnt p.b1 p.b2, i64 p.need, i64 p.pm, v, i64 ver] H tru := by
  refine v_LRolloutAbortForgets hF _ _ _ _ _ _ _ ?_
  intro H7 d7 H8 d8
  have k8 := d7.keep.call d8.keep
  refine h1 (hv.keep k8) (k8.fl hfl) fun wa H12 k12 hwa => ⟨_, _, _, rfl, fun H14 d14 => ?_⟩
  have k14 := (k8.call k12).call d14.keep
  have fl14 := k14.fl hfl
  obtain ⟨a15, H16, x1, x2, x3, _⟩ := (Acc.nil (H0 := H14) (T := tEv) (H := H14)).appendP (fl := fl) (free := false) (bytes := 40) tEv.plain (hv.keep k14) (Keep.refl _) fl14 (by simp; omega) (by decide)
  refine ⟨a15, H16, x1, fun b17 H18 hb17 => ?_⟩
  rw [List.nil_append] at x2
  obtain ⟨a19, H20, y1, y2, y3, _⟩ := x2.push (fl := fl) (free := true) (bytes := 40) (a := abE ver) rfl hb17 x3 fl14 (by omega) (by decide)
  refine ⟨a19, H20, y1, ?_⟩
  have k20 := k14.call y3
  refine h1 (y2.arrP tEv.plain) (k20.fl hfl) fun wb H24 k24 hwb => ⟨_, _, _, rfl, fun H26 d26 b27 H28 hb27 => ?_⟩
  have k26 := (k24).call d26.keep
  have hat : ∀ b, At a19 b → b < H20.length := fun b hb => by
    obtain ⟨css, _, hg⟩ := y2
    rcases hg.out with ⟨rfl, _⟩ | ⟨b', off, lim, k, rfl, _, h3, _⟩
    · exact absurd hb at_empty
    · have := hb.same at_slice
      subst this; exact get_lt h3
  obtain ⟨a29, H30, z1, z2, z3, z4⟩ := (y2.keep k26).push (fl := fl) (free := false) (bytes := 40) (a := abE ver) rfl hb27 (y3.call k26) fl14 (by simp; omega) (by decide)
  refine ⟨a29, H30, z1, ?_⟩
  have kz : Keep H14.length H14 H30 := z3
  have k30 := k14.call kz
  refine h1 (z2.arrP tEv.plain) (Nat.le_refl _) fun wc H34 k34 hwc => ⟨_, _, _, rfl, fun H36 d36 => ?_⟩
  have k36 := (k30.call k34).call d36.keep
  refine h2 (k36.fl hfl) fun H38 k38 => ⟨_, rfl, fun h => absurd rfl h, fun _ => ⟨fun _ => rfl, fun hok => ?_⟩⟩
  have e1 : (runR rings p evs).2.1 = 0 := Decidable.byContradiction fun h => hok (.inl h)
  have e2 : (runR rings p (evs ++ [abE ver])).2.1 = 0 := Decidable.byContradiction fun h => hok (.inr h)
  obtain ⟨n, es, hn, hn0, hp, hi, hr, hl40, hn5⟩ := runR_state e1
  have hl41 : evs.length + 1 ≤ 40 := by
    obtain ⟨_, _, _, _, _, _, _, h, _⟩ := runR_state e2
    simpa using h
  have hmore := runR_more (e := abE ver) hn hr hl41
  rw [step_ab hn0] at hmore
  -- the version was there
  by_cases hhit : (stateD n es).any (hit ver) = true
  case neg =>
    rw [if_neg hhit, if_pos (show (6 : Int) ≠ 0 by decide)] at hmore
    rw [hmore] at e2; cases e2
  rw [if_pos hhit, if_neg (show ¬ (0 : Int) ≠ 0 by decide)] at hmore
  obtain ⟨e0, he0, hev⟩ := (hit_iff hi hn0 ver).1 hhit
  have hver : ver ≠ 0 := by have := hi.pos e0 he0; omega
  rw [abort_state hi hver] at hmore
  have hi2 := hi.drop ver
  have hno : ¬ (stateD n (dropV ver es)).any (hit ver) = true := fun h => by
    obtain ⟨e, he, h2⟩ := (hit_iff hi2 hn0 ver).1 h
    have := (List.mem_filter.1 he).2
    simp [h2] at this
  -- the arrays
  have k3038 := ((Keep.refl H30).call k34).call (d36.keep.call k38)
  have ka : Keep H12.length H12 H38 := d14.keep.call ((kz.trans k3038 kz.len))
  have ha : Arr tRing H38 wa (stateD n es) := by
    have := hwa H38 fun b _ hb => ka.get b hb
    rw [hr] at this; exact this
  have hb : Arr tRing H38 wb (stateD n (dropV ver es)) := by
    have := hwb H38 fun b h1 h2 => by
      have e1 : H26[b]? = H24[b]? := d26.keep.get b h2
      have l26 := d26.keep.len
      have e2 : H30[b]? = H26[b]? := z4 b (by omega) fun off k lim e => by
        have := hat b ⟨off, k, lim, e⟩; omega
      have l30 : b < H30.length := by
        have : H30[b]? ≠ none := by rw [e2, e1, List.getElem?_eq_getElem h2]; simp
        rcases Nat.lt_or_ge b H30.length with h | h
        · exact h
        · exact absurd (List.getElem?_eq_none h) this
      rw [k3038.get b l30, e2, e1]
    rw [hmore] at this; exact this
  have hsa : (stateD n es).length = n := state_len
  have hsb : (stateD n (dropV ver es)).length = n := state_len
  refine ⟨fun H' => Keep H38.length H38 H', ⟨_, ha.len, _, hb.len, fun hne => absurd (by rw [hsa, hsb]) hne, fun _ => ⟨_, y2.len, fun hlt => ⟨_, y2.len, h3 fun H50 k50 => ⟨_, _, rfl, fun hne => absurd ?_ hne, fun _ => k50⟩⟩, fun _ => Keep.refl _⟩⟩, ?_⟩
  · have hm2 := runR_more (e := abE ver) hn hmore (by simp at hlt ⊢; omega)
    rw [step_ab hn0, if_neg hno, if_pos (show (6 : Int) ≠ 0 by decide)] at hm2
    rw [hm2]
    exact ⟨rfl, rfl, trivial⟩
  intro H43 k43
  have k43' := k36.call k38
  have fl38 := k43'.fl hfl
  have hlc : ∀ i, (rOf es i).conf.length ≤ 40 ∨ ¬ i < n := fun i => by
    by_cases hin : i < n
    · left
      have h0 : (runR rings p evs).1 = stateD n es := by rw [hr]
      have hpre : (pre rings p evs.length).1 = 0 := Decidable.byContradiction fun h => by
        unfold runR at hr
        rw [if_pos h] at hr
        simp only [Prod.mk.injEq] at hr
        rw [hr.2] at h; exact h rfl
      unfold runR at h0
      rw [if_neg (by rw [hpre]; decide)] at h0
      have := runL_lenLe (p := p) (evs := evs) (l := List.replicate rings.toNat zeroR) (i := 0) (k := 0) (fun r hr => by rw [List.eq_of_mem_replicate hr]; exact okC00) (fun r hr => by rw [List.eq_of_mem_replicate hr]; exact Nat.le_refl _)
      rw [h0] at this
      have := this (rOf es i) (List.mem_map.2 ⟨i, List.mem_range.2 hin, rfl⟩)
      omega
    · exact .inr hin
  refine ⟨fun m i H' => ∃ j : Nat, i = j ∧ j + m = n ∧ Keep H38.length H38 H', n, ⟨0, rfl, by omega, k43⟩, ?_⟩
  rintro m _ H61 ⟨j, rfl, hm, hk⟩
  refine ⟨_, ha.len, fun hlt => ?_, fun _ => rfl⟩
  rw [hsa] at hlt
  have hjn : j < n := by omega
  have hja : j < (stateD n es).length := by omega
  have hjb : j < (stateD n (dropV ver es)).length := by omega
  obtain ⟨x, x1, x2, x3, x4, _⟩ := (ha.keep hk).ring hja
  simp only [state_get hja] at x1 x2 x4
  have hcj : (rOf es j).conf.length ≤ 40 := (hlc j).resolve_right fun h => h hjn
  refine ⟨_, x3, h4 x1 (Nat.le_refl _) (by omega) fun r H66 k66 hw => ?_⟩
  have hk66 := hk.call k66
  obtain ⟨y, yy1, _, _, y4, _⟩ := (ha.keep hk66).ring hja
  have yc := (ha.keep hk66).ringCnt hja
  simp only [state_get hja] at y4 yc
  refine ⟨_, y4, _, _, yc, hw.scal, fun H74 d74 => ?_⟩
  have hk74 := hk66.call d74.keep
  obtain ⟨u, u1, u2, _⟩ := (hb.keep hk74).ring hjb
  simp only [state_get hjb] at u1 u2
  have hw74 := (hw.arrP tInt.plain).keep d74.keep
  have hab := abort_rOf hi hjn hver
  have hrm : rm ver (rOf es j).conf = (rOf es j).conf.filter (fun x => x != ver) := rm_inc (hi.conf j)
  have fin : ∀ (z : RS), z.conf = (rOf es j).conf.filter (fun x => x != ver) → rOf (dropV ver es) j = z → ∀ (b80 : Nat) (H81 : Heap), NewB H74 4 [u, i64 (rOf (dropV ver es) j).act, i64 (rOf (dropV ver es) j).good, i64 (rOf (dropV ver es) j).bad] b80 H81 → ∀ (b82 : Nat) (H83 : Heap), NewB H81 4 [r, i64 z.act, i64 z.good, i64 z.bad] b82 H83 → Ret F fl n5 [.slice b80 0 1 (some 1), .slice b82 0 1 (some 1)] H83 (fun v86 H85 => ∃ (r84 : Bool), v86 = (.bool r84) ∧ ((¬(r84 = true)) → tru (.bool false) H85) ∧ (¬(¬(r84 = true)) → ∃ m87 : Nat, m87 < m ∧ ∃ j' : Nat, IntKind.wrap .i64 ((j : Int) + 1) = j' ∧ j' + m87 = n ∧ Keep H38.length H38 H85)) := fun z hz he b80 H81 hb80 b82 H83 hb82 => by
    have a1 : Arr tRing H81 (.slice b80 0 1 (some 1)) [rOf (dropV ver es) j] := NewB.arr (T := tRing) hb80 [ringC (u, rOf (dropV ver es) j)] rfl ⟨⟨u, rfl, u1⟩, trivial⟩ rfl
    have a2 : Arr tRing H83 (.slice b82 0 1 (some 1)) [z] := NewB.arr (T := tRing) hb82 [ringC (r, z)] rfl ⟨⟨r, rfl, by rw [hz]; exact hw74.keep hb80.keep⟩, trivial⟩ rfl
    refine h5 (a1.keep hb82.keep) a2 (fun _ => ⟨_, rfl, fun h => absurd rfl h, fun _ => ⟨m - 1, by omega, j + 1, wsucc hjn (by omega), by omega, (hk74.call hb80.keep).call hb82.keep⟩⟩) (fun h => absurd (by rw [he]) h)
  refine ⟨fun hact => ⟨_, _, _, _, u2, fun b80 H81 hb80 b82 H83 hb82 => fin ⟨(rOf es j).conf.filter (fun x => x != ver), 0, 0, 0⟩ rfl ?_ b80 H81 hb80 b82 H83 hb82⟩, fun hact => ⟨_, _, _, _, u2, fun b80 H81 hb80 b82 H83 hb82 => fin ⟨(rOf es j).conf.filter (fun x => x != ver), (rOf es j).act, (rOf es j).good, (rOf es j).bad⟩ rfl ?_ b80 H81 hb80 b82 H83 hb82⟩⟩
  · have hA : hitA ver (rOf es j) = true := by unfold hitA; exact decide_eq_true ⟨hver, hact⟩
    rw [← hab]
    unfold abort1
    rw [hA, hrm]; rfl
  · have hA : hitA ver (rOf es j) = false := by unfold hitA; exact decide_eq_false fun h => hact h.2
    rw [← hab]
    unfold abort1
    rw [hA, hrm]; rfl

end Go.RM

