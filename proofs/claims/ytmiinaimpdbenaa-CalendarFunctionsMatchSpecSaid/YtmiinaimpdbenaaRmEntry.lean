/-
  How a call's arguments stand in the abstract machine: each slice has a read-only block of its own.
-/
import Derived.Test.YtmiinaimpdbenaaRmCode
import Derived.ProofKit
namespace Go.RM
open Go.WideShapes Go.RowKit
set_option linter.unusedSimpArgs false
set_option linter.unusedVariables false
set_option linter.unusedSectionVars false

/-- Shapes of what a call is handed. 'slice n e': each element takes n cells. -/
inductive TC where
  | int (k : IntKind)
  | bool
  | str
  | slice (n : Nat) (e : TC)
  | struct (fs : List TC)

mutual
def TC.size : TC → Nat
  | .struct fs => TC.sizes fs
  | _ => 1
def TC.sizes : List TC → Nat
  | [] => 0
  | f :: fs => f.size + TC.sizes fs
end

mutual
def tcOk (P : Program) : TypeId → TC → Bool
  | t, .int k => (match P.underlying t with | some (.int k') => decide (k' = k) | _ => false)
  | t, .bool => (match P.underlying t with | some .bool => true | _ => false)
  | t, .str => (match P.underlying t with | some .string => true | _ => false)
  | t, .slice n e => (match P.underlying t with | some (.slice et) => decide (P.cellsOf et = n) && decide (0 < n) && decide (e.size = n) && tcOk P et e | _ => false)
  | t, .struct l => (match P.underlying t with | some (.struct fs) => decide (P.cellsOf t = TC.sizes l) && fsOk P fs.toList l 0 | _ => false)
def fsOk (P : Program) : List Field → List TC → Nat → Bool
  | [], [], _ => true
  | f :: fs, c :: l, off => decide (f.offset = off) && decide (P.cellsOf f.type = c.size) && tcOk P f.type c && fsOk P fs l (off + c.size)
  | _, _, _ => false
end

/-- A slice's elements, each a list of n cells. -/
def Elems (H : Heap) (n : Nat) (v : AV) (css : List (List AV)) : Prop :=
  (∀ c ∈ css, c.length = n) ∧ ((v = .empty ∧ css = []) ∨ ∃ b off lim k, v = .slice b off css.length lim ∧ lim = none ∧ H.blk b = some k ∧ k.e = n ∧ off + css.length * n ≤ k.cells.length ∧ (k.cells.drop off).take (css.length * n) = css.flatten)

mutual
def WF (Pn : Nat → Prop) (H : Heap) : TC → List AV → Prop
  | .int k, cs => ∃ n, cs = [.int k n] ∧ (Lit.int k n).wf = true
  | .bool, cs => ∃ b, cs = [.bool b]
  | .str, cs => ∃ s, cs = [.str s] ∧ s.size ≤ maxLen ∧ Pn s.size
  | .slice n e, cs => ∃ v css, cs = [v] ∧ Elems H n v css ∧ css.length ≤ maxLen ∧ Pn css.length ∧ ∀ c ∈ css, WF Pn H e c
  | .struct fs, cs => WFs Pn H fs cs
def WFs (Pn : Nat → Prop) (H : Heap) : List TC → List AV → Prop
  | [], cs => cs = []
  | f :: fs, cs => ∃ a b, cs = a ++ b ∧ WF Pn H f a ∧ WFs Pn H fs b
end

variable {Pn : Nat → Prop}

theorem blk_append {H : Heap} {b : Nat} {k : Blk} (h : H.blk b = some k) (news : Heap) : Heap.blk (H ++ news) b = some k := by
  have hg := (blk_act h).2.2
  unfold Heap.blk at h ⊢
  rw [List.getElem?_append_left (get_lt hg)]
  exact h

theorem Elems.append {H : Heap} {n : Nat} {v : AV} {css : List (List AV)} (h : Elems H n v css) (news : Heap) : Elems (H ++ news) n v css := by
  refine ⟨h.1, h.2.imp id ?_⟩
  rintro ⟨b, off, lim, k, h1, h0, h2, h3⟩
  exact ⟨b, off, lim, k, h1, h0, blk_append h2 news, h3⟩

mutual
theorem WF.append {H : Heap} : ∀ {tc : TC} {cs : List AV}, WF Pn H tc cs → ∀ news, WF Pn (H ++ news) tc cs
  | .int k, cs, h, news => by simpa only [WF] using h
  | .bool, cs, h, news => by simpa only [WF] using h
  | .str, cs, h, news => by simpa only [WF] using h
  | .slice n e, cs, h, news => by
    simp only [WF] at h ⊢
    obtain ⟨v, css, h1, h2, h3, h5, h4⟩ := h
    exact ⟨v, css, h1, h2.append news, h3, h5, fun c hc => WF.append (h4 c hc) news⟩
  | .struct fs, cs, h, news => by
    simp only [WF] at h ⊢
    exact WFs.append h news
theorem WFs.append {H : Heap} : ∀ {fs : List TC} {cs : List AV}, WFs Pn H fs cs → ∀ news, WFs Pn (H ++ news) fs cs
  | [], cs, h, news => by simpa only [WFs] using h
  | f :: fs, cs, h, news => by
    simp only [WFs] at h ⊢
    obtain ⟨a, b, h1, h2, h3⟩ := h
    exact ⟨a, b, h1, WF.append h2 news, WFs.append h3 news⟩
end

/-- A heap all of whose blocks are the caller's. -/
structure RO (m : BMap) (H : Heap) (w : World) : Prop where
  kid : ∀ (b : Nat) (k : Blk), H[b]? = some k → k.kid = none
  dom : ∀ b l, m b = some l → b < H.length
  es : ∀ (b : Nat) (k : Blk) (l : Loc), H[b]? = some k → m b = some l → l.e = k.e
  cells : ∀ (b : Nat) (k : Blk) (l : Loc), H[b]? = some k → m b = some l → k.cells.length ≤ l.room ∧ CellsAt m w l k.cells
  ro : ∀ b l, m b = some l → l.cb < w.heap.size

theorem RO.sim {m : BMap} {H : Heap} {w : World} (h : RO m H w) : Sim H.length w.heap.size m H w := by
  refine ⟨Nat.le_refl _, Nat.le_refl _, fun b c k hb hk => by rw [h.kid b k hb] at hk; simp at hk, h.es, fun b k l ha hm => ⟨h.es b k l (act_get ha) hm, h.cells b k l (act_get ha) hm⟩, fun b l _ hm => h.ro b l hm, fun b k l hb ha _ => ?_, fun b b' k k' l l' hb _ ha => ?_⟩
  · have := act_lt ha; omega
  · have := act_lt ha; omega

theorem RO.nil (w : World) : RO (fun _ => none) [] w := ⟨fun b k h => by simp at h, fun b l h => by simp at h, fun b k l h => by simp at h, fun b k l h => by simp at h, fun b l h => by simp at h⟩

theorem RO.push {m : BMap} {H : Heap} {w : World} (h : RO m H w) {k : Blk} {l : Loc} (hk : k.kid = none) (he : l.e = k.e) (hr : k.cells.length ≤ l.room) (hc : CellsAt m w l k.cells) (hl : l.cb < w.heap.size) :
    Ext m (upd m H.length l) ∧ RO (upd m H.length l) (H ++ [k]) w := by
  have hn : m H.length = none := by
    cases hm : m H.length with
    | none => rfl
    | some l' => have := h.dom _ _ hm; omega
  have hext := upd_ext l hn
  have hget : ∀ (b : Nat) (k' : Blk), (H ++ [k])[b]? = some k' → (b < H.length ∧ H[b]? = some k') ∨ (b = H.length ∧ k' = k) := fun b k' hb => by
    by_cases e : b < H.length
    · rw [List.getElem?_append_left e] at hb; exact .inl ⟨e, hb⟩
    · rw [List.getElem?_append_right (by omega)] at hb
      cases hq : b - H.length with
      | zero => rw [hq] at hb; simp at hb; exact .inr ⟨by omega, hb.symm⟩
      | succ q => rw [hq] at hb; simp at hb
  refine ⟨hext, fun b k' hb => ?_, fun b l' hm => ?_, fun b k' l' hb hm => ?_, fun b k' l' hb hm => ?_, fun b l' hm => ?_⟩
  · rcases hget b k' hb with ⟨_, h1⟩ | ⟨_, rfl⟩
    · exact h.kid b k' h1
    · exact hk
  · by_cases e : b = H.length
    · subst e; simp
    · rw [upd_ne _ e] at hm; have := h.dom b l' hm; simp; omega
  · rcases hget b k' hb with ⟨h0, h1⟩ | ⟨rfl, rfl⟩
    · rw [upd_ne _ (by omega)] at hm; exact h.es b k' l' h1 hm
    · rw [upd_same] at hm; cases hm; exact he
  · rcases hget b k' hb with ⟨h0, h1⟩ | ⟨rfl, rfl⟩
    · rw [upd_ne _ (by omega)] at hm
      obtain ⟨e1, e2⟩ := h.cells b k' l' h1 hm
      exact ⟨e1, cellsAt_mono e2 hext fun _ _ => rfl⟩
    · rw [upd_same] at hm; cases hm; exact ⟨hr, cellsAt_mono hc hext fun _ _ => rfl⟩
  · by_cases e : b = H.length
    · subst e; rw [upd_same] at hm; cases hm; exact hl
    · rw [upd_ne _ e] at hm; exact h.ro b l' hm

theorem flatten_len {n : Nat} : ∀ {css : List (List AV)}, (∀ c ∈ css, c.length = n) → css.flatten.length = css.length * n
  | [], _ => by simp
  | c :: css, h => by
    rw [List.flatten_cons, List.length_append, flatten_len (fun c hc => h c (by simp [hc])), h c (by simp), List.length_cons, Nat.succ_mul]; omega

theorem flatten_get {n : Nat} (hn : 0 < n) : ∀ {css : List (List AV)}, (∀ c ∈ css, c.length = n) → ∀ (j : Nat) (v : AV), css.flatten[j]? = some v → ∃ c, css[j / n]? = some c ∧ c[j % n]? = some v
  | [], _, j, v, h => by simp at h
  | c :: css, hc, j, v, h => by
    have hcl := hc c (by simp)
    rw [List.flatten_cons] at h
    by_cases hj : j < n
    · rw [List.getElem?_append_left (by omega)] at h
      exact ⟨c, by rw [Nat.div_eq_of_lt hj]; rfl, by rw [Nat.mod_eq_of_lt hj]; exact h⟩
    · rw [List.getElem?_append_right (by omega), hcl] at h
      obtain ⟨c', h1, h2⟩ := flatten_get hn (fun c hc' => hc c (by simp [hc'])) (j - n) v h
      have e1 : j / n = (j - n) / n + 1 := by rw [Nat.div_eq_sub_div hn (by omega)]
      have e2 : j % n = (j - n) % n := Nat.mod_eq_sub_mod (by omega)
      exact ⟨c', by rw [e1]; simpa using h1, by rw [e2]; exact h2⟩

section
variable {P : Program} {W : World} {T : Type} {enc : TypeId × Value → T}

def Read (Pn : Nat → Prop) (W : World) (tc : TC) (cs : List Value) : Prop := ∀ (m : BMap) (H : Heap), RO m H W → ∃ m' news avs, Ext m m' ∧ RO m' (H ++ news) W ∧ VRels m' avs cs ∧ WF Pn (H ++ news) tc avs ∧ avs.length = tc.size

def Reads (Pn : Nat → Prop) (W : World) (l : List TC) (cs : List Value) : Prop := ∀ (m : BMap) (H : Heap), RO m H W → ∃ m' news avs, Ext m m' ∧ RO m' (H ++ news) W ∧ VRels m' avs cs ∧ WFs Pn (H ++ news) l avs ∧ avs.length = TC.sizes l

theorem read_elems {e : TC} {n : Nat} (hsz : e.size = n) : ∀ (css : List (List Value)), (∀ cs ∈ css, Read Pn W e cs) → ∀ (m : BMap) (H : Heap), RO m H W →
    ∃ (m' : BMap) (news : Heap) (avss : List (List AV)), Ext m m' ∧ RO m' (H ++ news) W ∧ avss.length = css.length ∧ (∀ (i : Nat) (a : List AV) (c : List Value), avss[i]? = some a → css[i]? = some c → VRels m' a c) ∧ (∀ a ∈ avss, WF Pn (H ++ news) e a ∧ a.length = n)
  | [], _, m, H, h => ⟨m, [], [], Ext.refl m, by simpa using h, rfl, fun i a c h => by simp at h, fun a h => by simp at h⟩
  | cs :: css, hr, m, H, h => by
    obtain ⟨m1, n1, a1, e1, r1, v1, w1, l1⟩ := hr cs (by simp) m H h
    obtain ⟨m2, n2, as, e2, r2, l2, v2, w2⟩ := read_elems hsz css (fun c hc => hr c (by simp [hc])) m1 (H ++ n1) r1
    refine ⟨m2, n1 ++ n2, a1 :: as, e1.trans e2, by rwa [List.append_assoc] at r2, by simp [l2], fun i a c ha hc => ?_, fun a ha => ?_⟩
    · cases i with
      | zero => simp only [List.getElem?_cons_zero, Option.some.injEq] at ha hc; subst ha; subst hc; exact v1.mono e2
      | succ i => exact v2 i a c (by simpa using ha) (by simpa using hc)
    · rw [← List.append_assoc]
      rcases List.mem_cons.1 ha with rfl | ha
      · exact ⟨w1.append n2, by rw [l1, hsz]⟩
      · exact w2 a ha

theorem read_slice {e : TC} {n : Nat} (hn : 0 < n) (hsz : e.size = n) {a : Addr} {len cap : Nat} (hlc : len ≤ cap) (hcap : cap ≤ maxLen) (hspot : 0 < cap → a.spot = none ∧ a.block < W.heap.size)
    {css : List (List Value)} (hlen : css.length = len) (hP : Pn len) (hcs : ∀ (i : Nat) (c : List Value), css[i]? = some c → c.length = n ∧ (∀ j, j < n → W.cell? ((a.add (i * n)).add j) = c[j]?) ∧ Read Pn W e c) : Read Pn W (.slice n e) [.slice (some a) len cap] := by
  intro m H h
  by_cases h0 : cap = 0
  · have : len = 0 := by omega
    subst this; subst h0
    refine ⟨m, [], [.empty], Ext.refl m, by simpa using h, ⟨⟨_, rfl⟩, trivial⟩, ?_, rfl⟩
    simp only [WF]
    exact ⟨.empty, [], rfl, ⟨fun c hc => by simp at hc, .inl ⟨rfl, rfl⟩⟩, by simp, hP, fun c hc => by simp at hc⟩
  · obtain ⟨hs, hb⟩ := hspot (by omega)
    obtain ⟨m1, n1, avss, e1, r1, l1, v1, w1⟩ := read_elems hsz css (fun c hc => by
      obtain ⟨i, hi⟩ := List.getElem?_of_mem hc
      exact (hcs i c hi).2.2) m H h
    have hall : ∀ c ∈ avss, c.length = n := fun c hc => (w1 c hc).2
    have hfl := flatten_len hall
    obtain ⟨ab, ao, asp⟩ := a
    simp only at hs hb; subst hs
    have hcell : CellsAt m1 W ⟨ab, ao, cap * n, n⟩ avss.flatten := fun j v hv => by
      obtain ⟨c, h1, h2⟩ := flatten_get hn hall j v hv
      have hi : j / n < css.length := by rw [← l1]; exact (List.getElem?_eq_some_iff.1 h1).1
      obtain ⟨cv, hcv⟩ : ∃ cv, css[j / n]? = some cv := ⟨_, List.getElem?_eq_getElem hi⟩
      obtain ⟨g1, g2, _⟩ := hcs _ _ hcv
      obtain ⟨x, x1, x2⟩ := (v1 _ _ _ h1 hcv).get _ _ h2
      refine ⟨x, ?_, x2⟩
      have := g2 (j % n) (Nat.mod_lt _ hn)
      rw [add_mk, add_mk, x1, show ao + j / n * n + j % n = ao + j by have := Nat.div_add_mod j n; rw [Nat.mul_comm] at this; omega] at this
      exact this
    obtain ⟨e2, r2⟩ := r1.push (k := { cells := avss.flatten, e := n }) (l := ⟨ab, ao, cap * n, n⟩) rfl rfl (by rw [hfl, l1, hlen]; exact Nat.mul_le_mul_right _ hlc) hcell hb
    refine ⟨_, n1 ++ [{ cells := avss.flatten, e := n }], [.slice (H ++ n1).length 0 len none], e1.trans e2, by rwa [List.append_assoc] at r2, ⟨⟨_, _, rfl, hlc, _, upd_same _ _ _, ?_, .inl (by simp)⟩, trivial⟩, ?_, rfl⟩
    · show 0 + cap * n = cap * n; omega
    · simp only [WF]
      rw [← List.append_assoc]
      refine ⟨_, avss, rfl, ⟨hall, .inr ⟨_, _, _, _, by rw [l1, hlen], rfl, by unfold Heap.blk; rw [List.getElem?_append_right (Nat.le_refl _)]; simp; rfl, rfl, by rw [hfl]; simp, ?_⟩⟩, by omega, by rw [l1, hlen]; exact hP, fun c hc => (w1 c hc).1.append _⟩
      rw [List.drop_zero, ← hfl, List.take_length]

/-- What is asked of a reading, and handed on to its parts. -/
structure Bd (Pn : Nat → Prop) (B : DataW T → Prop) : Prop where
  zero : Pn 0
  len : ∀ {e s : List (DataW T)}, B (.slice e s) → Pn e.length
  elem : ∀ {e s : List (DataW T)} {x : DataW T}, B (.slice e s) → x ∈ e ++ s → B x
  part : ∀ {l : List (DataW T)} {x : DataW T}, B (.agg l) → x ∈ l → B x
  str : ∀ {s : ByteArray}, B (.lit (.string s.data.toList)) → Pn s.size

variable {B : DataW T → Prop} (hB : Bd Pn B)
include hB

mutual
theorem read_tc : ∀ (tc : TC) (fuel : Nat) (t : TypeId) (cs : List Value) (x : DataW T × List MemPlace), tcOk P t tc = true → DataW.trod enc P W 0 (fun _ => true) true fuel t cs = some x → B x.1 → Read Pn W tc cs
  | .int k, fuel, t, cs, x, hk, h, hb => by
    simp only [tcOk] at hk
    split at hk
    · rename_i k' hu
      simp only [decide_eq_true_eq] at hk; subst hk
      intro m H hr
      have : ∃ n, cs = [.int k' n] ∧ (Lit.int k' n).wf = true := by
        cases fuel with
        | zero => simp [DataW.trod] at h
        | succ fuel =>
          unfold DataW.trod at h
          rw [hu] at h
          split at h <;> simp_all
      obtain ⟨n, rfl, hw⟩ := this
      refine ⟨m, [], [.int k' n], Ext.refl m, by simpa using hr, ⟨rfl, trivial⟩, ?_, rfl⟩
      simp only [WF]; exact ⟨n, rfl, hw⟩
    · simp at hk
  | .bool, fuel, t, cs, x, hk, h, hb => by
    simp only [tcOk] at hk
    split at hk
    · rename_i hu
      intro m H hr
      have : ∃ b, cs = [.bool b] := by
        cases fuel with
        | zero => simp [DataW.trod] at h
        | succ fuel =>
          unfold DataW.trod at h
          rw [hu] at h
          split at h <;> simp_all
      obtain ⟨b, rfl⟩ := this
      refine ⟨m, [], [.bool b], Ext.refl m, by simpa using hr, ⟨rfl, trivial⟩, ?_, rfl⟩
      simp only [WF]; exact ⟨b, rfl⟩
    · simp at hk
  | .str, fuel, t, cs, x, hk, h, hb => by
    simp only [tcOk] at hk
    split at hk
    · rename_i hu
      intro m H hr
      have : ∃ s, cs = [.string s] ∧ s.size ≤ maxLen ∧ (DataW.lit (.string s.data.toList), []) = x := by
        cases fuel with
        | zero => simp [DataW.trod] at h
        | succ fuel =>
          unfold DataW.trod at h
          rw [hu] at h
          split at h <;> simp_all
      obtain ⟨s, rfl, hs0, hxe⟩ := this
      have hs : s.size ≤ maxLen ∧ Pn s.size := ⟨hs0, hB.str (by rw [← hxe] at hb; exact hb)⟩
      refine ⟨m, [], [.str s], Ext.refl m, by simpa using hr, ⟨rfl, trivial⟩, ?_, rfl⟩
      simp only [WF]; exact ⟨s, rfl, hs⟩
    · simp at hk
  | .slice n e, fuel, t, cs, x, hk, h, hb => by
    simp only [tcOk] at hk
    split at hk
    · rename_i et hu
      simp only [Bool.and_eq_true, decide_eq_true_eq] at hk
      obtain ⟨⟨⟨hc, hn⟩, hsz⟩, he⟩ := hk
      rcases DataW.trod_slice hu h with ⟨rfl, _⟩ | ⟨a, len, cap, elems, rest, f, _, rfl, hx, _, hlc, hcap, hel, hels, hrest, _⟩
      · intro m H hr
        refine ⟨m, [], [.empty], Ext.refl m, by simpa using hr, ⟨⟨_, rfl⟩, trivial⟩, ?_, rfl⟩
        simp only [WF]
        exact ⟨.empty, [], rfl, ⟨fun c hc => by simp at hc, .inl ⟨rfl, rfl⟩⟩, by simp, hB.zero, fun c hc => by simp at hc⟩
      · obtain ⟨hrl, hrest⟩ := hrest rfl
        rw [hc] at hels hrest
        rw [hx] at hb
        have hbe : ∀ y ∈ elems ++ rest, B y.1 := fun y hy => hB.elem hb (by rw [← List.map_append]; exact List.mem_map_of_mem hy)
        have hPl : Pn len := by have := hB.len hb; rw [List.length_map, hel] at this; exact this
        have hone : ∀ i y, B y.1 → (W.cells? 0 (a.add (i * n)) n).bind (DataW.trod enc P W 0 (fun _ => true) true f et) = some y → ∃ c : List Value, c.length = n ∧ (∀ j, j < n → W.cell? ((a.add (i * n)).add j) = c[j]?) ∧ Read Pn W e c := fun i y hyb hy => by
          rw [Option.bind_eq_some_iff] at hy
          obtain ⟨c, h1, h2⟩ := hy
          obtain ⟨_, g1, g2⟩ := World.cells?_some h1
          exact ⟨c, g1, g2, read_tc e f et c y he h2 hyb⟩
        have hspot : 0 < cap → a.spot = none ∧ a.block < W.heap.size := fun h0 => by
          have : ∃ y, B y.1 ∧ (W.cells? 0 (a.add (0 * n)) n).bind (DataW.trod enc P W 0 (fun _ => true) true f et) = some y := by
            by_cases hl : 0 < len
            · exact ⟨elems[0], hbe _ (List.mem_append.2 (.inl (List.getElem_mem _))), by rw [hels 0 hl, List.getElem?_eq_getElem]⟩
            · have hl0 : len = 0 := by omega
              have := hrest 0 (by omega)
              rw [hl0, Nat.add_zero] at this
              exact ⟨rest[0], hbe _ (List.mem_append.2 (.inr (List.getElem_mem _))), by rw [this, List.getElem?_eq_getElem]⟩
          obtain ⟨y, hyb, hy⟩ := this
          obtain ⟨c, g1, g2, _⟩ := hone 0 y hyb hy
          have := g2 0 hn
          rw [Nat.zero_mul, List.getElem?_eq_getElem (by omega)] at this
          simp only [Addr.add, if_true] at this
          unfold World.cell? at this
          split at this
          · rename_i cc _ _ hb
            split at this
            · simp at this
            · rename_i hs
              refine ⟨by simpa using hs, ?_⟩
              rcases Nat.lt_or_ge a.block W.heap.size with h | h
              · exact h
              · rw [Array.getElem?_eq_none h] at hb; simp at hb
          · simp at this
        have hall : ∀ k, k ≤ len → ∃ css : List (List Value), css.length = k ∧ ∀ (i : Nat) (c : List Value), css[i]? = some c → c.length = n ∧ (∀ j, j < n → W.cell? ((a.add (i * n)).add j) = c[j]?) ∧ Read Pn W e c := by
          intro k
          induction k with
          | zero => intro _; exact ⟨[], rfl, fun i c h => by simp at h⟩
          | succ k ih =>
            intro hk
            obtain ⟨css, l1, h1⟩ := ih (by omega)
            obtain ⟨c, g⟩ := hone k elems[k] (hbe _ (List.mem_append.2 (.inl (List.getElem_mem _)))) (by rw [hels k (by omega), List.getElem?_eq_getElem])
            refine ⟨css ++ [c], by simp [l1], fun i c' hi => ?_⟩
            by_cases e : i < css.length
            · rw [List.getElem?_append_left e] at hi; exact h1 i c' hi
            · rw [List.getElem?_append_right (by omega)] at hi
              cases hq : i - css.length with
              | zero =>
                rw [hq] at hi; simp at hi; subst hi
                have : i = k := by omega
                subst this; exact g
              | succ q => rw [hq] at hi; simp at hi
        obtain ⟨css, l1, h1⟩ := hall len (Nat.le_refl _)
        exact read_slice hn hsz hlc hcap hspot l1 hPl h1
    · simp at hk
  | .struct l, fuel, t, cs, x, hk, h, hb => by
    simp only [tcOk] at hk
    split at hk
    · rename_i fs hu
      simp only [Bool.and_eq_true, decide_eq_true_eq] at hk
      obtain ⟨hc, hfs⟩ := hk
      obtain ⟨xs, n, _, hx, hlen, hxl, hf⟩ := DataW.trod_struct hu h
      rw [hx] at hb
      have := read_fs l n fs.toList 0 cs (by rw [hlen, hc]; omega) hfs fun i f hi => by
        have := hf i f (by simpa using hi)
        have hil : i < xs.length := by rw [hxl]; simpa using (List.getElem?_eq_some_iff.1 hi).1
        exact ⟨xs[i], by rw [this, List.getElem?_eq_getElem hil], hB.part hb (List.mem_map_of_mem (List.getElem_mem hil))⟩
      intro m H hr
      obtain ⟨m', news, avs, h1, h2, h3, h4, h5⟩ := this m H hr
      rw [List.drop_zero] at h3
      exact ⟨m', news, avs, h1, h2, h3, by simpa only [WF] using h4, by simpa only [TC.size] using h5⟩
    · simp at hk
theorem read_fs : ∀ (l : List TC) (fuel : Nat) (fs : List Field) (off : Nat) (cs : List Value), cs.length = off + TC.sizes l → fsOk P fs l off = true →
    (∀ (i : Nat) (f : Field), fs[i]? = some f → ∃ y, DataW.trod enc P W 0 (fun _ => true) true fuel f.type ((cs.drop f.offset).take (P.cellsOf f.type)) = some y ∧ B y.1) → Reads Pn W l (cs.drop off)
  | [], fuel, fs, off, cs, hl, hk, h => by
    intro m H hr
    refine ⟨m, [], [], Ext.refl m, by simpa using hr, ?_, ?_, rfl⟩
    · rw [List.drop_eq_nil_of_le (by rw [hl]; simp [TC.sizes])]; trivial
    · simp only [WFs]
  | c :: l, fuel, fs, off, cs, hl, hk, h => by
    cases fs with
    | nil => simp [fsOk] at hk
    | cons f fs =>
      simp only [fsOk, Bool.and_eq_true, decide_eq_true_eq] at hk
      obtain ⟨⟨⟨h1, h2⟩, h3⟩, h4⟩ := hk
      simp only [TC.sizes] at hl
      obtain ⟨y, hy, hyb⟩ := h 0 f rfl
      rw [h1, h2] at hy
      have r1 := read_tc c fuel f.type _ y h3 hy hyb
      have r2 := read_fs l fuel fs (off + c.size) cs (by omega) h4 fun i f hi => h (i + 1) f (by simpa using hi)
      intro m H hr
      obtain ⟨m1, n1, a1, e1, o1, v1, w1, l1⟩ := r1 m H hr
      obtain ⟨m2, n2, a2, e2, o2, v2, w2, l2⟩ := r2 m1 (H ++ n1) o1
      refine ⟨m2, n1 ++ n2, a1 ++ a2, e1.trans e2, by rwa [List.append_assoc] at o2, ?_, ?_, by simp [TC.sizes, l1, l2]⟩
      · have := VRels.append (v1.mono e2) v2
        have hs : (cs.drop off).take c.size ++ cs.drop (off + c.size) = cs.drop off := by
          rw [← List.drop_drop, List.take_append_drop]
        rwa [hs] at this
      · simp only [WFs]
        rw [← List.append_assoc]
        exact ⟨a1, a2, rfl, w1.append n2, w2⟩
end

/-! ### Arguments -/

def TC.isStruct : TC → Bool
  | .struct _ => true
  | _ => false

def WFv (Pn : Nat → Prop) (H : Heap) (tc : TC) (v : AV) : Prop :=
  match tc with
  | .struct fs => ∃ cs, v = .agg cs ∧ WFs Pn H fs cs
  | tc => WF Pn H tc [v]

def WFvs (Pn : Nat → Prop) (H : Heap) : List TC → List AV → Prop
  | [], [] => True
  | tc :: tcs, v :: vs => WFv Pn H tc v ∧ WFvs Pn H tcs vs
  | _, _ => False

omit hB in
theorem WFv.append {H : Heap} {tc : TC} {v : AV} (h : WFv Pn H tc v) (news : Heap) : WFv Pn (H ++ news) tc v := by
  cases tc with
  | struct fs => obtain ⟨cs, h1, h2⟩ := h; exact ⟨cs, h1, h2.append news⟩
  | _ => exact WF.append h news

def tcsOk (P : Program) : List TypeId → List TC → Bool
  | [], [] => true
  | t :: ts, c :: cs => tcOk P t c && tcsOk P ts cs
  | _, _ => false

theorem read_arg {tc : TC} {t : TypeId} {v : Value} {x : DataW T} {ps : List MemPlace} {base : Nat} (hk : tcOk P t tc = true) (h : DataW.Trod enc P W 0 (fun _ => true) true t v x ps) (hok : Value.okWide P W .any base t v) (hb : B x) :
    ∀ (m : BMap) (H : Heap), RO m H W → ∃ m' news av, Ext m m' ∧ RO m' (H ++ news) W ∧ VRel m' av v ∧ WFv Pn (H ++ news) tc av := by
  intro m H hr
  obtain ⟨fuel, hf⟩ := h
  have key := read_tc hB tc fuel t _ _ hk hf hb
  cases tc with
  | struct l =>
    simp only [tcOk] at hk
    split at hk
    · rename_i fs hu
      obtain ⟨cs, rfl, _⟩ := okWide_struct hu hok
      obtain ⟨m', news, avs, h1, h2, h3, h4, h5⟩ := key m H hr
      exact ⟨m', news, .agg avs, h1, h2, ⟨cs.toList, rfl, h3⟩, avs, rfl, by simpa only [WF] using h4⟩
    · simp at hk
  | int k =>
    simp only [tcOk] at hk
    split at hk
    · rename_i k' hu
      obtain ⟨n, rfl⟩ := okWide_int hu hok
      obtain ⟨m', news, avs, h1, h2, h3, h4, h5⟩ := key m H hr
      obtain ⟨av, rfl⟩ : ∃ av, avs = [av] := List.length_eq_one_iff.1 h5
      exact ⟨m', news, av, h1, h2, h3.1, h4⟩
    · simp at hk
  | bool =>
    simp only [tcOk] at hk
    split at hk
    · rename_i hu
      obtain ⟨n, rfl⟩ := okWide_bool hu hok
      obtain ⟨m', news, avs, h1, h2, h3, h4, h5⟩ := key m H hr
      obtain ⟨av, rfl⟩ : ∃ av, avs = [av] := List.length_eq_one_iff.1 h5
      exact ⟨m', news, av, h1, h2, h3.1, h4⟩
    · simp at hk
  | str =>
    simp only [tcOk] at hk
    split at hk
    · rename_i hu
      obtain ⟨n, rfl⟩ := okWide_string hu hok
      obtain ⟨m', news, avs, h1, h2, h3, h4, h5⟩ := key m H hr
      obtain ⟨av, rfl⟩ : ∃ av, avs = [av] := List.length_eq_one_iff.1 h5
      exact ⟨m', news, av, h1, h2, h3.1, h4⟩
    · simp at hk
  | slice n e =>
    simp only [tcOk] at hk
    split at hk
    · rename_i et hu
      obtain ⟨a, len, cap, rfl⟩ := okWide_slice hu hok
      obtain ⟨m', news, avs, h1, h2, h3, h4, h5⟩ := key m H hr
      obtain ⟨av, rfl⟩ : ∃ av, avs = [av] := List.length_eq_one_iff.1 h5
      exact ⟨m', news, av, h1, h2, h3.1, h4⟩
    · simp at hk

omit hB in
theorem WFvs.append {H : Heap} : ∀ {tcs : List TC} {vs : List AV}, WFvs Pn H tcs vs → ∀ news, WFvs Pn (H ++ news) tcs vs
  | [], [], _, _ => trivial
  | _ :: _, _ :: _, ⟨h1, h2⟩, news => ⟨h1.append news, h2.append news⟩

theorem read_args {base : Nat} : ∀ {tcs : List TC} {ts : List TypeId} {vs : List Value} {ds : List (DataW T)} {ps : List MemPlace}, tcsOk P ts tcs = true → DataW.TrodAll enc P W 0 (fun _ => true) true ts vs ds ps →
    (∀ (j : Nat) t v, ts[j]? = some t → vs[j]? = some v → Value.okWide P W .any base t v) → (∀ d ∈ ds, B d) → ∀ (m : BMap) (H : Heap), RO m H W → ∃ m' news avs, Ext m m' ∧ RO m' (H ++ news) W ∧ VRels m' avs vs ∧ WFvs Pn (H ++ news) tcs avs
  | [], [], [], [], ps, _, _, _, _, m, H, hr => ⟨m, [], [], Ext.refl m, by simpa using hr, trivial, trivial⟩
  | tc :: tcs, t :: ts, v :: vs, d :: ds, ps, hk, h, hok, hbs, m, H, hr => by
    obtain ⟨p, q, h1, h2, _⟩ := h
    simp only [tcsOk, Bool.and_eq_true] at hk
    obtain ⟨m1, n1, a1, e1, o1, v1, w1⟩ := read_arg hB hk.1 h1 (hok 0 t v rfl rfl) (hbs d (by simp)) m H hr
    obtain ⟨m2, n2, a2, e2, o2, v2, w2⟩ := read_args hk.2 h2 (fun j t v ht hv => hok (j + 1) t v (by simpa using ht) (by simpa using hv)) (fun x hx => hbs x (by simp [hx])) m1 (H ++ n1) o1
    refine ⟨m2, n1 ++ n2, a1 :: a2, e1.trans e2, by rwa [List.append_assoc] at o2, ⟨v1.mono e2, v2⟩, ?_⟩
    rw [← List.append_assoc]
    exact ⟨w1.append n2, w2⟩
  | [], t :: ts, _, _, _, hk, _, _, _, _, _, _ => by simp [tcsOk] at hk
  | _ :: _, [], _, _, _, hk, _, _, _, _, _, _ => by simp [tcsOk] at hk
  | [], [], _ :: _, _, _, _, h, _, _, _, _, _ => h.elim
  | [], [], [], _ :: _, _, _, h, _, _, _, _, _ => h.elim
  | _ :: _, _ :: _, [], _, _, _, h, _, _, _, _, _ => h.elim
  | _ :: _, _ :: _, _ :: _, [], _, _, h, _, _, _, _, _ => h.elim

end

/-- WHAT A CALL WITH GIVEN ARGUMENTS DOES: where the abstract machine says 'true', the call returns true and turns nothing that was there. -/
theorem calls_true {P : Program} (hmix : P.follows .mixedOrders = true) {f : FuncId} {tcs : List TC} (hcore : ∀ (H : Heap) (avs : List AV), WFvs Pn H tcs avs → ∃ n H', rcall (table P) n H.length f avs H = some (.bool true, H'))
    {T : Type} {enc : TypeId × Value → T} {B : DataW T → Prop} (hB : Bd Pn B) {W : World} {base : Nat} {ts : List TypeId} {args : Array Value} {ds : List (DataW T)} {ps : List MemPlace} (hbs : ∀ d ∈ ds, B d) (hk : tcsOk P ts tcs = true) (h : DataW.TrodAll enc P W 0 (fun _ => true) true ts args.toList ds ps)
    (hok : ∀ (j : Nat) t v, ts[j]? = some t → args.toList[j]? = some v → Value.okWide P W .any base t v) : Calls P f args W fun e W' => e = .returned (.bool true) ∧ Below W.heap.size W W' := by
  obtain ⟨m, news, avs, _, hr, hv, hw⟩ := read_args hB hk h hok hbs _ [] (RO.nil W)
  rw [List.nil_append] at hr hw
  obtain ⟨n, H', hrun⟩ := hcore news avs hw
  obtain ⟨_, hs⟩ := call_sound hmix n _ _ _ _ _ _ hrun
  have := hs news.length W.heap.size m W args.toList (Nat.le_refl _) hr.sim hv fun b hb _ => by
    cases hm : m b with
    | none => rfl
    | some l => have := hr.dom b l hm; omega
  have ha : (⟨args.toList⟩ : Array Value) = args := by simp
  rw [ha] at this
  refine Calls.mono this fun e W' he => ?_
  obtain ⟨v', m', rfl, hv', hst⟩ := he
  cases hv'
  refine ⟨rfl, hst.os, hst.tape, hst.output, hst.size, fun k hk => hst.frame k hk ?_⟩
  rintro ⟨b, kb, l, h1, h2, _⟩
  have := act_lt h2; omega

end Go.RM
