import Derived.Test.YtpjbnjgckbhohaaRmRegion7
import Derived.ProofKit
import Derived.Test.YtpjbnjgckbhohaaRmOpt
import Derived.Test.YtpjbnjgckbhohaaRmWp
import Derived.ChangeCalls
import Derived.JoinedCond
import Derived.Test.YtpjbnjgckbhohaaSlcW
import Derived.Test.YtpjbnjgckbhohaaSpP
import Derived.Test.YtpjbnjgckbhohaaSpL
/-
  How a call's arguments stand in the abstract machine: each slice has a read-only block of its own.
-/
namespace Go.RM
open Go.WideShapes Go.RowKit
set_option linter.unusedSimpArgs false
set_option linter.unusedVariables false
set_option linter.unusedSectionVars false

/-- Shapes of what a call is handed. 'slice n e': each element takes n cells. -/
inductive TC where
  | int (k : IntKind)
  | bool
  | str
  | slice (n : Nat) (e : TC)
  | struct (fs : List TC)

mutual
def TC.size : TC → Nat
  | .struct fs => TC.sizes fs
  | _ => 1
def TC.sizes : List TC → Nat
  | [] => 0
  | f :: fs => f.size + TC.sizes fs
end

mutual
def tcOk (P : Program) : TypeId → TC → Bool
  | t, .int k => (match P.underlying t with | some (.int k') => decide (k' = k) | _ => false)
  | t, .bool => (match P.underlying t with | some .bool => true | _ => false)
  | t, .str => (match P.underlying t with | some .string => true | _ => false)
  | t, .slice n e => (match P.underlying t with | some (.slice et) => decide (P.cellsOf et = n) && decide (0 < n) && decide (e.size = n) && tcOk P et e | _ => false)
  | t, .struct l => (match P.underlying t with | some (.struct fs) => decide (P.cellsOf t = TC.sizes l) && fsOk P fs.toList l 0 | _ => false)
def fsOk (P : Program) : List Field → List TC → Nat → Bool
  | [], [], _ => true
  | f :: fs, c :: l, off => decide (f.offset = off) && decide (P.cellsOf f.type = c.size) && tcOk P f.type c && fsOk P fs l (off + c.size)
  | _, _, _ => false
end

/-- A slice's elements, each a list of n cells. -/
def Elems (H : Heap) (n : Nat) (v : AV) (css : List (List AV)) : Prop :=
  (∀ c ∈ css, c.length = n) ∧ ((v = .empty ∧ css = []) ∨ ∃ b off lim k, v = .slice b off css.length lim ∧ lim = none ∧ H.blk b = some k ∧ k.e = n ∧ off + css.length * n ≤ k.cells.length ∧ (k.cells.drop off).take (css.length * n) = css.flatten)

mutual
def WF (Pn : Nat → Prop) (H : Heap) : TC → List AV → Prop
  | .int k, cs => ∃ n, cs = [.int k n] ∧ (Lit.int k n).wf = true
  | .bool, cs => ∃ b, cs = [.bool b]
  | .str, cs => ∃ s, cs = [.str s] ∧ s.size ≤ maxLen ∧ Pn s.size
  | .slice n e, cs => ∃ v css, cs = [v] ∧ Elems H n v css ∧ css.length ≤ maxLen ∧ Pn css.length ∧ ∀ c ∈ css, WF Pn H e c
  | .struct fs, cs => WFs Pn H fs cs
def WFs (Pn : Nat → Prop) (H : Heap) : List TC → List AV → Prop
  | [], cs => cs = []
  | f :: fs, cs => ∃ a b, cs = a ++ b ∧ WF Pn H f a ∧ WFs Pn H fs b
end

variable {Pn : Nat → Prop}

theorem blk_append {H : Heap} {b : Nat} {k : Blk} (h : H.blk b = some k) (news : Heap) : Heap.blk (H ++ news) b = some k := by
  have hg := (blk_act h).2.2
  unfold Heap.blk at h ⊢
  rw [List.getElem?_append_left (get_lt hg)]
  exact h

theorem Elems.append {H : Heap} {n : Nat} {v : AV} {css : List (List AV)} (h : Elems H n v css) (news : Heap) : Elems (H ++ news) n v css := by
  refine ⟨h.1, h.2.imp id ?_⟩
  rintro ⟨b, off, lim, k, h1, h0, h2, h3⟩
  exact ⟨b, off, lim, k, h1, h0, blk_append h2 news, h3⟩

mutual
theorem WF.append {H : Heap} : ∀ {tc : TC} {cs : List AV}, WF Pn H tc cs → ∀ news, WF Pn (H ++ news) tc cs
  | .int k, cs, h, news => by simpa only [WF] using h
  | .bool, cs, h, news => by simpa only [WF] using h
  | .str, cs, h, news => by simpa only [WF] using h
  | .slice n e, cs, h, news => by
    simp only [WF] at h ⊢
    obtain ⟨v, css, h1, h2, h3, h5, h4⟩ := h
    exact ⟨v, css, h1, h2.append news, h3, h5, fun c hc => WF.append (h4 c hc) news⟩
  | .struct fs, cs, h, news => by
    simp only [WF] at h ⊢
    exact WFs.append h news
theorem WFs.append {H : Heap} : ∀ {fs : List TC} {cs : List AV}, WFs Pn H fs cs → ∀ news, WFs Pn (H ++ news) fs cs
  | [], cs, h, news => by simpa only [WFs] using h
  | f :: fs, cs, h, news => by
    simp only [WFs] at h ⊢
    obtain ⟨a, b, h1, h2, h3⟩ := h
    exact ⟨a, b, h1, WF.append h2 news, WFs.append h3 news⟩
end

/-- A heap all of whose blocks are the caller's. -/
structure RO (m : BMap) (H : Heap) (w : World) : Prop where
  kid : ∀ (b : Nat) (k : Blk), H[b]? = some k → k.kid = none
  dom : ∀ b l, m b = some l → b < H.length
  es : ∀ (b : Nat) (k : Blk) (l : Loc), H[b]? = some k → m b = some l → l.e = k.e
  cells : ∀ (b : Nat) (k : Blk) (l : Loc), H[b]? = some k → m b = some l → k.cells.length ≤ l.room ∧ CellsAt m w l k.cells
  ro : ∀ b l, m b = some l → l.cb < w.heap.size

theorem RO.sim {m : BMap} {H : Heap} {w : World} (h : RO m H w) : Sim H.length w.heap.size m H w := by
  refine ⟨Nat.le_refl _, Nat.le_refl _, fun b c k hb hk => by rw [h.kid b k hb] at hk; simp at hk, h.es, fun b k l ha hm => ⟨h.es b k l (act_get ha) hm, h.cells b k l (act_get ha) hm⟩, fun b l _ hm => h.ro b l hm, fun b k l hb ha _ => ?_, fun b b' k k' l l' hb _ ha => ?_⟩
  · have := act_lt ha; omega
  · have := act_lt ha; omega

theorem RO.nil (w : World) : RO (fun _ => none) [] w := ⟨fun b k h => by simp at h, fun b l h => by simp at h, fun b k l h => by simp at h, fun b k l h => by simp at h, fun b l h => by simp at h⟩

theorem RO.push {m : BMap} {H : Heap} {w : World} (h : RO m H w) {k : Blk} {l : Loc} (hk : k.kid = none) (he : l.e = k.e) (hr : k.cells.length ≤ l.room) (hc : CellsAt m w l k.cells) (hl : l.cb < w.heap.size) :
    Ext m (upd m H.length l) ∧ RO (upd m H.length l) (H ++ [k]) w := by
  have hn : m H.length = none := by
    cases hm : m H.length with
    | none => rfl
    | some l' => have := h.dom _ _ hm; omega
  have hext := upd_ext l hn
  have hget : ∀ (b : Nat) (k' : Blk), (H ++ [k])[b]? = some k' → (b < H.length ∧ H[b]? = some k') ∨ (b = H.length ∧ k' = k) := fun b k' hb => by
    by_cases e : b < H.length
    · rw [List.getElem?_append_left e] at hb; exact .inl ⟨e, hb⟩
    · rw [List.getElem?_append_right (by omega)] at hb
      cases hq : b - H.length with
      | zero => rw [hq] at hb; simp at hb; exact .inr ⟨by omega, hb.symm⟩
      | succ q => rw [hq] at hb; simp at hb
  refine ⟨hext, fun b k' hb => ?_, fun b l' hm => ?_, fun b k' l' hb hm => ?_, fun b k' l' hb hm => ?_, fun b l' hm => ?_⟩
  · rcases hget b k' hb with ⟨_, h1⟩ | ⟨_, rfl⟩
    · exact h.kid b k' h1
    · exact hk
  · by_cases e : b = H.length
    · subst e; simp
    · rw [upd_ne _ e] at hm; have := h.dom b l' hm; simp; omega
  · rcases hget b k' hb with ⟨h0, h1⟩ | ⟨rfl, rfl⟩
    · rw [upd_ne _ (by omega)] at hm; exact h.es b k' l' h1 hm
    · rw [upd_same] at hm; cases hm; exact he
  · rcases hget b k' hb with ⟨h0, h1⟩ | ⟨rfl, rfl⟩
    · rw [upd_ne _ (by omega)] at hm
      obtain ⟨e1, e2⟩ := h.cells b k' l' h1 hm
      exact ⟨e1, cellsAt_mono e2 hext fun _ _ => rfl⟩
    · rw [upd_same] at hm; cases hm; exact ⟨hr, cellsAt_mono hc hext fun _ _ => rfl⟩
  · by_cases e : b = H.length
    · subst e; rw [upd_same] at hm; cases hm; exact hl
    · rw [upd_ne _ e] at hm; exact h.ro b l' hm

theorem flatten_len {n : Nat} : ∀ {css : List (List AV)}, (∀ c ∈ css, c.length = n) → css.flatten.length = css.length * n
  | [], _ => by simp
  | c :: css, h => by
    rw [List.flatten_cons, List.length_append, flatten_len (fun c hc => h c (by simp [hc])), h c (by simp), List.length_cons, Nat.succ_mul]; omega

theorem flatten_get {n : Nat} (hn : 0 < n) : ∀ {css : List (List AV)}, (∀ c ∈ css, c.length = n) → ∀ (j : Nat) (v : AV), css.flatten[j]? = some v → ∃ c, css[j / n]? = some c ∧ c[j % n]? = some v
  | [], _, j, v, h => by simp at h
  | c :: css, hc, j, v, h => by
    have hcl := hc c (by simp)
    rw [List.flatten_cons] at h
    by_cases hj : j < n
    · rw [List.getElem?_append_left (by omega)] at h
      exact ⟨c, by rw [Nat.div_eq_of_lt hj]; rfl, by rw [Nat.mod_eq_of_lt hj]; exact h⟩
    · rw [List.getElem?_append_right (by omega), hcl] at h
      obtain ⟨c', h1, h2⟩ := flatten_get hn (fun c hc' => hc c (by simp [hc'])) (j - n) v h
      have e1 : j / n = (j - n) / n + 1 := by rw [Nat.div_eq_sub_div hn (by omega)]
      have e2 : j % n = (j - n) % n := Nat.mod_eq_sub_mod (by omega)
      exact ⟨c', by rw [e1]; simpa using h1, by rw [e2]; exact h2⟩

section
variable {P : Program} {W : World} {T : Type} {enc : TypeId × Value → T}

def Read (Pn : Nat → Prop) (W : World) (tc : TC) (cs : List Value) : Prop := ∀ (m : BMap) (H : Heap), RO m H W → ∃ m' news avs, Ext m m' ∧ RO m' (H ++ news) W ∧ VRels m' avs cs ∧ WF Pn (H ++ news) tc avs ∧ avs.length = tc.size

def Reads (Pn : Nat → Prop) (W : World) (l : List TC) (cs : List Value) : Prop := ∀ (m : BMap) (H : Heap), RO m H W → ∃ m' news avs, Ext m m' ∧ RO m' (H ++ news) W ∧ VRels m' avs cs ∧ WFs Pn (H ++ news) l avs ∧ avs.length = TC.sizes l

theorem read_elems {e : TC} {n : Nat} (hsz : e.size = n) : ∀ (css : List (List Value)), (∀ cs ∈ css, Read Pn W e cs) → ∀ (m : BMap) (H : Heap), RO m H W →
    ∃ (m' : BMap) (news : Heap) (avss : List (List AV)), Ext m m' ∧ RO m' (H ++ news) W ∧ avss.length = css.length ∧ (∀ (i : Nat) (a : List AV) (c : List Value), avss[i]? = some a → css[i]? = some c → VRels m' a c) ∧ (∀ a ∈ avss, WF Pn (H ++ news) e a ∧ a.length = n)
  | [], _, m, H, h => ⟨m, [], [], Ext.refl m, by simpa using h, rfl, fun i a c h => by simp at h, fun a h => by simp at h⟩
  | cs :: css, hr, m, H, h => by
    obtain ⟨m1, n1, a1, e1, r1, v1, w1, l1⟩ := hr cs (by simp) m H h
    obtain ⟨m2, n2, asx, e2, r2, l2, v2, w2⟩ := read_elems hsz css (fun c hc => hr c (by simp [hc])) m1 (H ++ n1) r1
    refine ⟨m2, n1 ++ n2, a1 :: asx, e1.trans e2, by rwa [List.append_assoc] at r2, by simp [l2], fun i a c ha hc => ?_, fun a ha => ?_⟩
    · cases i with
      | zero => simp only [List.getElem?_cons_zero, Option.some.injEq] at ha hc; subst ha; subst hc; exact v1.mono e2
      | succ i => exact v2 i a c (by simpa using ha) (by simpa using hc)
    · rw [← List.append_assoc]
      rcases List.mem_cons.1 ha with rfl | ha
      · exact ⟨w1.append n2, by rw [l1, hsz]⟩
      · exact w2 a ha

theorem read_slice {e : TC} {n : Nat} (hn : 0 < n) (hsz : e.size = n) {a : Addr} {len cap : Nat} (hlc : len ≤ cap) (hcap : cap ≤ maxLen) (hspot : 0 < cap → a.spot = none ∧ a.block < W.heap.size)
    {css : List (List Value)} (hlen : css.length = len) (hP : Pn len) (hcs : ∀ (i : Nat) (c : List Value), css[i]? = some c → c.length = n ∧ (∀ j, j < n → W.cell? ((a.add (i * n)).add j) = c[j]?) ∧ Read Pn W e c) : Read Pn W (.slice n e) [.slice (some a) len cap] := by
  intro m H h
  by_cases h0 : cap = 0
  · have : len = 0 := by omega
    subst this; subst h0
    refine ⟨m, [], [.empty], Ext.refl m, by simpa using h, ⟨⟨_, rfl⟩, trivial⟩, ?_, rfl⟩
    simp only [WF]
    exact ⟨.empty, [], rfl, ⟨fun c hc => by simp at hc, .inl ⟨rfl, rfl⟩⟩, by simp, hP, fun c hc => by simp at hc⟩
  · obtain ⟨hs, hb⟩ := hspot (by omega)
    obtain ⟨m1, n1, avss, e1, r1, l1, v1, w1⟩ := read_elems hsz css (fun c hc => by
      obtain ⟨i, hi⟩ := List.getElem?_of_mem hc
      exact (hcs i c hi).2.2) m H h
    have hall : ∀ c ∈ avss, c.length = n := fun c hc => (w1 c hc).2
    have hfl := flatten_len hall
    obtain ⟨ab, ao, asp⟩ := a
    simp only at hs hb; subst hs
    have hcell : CellsAt m1 W ⟨ab, ao, cap * n, n⟩ avss.flatten := fun j v hv => by
      obtain ⟨c, h1, h2⟩ := flatten_get hn hall j v hv
      have hi : j / n < css.length := by rw [← l1]; exact (List.getElem?_eq_some_iff.1 h1).1
      obtain ⟨cv, hcv⟩ : ∃ cv, css[j / n]? = some cv := ⟨_, List.getElem?_eq_getElem hi⟩
      obtain ⟨g1, g2, _⟩ := hcs _ _ hcv
      obtain ⟨x, x1, x2⟩ := (v1 _ _ _ h1 hcv).get _ _ h2
      refine ⟨x, ?_, x2⟩
      have := g2 (j % n) (Nat.mod_lt _ hn)
      rw [add_mk, add_mk, x1, show ao + j / n * n + j % n = ao + j by have := Nat.div_add_mod j n; rw [Nat.mul_comm] at this; omega] at this
      exact this
    obtain ⟨e2, r2⟩ := r1.push (k := { cells := avss.flatten, e := n }) (l := ⟨ab, ao, cap * n, n⟩) rfl rfl (by rw [hfl, l1, hlen]; exact Nat.mul_le_mul_right _ hlc) hcell hb
    refine ⟨_, n1 ++ [{ cells := avss.flatten, e := n }], [.slice (H ++ n1).length 0 len none], e1.trans e2, by rwa [List.append_assoc] at r2, ⟨⟨_, _, rfl, hlc, _, upd_same _ _ _, ?_, .inl (by simp)⟩, trivial⟩, ?_, rfl⟩
    · show 0 + cap * n = cap * n; omega
    · simp only [WF]
      rw [← List.append_assoc]
      refine ⟨_, avss, rfl, ⟨hall, .inr ⟨_, _, _, _, by rw [l1, hlen], rfl, by unfold Heap.blk; rw [List.getElem?_append_right (Nat.le_refl _)]; simp; rfl, rfl, by rw [hfl]; simp, ?_⟩⟩, by omega, by rw [l1, hlen]; exact hP, fun c hc => (w1 c hc).1.append _⟩
      rw [List.drop_zero, ← hfl, List.take_length]

/-- What is asked of a reading, and handed on to its parts. -/
structure Bd (Pn : Nat → Prop) (B : DataW T → Prop) : Prop where
  zero : Pn 0
  len : ∀ {e s : List (DataW T)}, B (.slice e s) → Pn e.length
  elem : ∀ {e s : List (DataW T)} {x : DataW T}, B (.slice e s) → x ∈ e ++ s → B x
  part : ∀ {l : List (DataW T)} {x : DataW T}, B (.agg l) → x ∈ l → B x
  str : ∀ {s : ByteArray}, B (.lit (.string s.data.toList)) → Pn s.size

variable {B : DataW T → Prop} (hB : Bd Pn B)
include hB

mutual
theorem read_tc : ∀ (tc : TC) (fuel : Nat) (t : TypeId) (cs : List Value) (x : DataW T × List MemPlace), tcOk P t tc = true → DataW.trod enc P W 0 (fun _ => true) true fuel t cs = some x → B x.1 → Read Pn W tc cs
  | .int k, fuel, t, cs, x, hk, h, hb => by
    simp only [tcOk] at hk
    split at hk
    · rename_i k' hu
      simp only [decide_eq_true_eq] at hk; subst hk
      intro m H hr
      have : ∃ n, cs = [.int k' n] ∧ (Lit.int k' n).wf = true := by
        cases fuel with
        | zero => simp [DataW.trod] at h
        | succ fuel =>
          unfold DataW.trod at h
          rw [hu] at h
          split at h <;> simp_all
      obtain ⟨n, rfl, hw⟩ := this
      refine ⟨m, [], [.int k' n], Ext.refl m, by simpa using hr, ⟨rfl, trivial⟩, ?_, rfl⟩
      simp only [WF]; exact ⟨n, rfl, hw⟩
    · simp at hk
  | .bool, fuel, t, cs, x, hk, h, hb => by
    simp only [tcOk] at hk
    split at hk
    · rename_i hu
      intro m H hr
      have : ∃ b, cs = [.bool b] := by
        cases fuel with
        | zero => simp [DataW.trod] at h
        | succ fuel =>
          unfold DataW.trod at h
          rw [hu] at h
          split at h <;> simp_all
      obtain ⟨b, rfl⟩ := this
      refine ⟨m, [], [.bool b], Ext.refl m, by simpa using hr, ⟨rfl, trivial⟩, ?_, rfl⟩
      simp only [WF]; exact ⟨b, rfl⟩
    · simp at hk
  | .str, fuel, t, cs, x, hk, h, hb => by
    simp only [tcOk] at hk
    split at hk
    · rename_i hu
      intro m H hr
      have : ∃ s, cs = [.string s] ∧ s.size ≤ maxLen ∧ (DataW.lit (.string s.data.toList), []) = x := by
        cases fuel with
        | zero => simp [DataW.trod] at h
        | succ fuel =>
          unfold DataW.trod at h
          rw [hu] at h
          split at h <;> simp_all
      obtain ⟨s, rfl, hs0, hxe⟩ := this
      have hs : s.size ≤ maxLen ∧ Pn s.size := ⟨hs0, hB.str (by rw [← hxe] at hb; exact hb)⟩
      refine ⟨m, [], [.str s], Ext.refl m, by simpa using hr, ⟨rfl, trivial⟩, ?_, rfl⟩
      simp only [WF]; exact ⟨s, rfl, hs⟩
    · simp at hk
  | .slice n e, fuel, t, cs, x, hk, h, hb => by
    simp only [tcOk] at hk
    split at hk
    · rename_i et hu
      simp only [Bool.and_eq_true, decide_eq_true_eq] at hk
      obtain ⟨⟨⟨hc, hn⟩, hsz⟩, he⟩ := hk
      rcases DataW.trod_slice hu h with ⟨rfl, _⟩ | ⟨a, len, cap, elems, rest, f, _, rfl, hx, _, hlc, hcap, hel, hels, hrest, _⟩
      · intro m H hr
        refine ⟨m, [], [.empty], Ext.refl m, by simpa using hr, ⟨⟨_, rfl⟩, trivial⟩, ?_, rfl⟩
        simp only [WF]
        exact ⟨.empty, [], rfl, ⟨fun c hc => by simp at hc, .inl ⟨rfl, rfl⟩⟩, by simp, hB.zero, fun c hc => by simp at hc⟩
      · obtain ⟨hrl, hrest⟩ := hrest rfl
        rw [hc] at hels hrest
        rw [hx] at hb
        have hbe : ∀ y ∈ elems ++ rest, B y.1 := fun y hy => hB.elem hb (by rw [← List.map_append]; exact List.mem_map_of_mem hy)
        have hPl : Pn len := by have := hB.len hb; rw [List.length_map, hel] at this; exact this
        have hone : ∀ i y, B y.1 → (W.cells? 0 (a.add (i * n)) n).bind (DataW.trod enc P W 0 (fun _ => true) true f et) = some y → ∃ c : List Value, c.length = n ∧ (∀ j, j < n → W.cell? ((a.add (i * n)).add j) = c[j]?) ∧ Read Pn W e c := fun i y hyb hy => by
          rw [Option.bind_eq_some_iff] at hy
          obtain ⟨c, h1, h2⟩ := hy
          obtain ⟨_, g1, g2⟩ := World.cells?_some h1
          exact ⟨c, g1, g2, read_tc e f et c y he h2 hyb⟩
        have hspot : 0 < cap → a.spot = none ∧ a.block < W.heap.size := fun h0 => by
          have : ∃ y, B y.1 ∧ (W.cells? 0 (a.add (0 * n)) n).bind (DataW.trod enc P W 0 (fun _ => true) true f et) = some y := by
            by_cases hl : 0 < len
            · exact ⟨elems[0], hbe _ (List.mem_append.2 (.inl (List.getElem_mem _))), by rw [hels 0 hl, List.getElem?_eq_getElem]⟩
            · have hl0 : len = 0 := by omega
              have := hrest 0 (by omega)
              rw [hl0, Nat.add_zero] at this
              exact ⟨rest[0], hbe _ (List.mem_append.2 (.inr (List.getElem_mem _))), by rw [this, List.getElem?_eq_getElem]⟩
          obtain ⟨y, hyb, hy⟩ := this
          obtain ⟨c, g1, g2, _⟩ := hone 0 y hyb hy
          have := g2 0 hn
          rw [Nat.zero_mul, List.getElem?_eq_getElem (by omega)] at this
          simp only [Addr.add, if_true] at this
          unfold World.cell? at this
          split at this
          · rename_i cc _ _ hb
            split at this
            · simp at this
            · rename_i hs
              refine ⟨by simpa using hs, ?_⟩
              rcases Nat.lt_or_ge a.block W.heap.size with h | h
              · exact h
              · rw [Array.getElem?_eq_none h] at hb; simp at hb
          · simp at this
        have hall : ∀ k, k ≤ len → ∃ css : List (List Value), css.length = k ∧ ∀ (i : Nat) (c : List Value), css[i]? = some c → c.length = n ∧ (∀ j, j < n → W.cell? ((a.add (i * n)).add j) = c[j]?) ∧ Read Pn W e c := by
          intro k
          induction k with
          | zero => intro _; exact ⟨[], rfl, fun i c h => by simp at h⟩
          | succ k ih =>
            intro hk
            obtain ⟨css, l1, h1⟩ := ih (by omega)
            obtain ⟨c, g⟩ := hone k elems[k] (hbe _ (List.mem_append.2 (.inl (List.getElem_mem _)))) (by rw [hels k (by omega), List.getElem?_eq_getElem])
            refine ⟨css ++ [c], by simp [l1], fun i c' hi => ?_⟩
            by_cases e : i < css.length
            · rw [List.getElem?_append_left e] at hi; exact h1 i c' hi
            · rw [List.getElem?_append_right (by omega)] at hi
              cases hq : i - css.length with
              | zero =>
                rw [hq] at hi; simp at hi; subst hi
                have : i = k := by omega
                subst this; exact g
              | succ q => rw [hq] at hi; simp at hi
        obtain ⟨css, l1, h1⟩ := hall len (Nat.le_refl _)
        exact read_slice hn hsz hlc hcap hspot l1 hPl h1
    · simp at hk
  | .struct l, fuel, t, cs, x, hk, h, hb => by
    simp only [tcOk] at hk
    split at hk
    · rename_i fs hu
      simp only [Bool.and_eq_true, decide_eq_true_eq] at hk
      obtain ⟨hc, hfs⟩ := hk
      obtain ⟨xs, n, _, hx, hlen, hxl, hf⟩ := DataW.trod_struct hu h
      rw [hx] at hb
      have := read_fs l n fs.toList 0 cs (by rw [hlen, hc]; omega) hfs fun i f hi => by
        have := hf i f (by simpa using hi)
        have hil : i < xs.length := by rw [hxl]; simpa using (List.getElem?_eq_some_iff.1 hi).1
        exact ⟨xs[i], by rw [this, List.getElem?_eq_getElem hil], hB.part hb (List.mem_map_of_mem (List.getElem_mem hil))⟩
      intro m H hr
      obtain ⟨m', news, avs, h1, h2, h3, h4, h5⟩ := this m H hr
      rw [List.drop_zero] at h3
      exact ⟨m', news, avs, h1, h2, h3, by simpa only [WF] using h4, by simpa only [TC.size] using h5⟩
    · simp at hk
theorem read_fs : ∀ (l : List TC) (fuel : Nat) (fs : List Field) (off : Nat) (cs : List Value), cs.length = off + TC.sizes l → fsOk P fs l off = true →
    (∀ (i : Nat) (f : Field), fs[i]? = some f → ∃ y, DataW.trod enc P W 0 (fun _ => true) true fuel f.type ((cs.drop f.offset).take (P.cellsOf f.type)) = some y ∧ B y.1) → Reads Pn W l (cs.drop off)
  | [], fuel, fs, off, cs, hl, hk, h => by
    intro m H hr
    refine ⟨m, [], [], Ext.refl m, by simpa using hr, ?_, ?_, rfl⟩
    · rw [List.drop_eq_nil_of_le (by rw [hl]; simp [TC.sizes])]; trivial
    · simp only [WFs]
  | c :: l, fuel, fs, off, cs, hl, hk, h => by
    cases fs with
    | nil => simp [fsOk] at hk
    | cons f fs =>
      simp only [fsOk, Bool.and_eq_true, decide_eq_true_eq] at hk
      obtain ⟨⟨⟨h1, h2⟩, h3⟩, h4⟩ := hk
      simp only [TC.sizes] at hl
      obtain ⟨y, hy, hyb⟩ := h 0 f rfl
      rw [h1, h2] at hy
      have r1 := read_tc c fuel f.type _ y h3 hy hyb
      have r2 := read_fs l fuel fs (off + c.size) cs (by omega) h4 fun i f hi => h (i + 1) f (by simpa using hi)
      intro m H hr
      obtain ⟨m1, n1, a1, e1, o1, v1, w1, l1⟩ := r1 m H hr
      obtain ⟨m2, n2, a2, e2, o2, v2, w2, l2⟩ := r2 m1 (H ++ n1) o1
      refine ⟨m2, n1 ++ n2, a1 ++ a2, e1.trans e2, by rwa [List.append_assoc] at o2, ?_, ?_, by simp [TC.sizes, l1, l2]⟩
      · have := VRels.append (v1.mono e2) v2
        have hs : (cs.drop off).take c.size ++ cs.drop (off + c.size) = cs.drop off := by
          rw [← List.drop_drop, List.take_append_drop]
        rwa [hs] at this
      · simp only [WFs]
        rw [← List.append_assoc]
        exact ⟨a1, a2, rfl, w1.append n2, w2⟩
end

/-! ### Arguments -/

def WFv (Pn : Nat → Prop) (H : Heap) (tc : TC) (v : AV) : Prop :=
  match tc with
  | .struct fs => ∃ cs, v = .agg cs ∧ WFs Pn H fs cs
  | tc => WF Pn H tc [v]

def WFvs (Pn : Nat → Prop) (H : Heap) : List TC → List AV → Prop
  | [], [] => True
  | tc :: tcs, v :: vs => WFv Pn H tc v ∧ WFvs Pn H tcs vs
  | _, _ => False

omit hB in
theorem WFv.append {H : Heap} {tc : TC} {v : AV} (h : WFv Pn H tc v) (news : Heap) : WFv Pn (H ++ news) tc v := by
  cases tc with
  | struct fs => obtain ⟨cs, h1, h2⟩ := h; exact ⟨cs, h1, h2.append news⟩
  | _ => exact WF.append h news

def tcsOk (P : Program) : List TypeId → List TC → Bool
  | [], [] => true
  | t :: ts, c :: cs => tcOk P t c && tcsOk P ts cs
  | _, _ => false

theorem read_arg {tc : TC} {t : TypeId} {v : Value} {x : DataW T} {ps : List MemPlace} {base : Nat} (hk : tcOk P t tc = true) (h : DataW.Trod enc P W 0 (fun _ => true) true t v x ps) (hok : Value.okWide P W .any base t v) (hb : B x) :
    ∀ (m : BMap) (H : Heap), RO m H W → ∃ m' news av, Ext m m' ∧ RO m' (H ++ news) W ∧ VRel m' av v ∧ WFv Pn (H ++ news) tc av := by
  intro m H hr
  obtain ⟨fuel, hf⟩ := h
  have key := read_tc hB tc fuel t _ _ hk hf hb
  cases tc with
  | struct l =>
    simp only [tcOk] at hk
    split at hk
    · rename_i fs hu
      obtain ⟨cs, rfl, _⟩ := okWide_struct hu hok
      obtain ⟨m', news, avs, h1, h2, h3, h4, h5⟩ := key m H hr
      exact ⟨m', news, .agg avs, h1, h2, ⟨cs.toList, rfl, h3⟩, avs, rfl, by simpa only [WF] using h4⟩
    · simp at hk
  | int k =>
    simp only [tcOk] at hk
    split at hk
    · rename_i k' hu
      obtain ⟨n, rfl⟩ := okWide_int hu hok
      obtain ⟨m', news, avs, h1, h2, h3, h4, h5⟩ := key m H hr
      obtain ⟨av, rfl⟩ : ∃ av, avs = [av] := List.length_eq_one_iff.1 h5
      exact ⟨m', news, av, h1, h2, h3.1, h4⟩
    · simp at hk
  | bool =>
    simp only [tcOk] at hk
    split at hk
    · rename_i hu
      obtain ⟨n, rfl⟩ := okWide_bool hu hok
      obtain ⟨m', news, avs, h1, h2, h3, h4, h5⟩ := key m H hr
      obtain ⟨av, rfl⟩ : ∃ av, avs = [av] := List.length_eq_one_iff.1 h5
      exact ⟨m', news, av, h1, h2, h3.1, h4⟩
    · simp at hk
  | str =>
    simp only [tcOk] at hk
    split at hk
    · rename_i hu
      obtain ⟨n, rfl⟩ := okWide_string hu hok
      obtain ⟨m', news, avs, h1, h2, h3, h4, h5⟩ := key m H hr
      obtain ⟨av, rfl⟩ : ∃ av, avs = [av] := List.length_eq_one_iff.1 h5
      exact ⟨m', news, av, h1, h2, h3.1, h4⟩
    · simp at hk
  | slice n e =>
    simp only [tcOk] at hk
    split at hk
    · rename_i et hu
      obtain ⟨a, len, cap, rfl⟩ := okWide_slice hu hok
      obtain ⟨m', news, avs, h1, h2, h3, h4, h5⟩ := key m H hr
      obtain ⟨av, rfl⟩ : ∃ av, avs = [av] := List.length_eq_one_iff.1 h5
      exact ⟨m', news, av, h1, h2, h3.1, h4⟩
    · simp at hk

omit hB in
theorem WFvs.append {H : Heap} : ∀ {tcs : List TC} {vs : List AV}, WFvs Pn H tcs vs → ∀ news, WFvs Pn (H ++ news) tcs vs
  | [], [], _, _ => trivial
  | _ :: _, _ :: _, ⟨h1, h2⟩, news => ⟨h1.append news, h2.append news⟩

theorem read_args {base : Nat} : ∀ {tcs : List TC} {ts : List TypeId} {vs : List Value} {ds : List (DataW T)} {ps : List MemPlace}, tcsOk P ts tcs = true → DataW.TrodAll enc P W 0 (fun _ => true) true ts vs ds ps →
    (∀ (j : Nat) t v, ts[j]? = some t → vs[j]? = some v → Value.okWide P W .any base t v) → (∀ d ∈ ds, B d) → ∀ (m : BMap) (H : Heap), RO m H W → ∃ m' news avs, Ext m m' ∧ RO m' (H ++ news) W ∧ VRels m' avs vs ∧ WFvs Pn (H ++ news) tcs avs
  | [], [], [], [], ps, _, _, _, _, m, H, hr => ⟨m, [], [], Ext.refl m, by simpa using hr, trivial, trivial⟩
  | tc :: tcs, t :: ts, v :: vs, d :: ds, ps, hk, h, hok, hbs, m, H, hr => by
    obtain ⟨p, q, h1, h2, _⟩ := h
    simp only [tcsOk, Bool.and_eq_true] at hk
    obtain ⟨m1, n1, a1, e1, o1, v1, w1⟩ := read_arg hB hk.1 h1 (hok 0 t v rfl rfl) (hbs d (by simp)) m H hr
    obtain ⟨m2, n2, a2, e2, o2, v2, w2⟩ := read_args hk.2 h2 (fun j t v ht hv => hok (j + 1) t v (by simpa using ht) (by simpa using hv)) (fun x hx => hbs x (by simp [hx])) m1 (H ++ n1) o1
    refine ⟨m2, n1 ++ n2, a1 :: a2, e1.trans e2, by rwa [List.append_assoc] at o2, ⟨v1.mono e2, v2⟩, ?_⟩
    rw [← List.append_assoc]
    exact ⟨w1.append n2, w2⟩
  | [], t :: ts, _, _, _, hk, _, _, _, _, _, _ => by simp [tcsOk] at hk
  | _ :: _, [], _, _, _, hk, _, _, _, _, _, _ => by simp [tcsOk] at hk
  | [], [], _ :: _, _, _, _, h, _, _, _, _, _ => h.elim
  | [], [], [], _ :: _, _, _, h, _, _, _, _, _ => h.elim
  | _ :: _, _ :: _, [], _, _, _, h, _, _, _, _, _ => h.elim
  | _ :: _, _ :: _, _ :: _, [], _, _, h, _, _, _, _, _ => h.elim

end

/-- WHAT A CALL WITH GIVEN ARGUMENTS DOES: where the abstract machine says 'true', the call returns true and turns nothing that was there. -/
theorem calls_true {P : Program} {pr : Nat → Option Prim} (hmix : P.follows .mixedOrders = true) (hpr : PrimsOk P pr) {f : FuncId} {tcs : List TC} (hcore : ∀ (H : Heap) (avs : List AV), WFvs Pn H tcs avs → ∃ n H', rcall (table P pr) n H.length f avs H = some (.bool true, H'))
    {T : Type} {enc : TypeId × Value → T} {B : DataW T → Prop} (hB : Bd Pn B) {W : World} {base : Nat} {ts : List TypeId} {args : Array Value} {ds : List (DataW T)} {ps : List MemPlace} (hbs : ∀ d ∈ ds, B d) (hk : tcsOk P ts tcs = true) (h : DataW.TrodAll enc P W 0 (fun _ => true) true ts args.toList ds ps)
    (hok : ∀ (j : Nat) t v, ts[j]? = some t → args.toList[j]? = some v → Value.okWide P W .any base t v) : Calls P f args W fun e W' => e = .returned (.bool true) ∧ Below W.heap.size W W' := by
  obtain ⟨m, news, avs, _, hr, hv, hw⟩ := read_args hB hk h hok hbs _ [] (RO.nil W)
  rw [List.nil_append] at hr hw
  obtain ⟨n, H', hrun⟩ := hcore news avs hw
  obtain ⟨_, hs⟩ := call_sound hmix hpr n _ _ _ _ _ _ hrun
  have := hs news.length W.heap.size m W args.toList (Nat.le_refl _) hr.sim hv fun b hb _ => by
    cases hm : m b with
    | none => rfl
    | some l => have := hr.dom b l hm; omega
  have ha : (⟨args.toList⟩ : Array Value) = args := by simp
  rw [ha] at this
  refine Calls.mono this fun e W' he => ?_
  obtain ⟨v', m', rfl, hv', hst⟩ := he
  cases hv'
  refine ⟨rfl, hst.os, hst.tape, hst.output, hst.size, fun k hk => hst.frame k hk ?_⟩
  rintro ⟨b, kb, l, h1, h2, _⟩
  have := act_lt h2; omega

end Go.RM

/-
  Operations that cannot harm are run whether they are wanted or not: a pass over the abstract machine's code, and that it keeps what the code computes.
-/
namespace Go.RM
set_option linter.unusedSimpArgs false
set_option linter.unusedVariables false

abbrev Gd := Option (Nat × Bool)

def gEq : Gd → Gd → Bool
  | none, none => true
  | some (i, b), some (j, c) => i == j && b == c
  | _, _ => false

theorem gEq_eq {a b : Gd} (h : gEq a b = true) : a = b := by
  cases a <;> cases b <;> simp_all [gEq]
  rename_i x y
  exact Prod.ext h.1 h.2

/-- Where g is met, so is g'. -/
def implG (gs : List Gd) : Nat → Gd → Gd → Bool
  | _, _, none => true
  | 0, g, g' => gEq g g'
  | n + 1, g, g' => gEq g g' || (match g with | some (k, _) => implG gs n (gs.getD k none) g' | none => false)

def locOk (gs : List Gd) (g : Gd) : RX → Bool
  | .loc j => decide (j < gs.length) && implG gs gs.length g (gs.getD j none)
  | _ => true

def locOkP (gs : List Gd) (g : Gd) (c : RX) (b : Bool) : RX → Bool
  | .loc j => decide (j < gs.length) && (implG gs gs.length g (gs.getD j none) || (match c with | .loc k => gEq (gs.getD j none) (some (k, b)) | _ => false))
  | _ => true

def opOk (gs : List Gd) (g : Gd) : ROp → Bool
  | .pick c a b => locOk gs g c && locOkP gs g c true a && locOkP gs g c false b
  | r => r.rxs.all (locOk gs g)

def tame : ROp → Bool
  | .move _ => true
  | .pick .. => true
  | .bin op .. => (match op with | .quo => false | .rem => false | .shl => false | .shr => false | _ => true)
  | .un .. => true
  | .field .. => true
  | .convInt .. => true
  | .len _ => true
  | .lenStr _ => true
  | .build .. => true
  | .extract .. => true
  | .min .. => true
  | .max .. => true
  | _ => false

def chooseU (gs : List Gd) (ch : List Bool) (o : ROper) : Bool :=
  o.guard.isSome && o.dst.isNone && tame o.op && (o.op.rxs.all fun | .loc j => (gs.getD j none).isNone || ch.getD j false | _ => true)

def checkU (gs : List Gd) (ch : List Bool) (o : ROper) (w : Bool) : Bool :=
  opOk gs o.guard o.op && (match o.guard with | some (k, _) => decide (k < gs.length) && (w || (gs.getD k none).isNone || !ch.getD k false) | none => true) && (!w || (o.dst.isNone && pureR o.op))

def ugOps : List ROper → List Gd → List Bool → Option (List ROper)
  | [], _, _ => some []
  | o :: l, gs, ch =>
    let w := chooseU gs ch o
    if checkU gs ch o w then (ugOps l (gs ++ [o.guard]) (ch ++ [w])).map ((if w then { o with guard := none } else o) :: ·) else none

def ugCode : RCode → RCode
  | .ops l => (match ugOps l [] [] with | some l' => .ops l' | none => .ops l)
  | .seq a b => .seq (ugCode a) (ugCode b)
  | .cond x a b => .cond x (ugCode a) (ugCode b)
  | .block id c => .block id (ugCode c)
  | .loop c => .loop (ugCode c)
  | c => c

def ugFunc (f : RFunc) : RFunc := { f with body := ugCode f.body }

/-- The table of the functions, with both passes done. -/
def tableU (P : Program) (pr : Nat → Option Prim) (f : Nat) : Option RFunc := (tableO P pr f).map ugFunc

structure UL (gs : List Gd) (ch : List Bool) (LA LB : List AV) : Prop where
  lg : gs.length = LA.length
  lc : ch.length = LA.length
  ll : LB.length = LA.length
  kept : ∀ j, j < LA.length → ch.getD j false = false → LA[j]? = LB[j]?
  same : ∀ j, j < LA.length → wantedB (gs.getD j none) LA = true → LA[j]? = LB[j]?
  skip : ∀ j, j < LA.length → wantedB (gs.getD j none) LA = false → LA[j]? = some .undef
  back : ∀ j k b, j < LA.length → gs.getD j none = some (k, b) → k < j

theorem wanted_some {k : Nat} {b : Bool} {L : List AV} (h : wantedB (some (k, b)) L = true) : L[k]? = some (.bool b) := by
  simp only [wantedB] at h
  split at h
  · rename_i b' hb; simp only [beq_iff_eq] at h; subst h; exact hb
  · simp at h

theorem impl_wanted {gs : List Gd} {ch : List Bool} {LA LB : List AV} (U : UL gs ch LA LB) : ∀ (n : Nat) {g g' : Gd}, implG gs n g g' = true → wantedB g LA = true → wantedB g' LA = true
  | _, _, none, _, _ => rfl
  | 0, g, some g', h, hw => by simp only [implG] at h; rw [← gEq_eq h]; exact hw
  | n + 1, g, some g', h, hw => by
    simp only [implG, Bool.or_eq_true] at h
    rcases h with h | h
    · rw [← gEq_eq h]; exact hw
    · cases g with
      | none => simp at h
      | some p =>
        obtain ⟨k, b⟩ := p
        simp only at h
        have hk := wanted_some hw
        have hkl : k < LA.length := by
          rcases Nat.lt_or_ge k LA.length with h' | h'
          · exact h'
          · rw [List.getElem?_eq_none h'] at hk; simp at hk
        refine impl_wanted U n h ?_
        cases hq : wantedB (gs.getD k none) LA with
        | true => rfl
        | false => have := U.skip k hkl hq; rw [hk] at this; simp [AV.undef] at this

theorem locOk_eq {gs : List Gd} {ch : List Bool} {LA LB E : List AV} (U : UL gs ch LA LB) {g : Gd} (hw : wantedB g LA = true) {rx : RX} (h : locOk gs g rx = true) : RX.ev LA E rx = RX.ev LB E rx := by
  cases rx with
  | var y => rfl
  | k v => rfl
  | loc j =>
    simp only [locOk, Bool.and_eq_true, decide_eq_true_eq] at h
    have := U.same j (by rw [← U.lg]; exact h.1) (impl_wanted U _ h.2 hw)
    simp only [RX.ev, List.getD_eq_getElem?_getD, this]

theorem locOkP_eq {gs : List Gd} {ch : List Bool} {LA LB E : List AV} (U : UL gs ch LA LB) {g : Gd} (hw : wantedB g LA = true) {c : RX} {b : Bool} (hc : RX.ev LA E c = .bool b) {rx : RX} (h : locOkP gs g c b rx = true) : RX.ev LA E rx = RX.ev LB E rx := by
  cases rx with
  | var y => rfl
  | k v => rfl
  | loc j =>
    simp only [locOkP, Bool.and_eq_true, Bool.or_eq_true, decide_eq_true_eq] at h
    have hj : j < LA.length := by rw [← U.lg]; exact h.1
    have hs : wantedB (gs.getD j none) LA = true := by
      rcases h.2 with h2 | h2
      · exact impl_wanted U _ h2 hw
      · cases c with
        | loc k =>
          simp only at h2
          rw [gEq_eq h2]
          simp only [RX.ev, List.getD_eq_getElem?_getD] at hc
          cases hk : LA[k]? with
          | none => rw [hk] at hc; simp [AV.undef] at hc
          | some v => rw [hk] at hc; simp only [Option.getD_some] at hc; subst hc; simp [wantedB, hk]
        | var _ => simp at h2
        | k _ => simp at h2
    have := U.same j hj hs
    simp only [RX.ev, List.getD_eq_getElem?_getD, this]

theorem rop_same {gs : List Gd} {ch : List Bool} {LA LB E : List AV} (U : UL gs ch LA LB) {g : Gd} (hw : wantedB g LA = true) {call : Nat → Nat → List AV → Heap → Option (AV × Heap)} {fl : Nat} {free : Bool} {H : Heap} {r : ROp} (h : opOk gs g r = true) :
    rop call fl free (RX.ev LA E) H r = rop call fl free (RX.ev LB E) H r := by
  have gen : r.rxs.all (locOk gs g) = true → rop call fl free (RX.ev LA E) H r = rop call fl free (RX.ev LB E) H r := fun h => rop_congr fun rx hrx => locOk_eq U hw (List.all_eq_true.1 h rx hrx)
  cases r <;> simp only [opOk] at h <;> try exact gen h
  rename_i c a b
  simp only [Bool.and_eq_true] at h
  obtain ⟨⟨h1, h2⟩, h3⟩ := h
  have hc := locOk_eq (E := E) U hw h1
  simp only [rop]
  rw [← hc]
  cases hv : RX.ev LA E c <;> try rfl
  rename_i t
  cases t with
  | true => simp only [pickV_true]; rw [locOkP_eq U hw hv h2]
  | false => simp only [pickV_false]; rw [locOkP_eq U hw hv h3]

theorem wanted_app {g : Gd} {L : List AV} {v : AV} (h : ∀ k b, g = some (k, b) → k < L.length) : wantedB g (L ++ [v]) = wantedB g L := by
  cases g with
  | none => rfl
  | some p =>
    obtain ⟨k, b⟩ := p
    simp only [wantedB, snoc_lt v (h k b rfl)]

theorem UL.next {gs : List Gd} {ch : List Bool} {LA LB : List AV} (U : UL gs ch LA LB) {g : Gd} (hg : ∀ k b, g = some (k, b) → k < LA.length) {w : Bool} {vA vB : AV} (h1 : w = false → vA = vB) (h2 : wantedB g LA = true → vA = vB) (h3 : wantedB g LA = false → vA = .undef) :
    UL (gs ++ [g]) (ch ++ [w]) (LA ++ [vA]) (LB ++ [vB]) := by
  have hgs : ∀ j, j < LA.length → (gs ++ [g]).getD j none = gs.getD j none := fun j hj => by simp only [List.getD_eq_getElem?_getD, snoc_lt g (show j < gs.length by rw [U.lg]; exact hj)]
  have hgl : (gs ++ [g]).getD LA.length none = g := by rw [← U.lg, List.getD_eq_getElem?_getD, snoc_end]; rfl
  have hch : ∀ j, j < LA.length → (ch ++ [w]).getD j false = ch.getD j false := fun j hj => by simp only [List.getD_eq_getElem?_getD, snoc_lt w (show j < ch.length by rw [U.lc]; exact hj)]
  have hcl : (ch ++ [w]).getD LA.length false = w := by rw [← U.lc, List.getD_eq_getElem?_getD, snoc_end]; rfl
  have hwj : ∀ j, j < LA.length → wantedB (gs.getD j none) (LA ++ [vA]) = wantedB (gs.getD j none) LA := fun j hj => wanted_app fun k b e => by have := U.back j k b hj e; omega
  have hwg : wantedB g (LA ++ [vA]) = wantedB g LA := wanted_app hg
  have hA : ∀ j, j < LA.length → (LA ++ [vA])[j]? = LA[j]? ∧ (LB ++ [vB])[j]? = LB[j]? := fun j hj => ⟨snoc_lt vA hj, snoc_lt vB (by rw [U.ll]; exact hj)⟩
  have hAl : (LA ++ [vA])[LA.length]? = some vA ∧ (LB ++ [vB])[LA.length]? = some vB := ⟨snoc_end _ _, by rw [← U.ll]; exact snoc_end _ _⟩
  have split : ∀ {j}, j < (LA ++ [vA]).length → j < LA.length ∨ j = LA.length := fun h => by simp at h; omega
  refine ⟨by simp [U.lg], by simp [U.lc], by simp [U.ll], fun j hj hc => ?_, fun j hj hc => ?_, fun j hj hc => ?_, fun j k b hj hc => ?_⟩
  · rcases split hj with h | rfl
    · rw [(hA j h).1, (hA j h).2]; rw [hch j h] at hc; exact U.kept j h hc
    · rw [hcl] at hc; rw [hAl.1, hAl.2, h1 hc]
  · rcases split hj with h | rfl
    · rw [hgs j h, hwj j h] at hc
      rw [(hA j h).1, (hA j h).2]; exact U.same j h hc
    · rw [hgl, hwg] at hc; rw [hAl.1, hAl.2, h2 hc]
  · rcases split hj with h | rfl
    · rw [hgs j h, hwj j h] at hc
      rw [(hA j h).1]; exact U.skip j h hc
    · rw [hgl, hwg] at hc; rw [hAl.1, h3 hc]
  · rcases split hj with h | rfl
    · rw [hgs j h] at hc; exact U.back j k b h hc
    · rw [hgl] at hc; exact hg k b hc

def CallSub (callB callA : Nat → Nat → List AV → Heap → Option (AV × Heap)) : Prop := ∀ fl g args H r, callB fl g args H = some r → callA fl g args H = some r

theorem rop_sub {callB callA : Nat → Nat → List AV → Heap → Option (AV × Heap)} (h : CallSub callB callA) {fl : Nat} {free : Bool} {X : RX → AV} {H : Heap} {r : ROp} {x : AV × Heap} (hr : rop callB fl free X H r = some x) : rop callA fl free X H r = some x := by
  cases r with
  | call f args =>
    simp only [rop] at hr ⊢
    split at hr
    · exact h _ _ _ _ _ hr
    · simp at hr
  | callS f args => exact h _ _ _ _ _ hr
  | _ => exact hr

theorem ug_rops {callB callA : Nat → Nat → List AV → Heap → Option (AV × Heap)} (hcall : CallSub callB callA) {fl : Nat} {E : List AV} : ∀ {l l' : List ROper} {gs : List Gd} {ch : List Bool} {LA LB LB' : List AV} {H H' : Heap}, ugOps l gs ch = some l' → UL gs ch LA LB →
    rops callB fl E l' LB H = some (LB', H') → ∃ LA', rops callA fl E l LA H = some (LA', H') ∧ LA'.take LA.length = LA ∧ LB'.take LB.length = LB ∧ LA.length ≤ LA'.length ∧ ∀ E0, putAll l (LA'.drop LA.length) E0 = putAll l' (LB'.drop LB.length) E0
  | [], l', gs, ch, LA, LB, LB', H, H', hu, U, hr => by
    simp only [ugOps, Option.some.injEq] at hu; subst hu
    simp only [rops, Option.some.injEq, Prod.mk.injEq] at hr
    obtain ⟨rfl, rfl⟩ := hr
    exact ⟨LA, rfl, by simp, by simp, Nat.le_refl _, fun E0 => by simp [putAll]⟩
  | o :: l, l', gs, ch, LA, LB, LB', H, H', hu, U, hr => by
    simp only [ugOps] at hu
    split at hu
    · rename_i hck
      simp only [Option.map_eq_some_iff] at hu
      obtain ⟨l1, h2, rfl⟩ := hu
      simp only [checkU, Bool.and_eq_true] at hck
      obtain ⟨⟨hop, hgd⟩, hpu⟩ := hck
      generalize hw : chooseU gs ch o = w at *
      have hg : ∀ k b, o.guard = some (k, b) → k < LA.length := fun k b e => by
        rw [e] at hgd
        simp only [Bool.and_eq_true, decide_eq_true_eq] at hgd
        rw [← U.lg]; exact hgd.1
      have key : ∀ (vA vB : AV) (H1 : Heap), UL (gs ++ [o.guard]) (ch ++ [w]) (LA ++ [vA]) (LB ++ [vB]) → rops callB fl E l1 (LB ++ [vB]) H1 = some (LB', H') → (∀ E0, putDst o.dst vA E0 = putDst o.dst vB E0) →
          ∃ LA', rops callA fl E l (LA ++ [vA]) H1 = some (LA', H') ∧ LA'.take LA.length = LA ∧ LB'.take LB.length = LB ∧ LA.length ≤ LA'.length ∧ ∀ E0, putAll (o :: l) (LA'.drop LA.length) E0 = putAll ((if w = true then { o with guard := none } else o) :: l1) (LB'.drop LB.length) E0 := fun vA vB H1 U1 hr1 hd => by
        obtain ⟨LA', r1, r2, r3, r4, r5⟩ := ug_rops hcall h2 U1 hr1
        have hdr : ∀ {L L' : List AV} {u : AV}, L'.take (L ++ [u]).length = L ++ [u] → L'.drop L.length = u :: L'.drop (L ++ [u]).length ∧ L'.take L.length = L := fun {L L' u} ht => by
          constructor
          · conv => lhs; rw [← List.take_append_drop (L ++ [u]).length L', ht]
            rw [List.append_assoc, List.drop_append_of_le_length (Nat.le_refl _)]
            simp
          · have := congrArg (List.take L.length) ht
            rw [List.take_take] at this
            simpa using this
        obtain ⟨a1, a2⟩ := hdr r2
        obtain ⟨b1, b2⟩ := hdr r3
        refine ⟨LA', r1, a2, b2, by simp at r4; omega, fun E0 => ?_⟩
        rw [a1, b1]
        have hdst : (if w = true then { o with guard := none } else o).dst = o.dst := by split <;> rfl
        simp only [putAll, hdst, hd]
        exact r5 _
      -- what the changed list does at its head
      cases hwv : w with
      | false =>
        rw [hwv] at hr key hgd
        simp only [Bool.false_eq_true, if_false] at hr key
        have hsame : wantedB o.guard LA = wantedB o.guard LB := by
          cases hgo : o.guard with
          | none => rfl
          | some p =>
            obtain ⟨k, b⟩ := p
            rw [hgo] at hgd
            simp only [Bool.false_or, Bool.and_eq_true, Bool.or_eq_true, decide_eq_true_eq, Option.isNone_iff_eq_none, Bool.not_eq_true'] at hgd
            have hk : k < LA.length := by rw [← U.lg]; exact hgd.1
            have : LA[k]? = LB[k]? := by
              rcases hgd.2 with h | h
              · exact U.same k hk (by rw [h]; rfl)
              · exact U.kept k hk h
            simp only [wantedB, this]
        simp only [rops] at hr ⊢
        rw [hsame]
        split at hr
        · rename_i hwB
          split at hr
          · rename_i v H1 hv
            have hwA : wantedB o.guard LA = true := by rw [hsame]; exact hwB
            have hvA := rop_sub hcall hv
            rw [← rop_same U hwA hop] at hvA
            obtain ⟨LA', r1, r2⟩ := key v v H1 (by exact U.next hg (fun _ => rfl) (fun _ => rfl) (fun h => by rw [hwA] at h; simp at h)) hr (fun _ => rfl)
            exact ⟨LA', by rw [if_pos hwB, hvA]; exact r1, r2⟩
          · simp at hr
        · rename_i hwB
          have hwA : wantedB o.guard LA = false := by rw [hsame]; simpa using hwB
          obtain ⟨LA', r1, r2⟩ := key .undef .undef H (by exact U.next hg (fun _ => rfl) (fun _ => rfl) (fun _ => rfl)) hr (fun _ => rfl)
          exact ⟨LA', by rw [if_neg hwB]; exact r1, r2⟩
      | true =>
        rw [hwv] at hr key hpu
        simp only [if_true, Bool.not_true, Bool.false_or, Bool.and_eq_true, Option.isNone_iff_eq_none] at hr key hpu
        have hd : ∀ vA vB E0, putDst o.dst vA E0 = putDst o.dst vB E0 := fun vA vB E0 => by rw [hpu.1]; rfl
        simp only [rops, wantedB, if_true] at hr
        split at hr
        · rename_i v H1 hv
          have hH := (rop_pure hpu.2 hv).1
          subst hH
          simp only [rops]
          cases hwA : wantedB o.guard LA with
          | true =>
            have hvA := rop_sub hcall hv
            rw [← rop_same U hwA hop] at hvA
            obtain ⟨LA', r1, r2⟩ := key v v H1 (by exact U.next hg (fun _ => rfl) (fun _ => rfl) (fun h => by rw [hwA] at h; simp at h)) hr (fun _ => rfl)
            exact ⟨LA', by rw [if_pos rfl, hvA]; exact r1, r2⟩
          | false =>
            obtain ⟨LA', r1, r2⟩ := key .undef v H1 (by exact U.next hg (fun h => by simp at h) (fun h => by rw [hwA] at h; simp at h) (fun _ => rfl)) hr (hd _ _)
            exact ⟨LA', by rw [if_neg (by simp)]; exact r1, r2⟩
        · simp at hr
    · simp at hu

def ExecSub (TB TA : Nat → Option RFunc) (n : Nat) : Prop := ∀ fl c E H r, rexec TB n fl (ugCode c) E H = some r → rexec TA n fl c E H = some r

theorem UL.nil : UL [] [] [] [] := ⟨rfl, rfl, rfl, fun j h => by simp at h, fun j h => by simp at h, fun j h => by simp at h, fun j k b h => by simp at h⟩

theorem ug_all {TA : Nat → Option RFunc} : ∀ n, ExecSub (fun f => (TA f).map ugFunc) TA n ∧ CallSub (rcall (fun f => (TA f).map ugFunc) n) (rcall TA n)
  | 0 => ⟨fun fl c E H r h => by simp [rexec] at h, fun fl g args H r h => by simp [rcall] at h⟩
  | n + 1 => by
    obtain ⟨h1, h2⟩ := ug_all (TA := TA) n
    constructor
    · intro fl c E H r h
      cases c <;> simp only [ugCode] at h
      case ops l =>
        split at h
        · rename_i l' hu
          rw [rexec] at h ⊢
          simp only [Option.map_eq_some_iff] at h ⊢
          obtain ⟨⟨LB, H1⟩, hr, rfl⟩ := h
          obtain ⟨LA', r1, _, _, _, r5⟩ := ug_rops h2 hu UL.nil hr
          have := r5 E
          simp only [List.length_nil, List.drop_zero] at this
          exact ⟨(LA', H1), r1, by simp [this]⟩
        · rw [rexec] at h ⊢
          simp only [Option.map_eq_some_iff] at h ⊢
          obtain ⟨x, hr, rfl⟩ := h
          exact ⟨x, rops_grow h2 hr, rfl⟩
      case seq a b =>
        rw [rexec] at h ⊢
        cases hh : rexec (fun f => (TA f).map ugFunc) n fl (ugCode a) E H with
        | none => rw [hh] at h; simp at h
        | some r1 =>
          rw [hh] at h; rw [h1 _ _ _ _ _ hh]
          obtain ⟨o, E1, H1⟩ := r1
          cases o <;> simp only at h ⊢ <;> first | exact h1 _ _ _ _ _ h | exact h
      case cond x a b =>
        rw [rexec] at h ⊢
        cases hx : x.ev [] E <;> simp only [hx] at h ⊢ <;> try (simp at h; done)
        rename_i bb
        cases bb <;> exact h1 _ _ _ _ _ h
      case block id a =>
        rw [rexec] at h ⊢
        cases hh : rexec (fun f => (TA f).map ugFunc) n fl (ugCode a) E H with
        | none => rw [hh] at h; simp at h
        | some r1 =>
          rw [hh] at h; rw [h1 _ _ _ _ _ hh]; exact h
      case loop a =>
        rw [rexec] at h ⊢
        cases hh : rexec (fun f => (TA f).map ugFunc) n fl (ugCode a) E H with
        | none => rw [hh] at h; simp at h
        | some r1 =>
          rw [hh] at h; rw [h1 _ _ _ _ _ hh]
          obtain ⟨o, E1, H1⟩ := r1
          cases o <;> simp only at h ⊢
          · exact h1 fl (.loop a) _ _ _ (by simpa only [ugCode] using h)
          · exact h
          · exact h
      all_goals (rw [rexec] at h ⊢; exact h)
    · intro fl g args H r h
      rw [rcall] at h ⊢
      cases hf : TA g with
      | none => simp [hf] at h
      | some rf =>
        simp only [hf, Option.map_some, ugFunc] at h ⊢
        cases hp : rf.prim with
        | some p => rw [hp] at h; exact h
        | none =>
        rw [hp] at h
        simp only at h ⊢
        split at h
        · rename_i hl
          rw [if_pos hl]
          cases hh : rexec (fun f => (TA f).map ugFunc) n fl (ugCode rf.body) (args ++ List.replicate (rf.nvars - rf.nargs) .undef) H with
          | none => rw [hh] at h; simp at h
          | some r1 => rw [hh] at h; rw [h1 _ _ _ _ _ hh]; exact h
        · simp at h

theorem ung_sound {P : Program} {pr : Nat → Option Prim} {n fl f : Nat} {args : List AV} {H : Heap} {v : AV} {H' : Heap} (hfl : fl ≤ H.length) (h : rcall (tableU P pr) n fl f args H = some (v, H')) : ∃ HA', rcall (table P pr) n fl f args H = some (v, HA') :=
  opt_sound hfl ((ug_all (TA := tableO P pr) n).2 _ _ _ _ _ h)

end Go.RM

/-
  The row of a law that answers true: its lifted form, from what the abstract machine computes.
-/
namespace Go.RM
open Go.ChangeShapes Go.WideShapes Go.ChangeAt Go.RowKit
set_option linter.unusedVariables false

theorem trodAll_below {T : Type} {enc : TypeId × Value → T} {P : Program} (hl : laidOutB P = true) {W W' : World} (hb : Below W.heap.size W W') : ∀ {ts : List TypeId} {vs : List Value} {ds : List (DataW T)} {ps : List MemPlace},
    (ts.all fun t => P.readableRec t && decide (t < P.types.size)) = true → DataW.TrodAll enc P W 0 (fun _ => true) true ts vs ds ps → (∀ x ∈ ps, x.block < W.heap.size) →
    DataW.TrodAll enc P W' 0 (fun b => decide (b < W.heap.size)) true ts vs ds ps
  | [], [], [], ps, _, h, _ => h
  | t :: ts, v :: vs, d :: ds, ps, hr, h, hlt => by
    obtain ⟨p, q, h1, h2, rfl⟩ := h
    simp only [List.all_cons, Bool.and_eq_true, decide_eq_true_eq] at hr
    exact ⟨p, q, Below.trod hl hr.1.1 hr.1.2 h1 hb (fun x hx => hlt x (by simp [hx])), trodAll_below hl hb hr.2 h2 (fun x hx => hlt x (by simp [hx])), rfl⟩
  | [], [], _ :: _, _, _, h, _ => h.elim
  | [], _ :: _, _, _, _, h, _ => h.elim
  | _ :: _, [], _, _, _, h, _ => h.elim
  | _ :: _, _ :: _, [], _, _, h, _ => h.elim

theorem Bd.all {T : Type} : Bd (T := T) (fun _ => True) (fun _ => True) := ⟨trivial, fun _ => trivial, fun _ _ => trivial, fun _ _ => trivial, fun _ => trivial⟩

theorem lifted {C : Checked} {os : Os} {f : FuncId} {fn : Func} {s : ChangeSpec} {T : Type} {enc : TypeId × Value → T}
    {pr : Nat → Option Prim} (hpr : PrimsOk C.prog pr) (own : ownKnob C.prog.godebug = none) (started : os.Started) (noInit : C.prog.inits.idxOf? f = none) (hfn : C.prog.funcs[f]? = some fn)
    (witness : ∃ (w : World) (tape : Tape) (i : Input), w.os = os ∧ (w.forCall tape i).Shaped C.prog ∧ i.vars = [] ∧ Input.okWide C.prog (w.forCall tape i) .any w.heap.size f i ∧
      s.pre6 enc C.prog fn [] false (w.forCall tape i).memory i.args ∧ ({} : Assume).holds C.prog (lone (Frame.enter C.prog f i.args .normal) [] (w.forCall tape i)))
    (hl : laidOutB C.prog = true) (hr : (fn.params.toList.all fun t => C.prog.readableRec t && decide (t < C.prog.types.size)) = true) {tb : TypeId} (hres : fn.resultTypes.toList = [tb]) (htb : C.prog.underlying tb = some .bool)
    (hvars : s.vars = []) (hs : ∀ ds : List (DataW T), ds.length = fn.params.toList.length → (s.fn T ds).results = [.lit (.bool true)] ∧ (s.fn T ds).args = ds ∧ (s.fn T ds).vars = [])
    {tcs : List TC} (hk : tcsOk C.prog fn.params.toList tcs = true) (hcore : ∀ (H : Heap) (avs : List AV), WFvs (fun _ => True) H tcs avs → ∃ n H', rcall (tableU C.prog pr) n H.length f avs H = some (.bool true, H')) :
    ReturnsInHanded {} C os f .any (s.pre6 enc C.prog fn [] false) (s.post enc C.prog fn false true false false) := by
  refine returnsInHanded_of_change (C := C) own started noInit hfn witness ?_
  intro W base args ds gs before hval hW _ _
  have hW' := hW
  obtain ⟨p, q, hA, hV, rfl, hfz, hnd⟩ := hW
  rw [hvars] at hV
  obtain ⟨rfl, rfl⟩ := trodVars_none hV
  have hlen := (Go.trodAll_length hA).2
  obtain ⟨s1, s2, s3⟩ := hs ds hlen
  have hcore' : ∀ (H : Heap) (avs : List AV), WFvs (fun _ => True) H tcs avs → ∃ n H', rcall (table C.prog pr) n H.length f avs H = some (.bool true, H') := fun H avs h => by
    obtain ⟨n, H', h'⟩ := hcore H avs h
    obtain ⟨HA', h2⟩ := ung_sound (Nat.le_refl _) h'
    exact ⟨n, HA', h2⟩
  have hcalls := calls_true C.mixed hpr hcore' (Bd.all (T := T)) (fun _ _ => trivial) hk hA (fun j t v ht hv => hval j t v (by simpa using ht) (by simpa using hv))
  refine Calls.mono hcalls fun e W' ⟨he, hb⟩ => ?_
  subst he
  have hsz : fn.resultTypes.size = 1 := by rw [← Array.length_toList, hres]; rfl
  refine ⟨_, rfl, ds, [], p ++ [], [], p, [], hW', ?_, ?_, ?_, hb.frame _, fun h => by cases h⟩
  · rw [List.append_nil, s1, hres, hsz]
    exact trodAll_mk1 (shut_bool htb _)
  · rw [List.append_nil, s2]
    exact trodAll_below hl hb hr hA fun x hx => hW'.lt x (by simp [hx])
  · rw [List.append_nil, s3, hvars]; rfl

end Go.RM

/-
  What a call is handed, as lists.
-/
namespace Go.RM
set_option linter.unusedVariables false

/-- What is handed in the shape tc stands for a value of T, of which I holds. -/
structure In {α : Type} (Pn : Nat → Prop) (tc : TC) (T : Ty α) (I : α → Prop) : Prop where
  go : ∀ {H : Heap} {c : List AV}, WF Pn H tc c → ∃ a, T.rel H c a ∧ I a

def in64 (n : Int) : Prop := -9223372036854775808 ≤ n ∧ n ≤ 9223372036854775807

variable {Pn : Nat → Prop}

theorem wf_in64 {n : Int} (h : (Lit.int .i64 n).wf = true) : in64 n := by
  simp [Lit.wf, IntKind.min, IntKind.max, IntKind.bits, IntKind.signed] at h
  unfold in64
  omega

theorem In.int : In Pn (.int .i64) tInt in64 := ⟨fun {H c} h => by
  simp only [WF] at h
  obtain ⟨n, rfl, hn⟩ := h
  exact ⟨n, rfl, wf_in64 hn⟩⟩

theorem In.bool : In Pn .bool tBool (fun _ => True) := ⟨fun {H c} h => by
  simp only [WF] at h
  obtain ⟨b, rfl⟩ := h
  exact ⟨b, rfl, trivial⟩⟩

theorem In.str : In Pn .str tStr (fun s => s.size ≤ maxLen ∧ Pn s.size) := ⟨fun {H c} h => by
  simp only [WF] at h
  obtain ⟨s, rfl, hs⟩ := h
  exact ⟨s, rfl, hs⟩⟩

theorem In.all2 {α : Type} {tc : TC} {T : Ty α} {I : α → Prop} (h : In Pn tc T I) {H : Heap} : ∀ {css : List (List AV)}, (∀ c ∈ css, WF Pn H tc c) → ∃ l, All2 (T.rel H) css l ∧ ∀ x ∈ l, I x
  | [], _ => ⟨[], trivial, fun x hx => by cases hx⟩
  | c :: css, hc => by
    obtain ⟨a, h1, h2⟩ := h.go (hc c (by simp))
    obtain ⟨l, h3, h4⟩ := In.all2 h (css := css) fun d hd => hc d (by simp [hd])
    refine ⟨a :: l, ⟨h1, h3⟩, fun x hx => ?_⟩
    rcases List.mem_cons.1 hx with rfl | hx
    · exact h2
    · exact h4 x hx

theorem In.arr {α : Type} {tc : TC} {T : Ty α} {I : α → Prop} (h : In Pn tc T I) : In Pn (.slice T.e tc) (tArr T) (fun l => (∀ x ∈ l, I x) ∧ l.length ≤ maxLen ∧ Pn l.length) := ⟨fun {H c} hw => by
  simp only [WF] at hw
  obtain ⟨v, css, rfl, hel, hlen, hP, hall⟩ := hw
  obtain ⟨l, h1, h2⟩ := h.all2 hall
  have hll := h1.len
  refine ⟨l, ⟨v, rfl, ⟨css, h1, ?_⟩⟩, h2, by omega, by rw [← hll]; exact hP⟩
  have hm : maxLen = 9223372036854775807 := rfl
  refine ⟨by omega, ?_⟩
  rcases hel.2 with ⟨rfl, rfl⟩ | ⟨b, off, lim, k, rfl, rfl, hb, he, hfit, hcells⟩
  · exact .inl ⟨rfl, by rw [← hll]; rfl, rfl⟩
  · obtain ⟨g1, g2, g3⟩ := blk_act hb
    rw [hll] at hfit hcells
    exact .inr ⟨b, off, none, k, by rw [hll], g1, he, hfit, by simp, hcells.symm⟩⟩

/-- An argument that is a slice. -/
theorem In.sliceV {α : Type} {tc : TC} {T : Ty α} {I : α → Prop} (h : In Pn tc T I) {H : Heap} {v : AV} (hw : WFv Pn H (.slice T.e tc) v) : ∃ l, Arr T H v l ∧ (∀ x ∈ l, I x) ∧ l.length ≤ maxLen ∧ Pn l.length := by
  obtain ⟨l, ⟨w, hc, h1⟩, h2⟩ := h.arr.go (H := H) (c := [v]) hw
  obtain rfl : v = w := by simpa using hc
  exact ⟨l, h1, h2⟩
theorem in_intV {H : Heap} {v : AV} (hw : WFv Pn H (.int .i64) v) : ∃ n, v = .int .i64 n ∧ in64 n := by
  obtain ⟨n, hn, h⟩ := In.int.go (Pn := Pn) (H := H) (c := [v]) hw
  exact ⟨n, by simpa [tInt] using hn, h⟩
end Go.RM

/-
  A law's core: from what it returns.
-/
namespace Go.RM

abbrev tru : AV → Heap → Prop := fun v _ => v = .bool true

theorem core_of {F : Nat → Option RFunc} {fl f : Nat} {args : List AV} {H : Heap} (h : Ret F fl f args H tru) : ∃ n H', rcall F n fl f args H = some (.bool true, H') := by
  obtain ⟨n, v, H', h1, rfl⟩ := h
  exact ⟨n, H', h1⟩

theorem wfvs_cons {Pn : Nat → Prop} {H : Heap} {tc : TC} {tcs : List TC} {avs : List AV} (h : WFvs Pn H (tc :: tcs) avs) : ∃ v r, avs = v :: r ∧ WFv Pn H tc v ∧ WFvs Pn H tcs r := by
  cases avs with
  | nil => exact h.elim
  | cons v r => exact ⟨v, r, rfl, h.1, h.2⟩
theorem wfvs_nil {Pn : Nat → Prop} {H : Heap} {avs : List AV} (h : WFvs Pn H [] avs) : avs = [] := by
  cases avs with
  | nil => rfl
  | cons v r => exact h.elim

end Go.RM

/-
  The end of a law's run.
-/
namespace Go.RM
theorem leafT {b : Bool} {H : Heap} (h : b = true) : tru (.bool b) H := by rw [h]
end Go.RM

/-
  speculate's laws: the example, what Decide, Next and Useful answer, chances that add up.
-/
namespace Go.RM
set_option linter.unusedSimpArgs false
set_option linter.unusedVariables false
namespace Sp
variable {F : Nat → Option RFunc}

theorem perm_lex {key : Nat → Int} : ∀ {C D : List Nat}, C.Perm D → C.Pairwise (Lex key) → D.Pairwise (Lex key) → C = D
  | [], D, h, _, _ => (List.nil_perm.1 h).symm
  | c :: C, [], h, _, _ => absurd h.length_eq (by simp)
  | c :: C, d :: D, h, h1, h2 => by
    obtain ⟨a1, a2⟩ := List.pairwise_cons.1 h1
    obtain ⟨b1, b2⟩ := List.pairwise_cons.1 h2
    have e : c = d := by
      rcases List.mem_cons.1 (h.mem_iff.1 (by simp : c ∈ c :: C)) with e | hc
      · exact e
      · rcases List.mem_cons.1 (h.mem_iff.2 (by simp : d ∈ d :: D)) with e | hd
        · exact e.symm
        · have x1 := b1 c hc
          have x2 := a1 d hd
          unfold Lex at x1 x2; omega
    subst e
    rw [perm_lex (h.cons_inv) a2 b2]

theorem ex_chance : chanceE [50, 90] ⟨1, [0]⟩ = (5000, (0, 0)) := by decide
theorem ex_plan {L : List Run} (h : PlanIs [100, 100] 2 L) : planF [100, 100] 2 = (0, 0) ∧ L = [⟨0, []⟩, ⟨1, [0]⟩] := by
  have e : planF [100, 100] 2 = (0, 0) := by decide
  unfold PlanIs at h
  rw [if_pos e] at h
  obtain ⟨C, h1, h2, rfl⟩ := h
  refine ⟨e, ?_⟩
  have hC : C = [0, 1] := perm_lex (key := keyA [100, 100]) (h1.trans (by
    have : List.range (allL [100, 100] [(100 : Int), 100].length).length = [0, 1] := by decide
    rw [this])) h2 (by
    refine List.pairwise_cons.2 ⟨fun y hy => ?_, List.pairwise_cons.2 ⟨fun y hy => by simp at hy, List.Pairwise.nil⟩⟩
    rw [List.mem_singleton.1 hy]
    right
    decide)
  subst hC
  decide
def exR : List TR := [⟨⟨0, []⟩, false⟩, ⟨⟨1, []⟩, true⟩]
theorem ex_dec : resE 2 exR = (0, 0) ∧ decA 2 exR = ([1], [0]) := by decide
theorem ex_next : nextE 2 (exR.take 1) = (⟨1, []⟩, (0, 0)) := by decide
theorem ex_use : usefulE 2 (exR.take 1) ⟨1, [0]⟩ = (false, (0, 0)) ∧ usefulE 2 (exR.take 1) ⟨1, []⟩ = (true, (0, 0)) := by decide

abbrev ExC (F : Nat → Option RFunc) (f : Nat) : Prop := ∀ {fl H Q}, fl ≤ H.length → (∀ H', Keep H.length H H' → Q (.bool true) H') → Ret F fl f [] H Q
theorem ex_c {f n1 n2 n3 n4 n5 n6 n7 : Nat} (hF : F f = some (rf_LspeculateExample n1 n2 n3 n4 n5 n6 n7)) (h1 : ChanceC F n1) (h2 : PlanC F n2) (h3 : DecC F n3) (h4 : NextC F n4) (h5 : UsefulC F n5) (h6 : SameC F n6) (h7 : FEqualIntsC F n7) : ExC F f := fun {fl H Q} hfl hq => by
  refine v_LspeculateExample hF ?_
  intro b0 H1 m1 b2 H3 m3
  have k1 := m1.keep
  have k3 := k1.call m3.keep
  refine h1 (l := [50, 90]) (r := ⟨1, [0]⟩) ((m1.ints [50, 90] rfl rfl).keep m3.keep) (m3.ints [0] rfl rfl) fun H7 k7' => ⟨_, _, _, rfl, ?_⟩
  have k7 := k3.call k7'
  intro H9 d9 b10 H11 m11
  have k11 := (k7.call d9.keep).call m11.keep
  refine h2 (l := [100, 100]) (m11.ints [100, 100] rfl rfl) (k11.fl hfl) fun r12 H15 L k15' hL hP => ⟨_, _, _, rfl, ?_⟩
  obtain ⟨hpf, rfl⟩ := ex_plan hP
  have k15 := k11.call k15'
  intro H17 d17 b18 H19 m19
  have k19 := (k15.call d17.keep).call m19.keep
  have hl : Arr tTR H19 (.slice b18 0 2 (some 2)) exR := NewB.arr (T := tTR) m19 [trC .empty ⟨⟨0, []⟩, false⟩, trC .empty ⟨⟨1, []⟩, true⟩] rfl ⟨⟨_, rfl, Arr.nil⟩, ⟨_, rfl, Arr.nil⟩, trivial⟩ rfl
  refine h3 hl (k19.fl hfl) fun a b H24 k24' oa ob => ⟨_, _, _, _, rfl, ?_⟩
  have k24 := k19.call k24'
  intro H26 d26
  have k26 := k24.call d26.keep
  have hl26 := (hl.keep k24').keep d26.keep
  obtain ⟨s27, u1, u2⟩ := hl26.upto (n := 1) (by decide)
  refine ⟨s27, u1, ?_⟩
  refine h4 u2 (k26.fl hfl) fun w H32 k32' ow => ⟨_, _, _, _, rfl, ?_⟩
  have k32 := k26.call k32'
  intro H34 d34 H35 d35
  have k35 := (k32.call d34.keep).call d35.keep
  obtain ⟨s37, u3, u4⟩ := (((hl26.keep k32').keep d34.keep).keep d35.keep).upto (n := 1) (by decide)
  refine ⟨ow.scal, s37, u3, ?_⟩
  intro b38 H39 m39
  have k39 := k35.call m39.keep
  refine h5 (r := ⟨1, [0]⟩) (u4.keep m39.keep) (m39.ints [0] rfl rfl) (k39.fl hfl) fun H43 k43' => ⟨_, _, _, rfl, ?_⟩
  have k43 := k39.call k43'
  intro H45 d45
  have k45 := k43.call d45.keep
  obtain ⟨s46, u5, u6⟩ := ((((((hl26.keep k32').keep d34.keep).keep d35.keep).keep m39.keep).keep k43').keep d45.keep).upto (n := 1) (by decide)
  refine ⟨s46, u5, ?_⟩
  refine h5 (r := ⟨1, []⟩) (w := .empty) u6 Arr.nil (k45.fl hfl) fun H50 k50' => ⟨_, _, _, rfl, ?_⟩
  have k50 := k45.call k50'
  intro H52 d52
  have k52 := k50.call d52.keep
  have kP : Keep H15.length H15 H52 := ((((((((((d17.keep.call m19.keep).call k24').call d26.keep).call k32').call d34.keep).call d35.keep).call m39.keep).call k43').call d45.keep).call k50').call d52.keep
  have kD : Keep H24.length H24 H52 := (((((((d26.keep.call k32').call d34.keep).call d35.keep).call m39.keep).call k43').call d45.keep).call k50').call d52.keep
  have kN : Keep H32.length H32 H52 := (((((d34.keep.call d35.keep).call m39.keep).call k43').call d45.keep).call k50').call d52.keep
  have hL52 := hL.keep kP
  obtain ⟨dr, da⟩ := ex_dec
  have oa52 := own_ints (oa.keep kD)
  have ob52 := own_ints (ob.keep kD)
  rw [da] at oa52 ob52
  have ow52 := own_ints (ow.keep kN)
  rw [ex_next] at ow52
  obtain ⟨us1, us2⟩ := ex_use
  refine ⟨_, hL52.len, ?_⟩
  rw [ex_chance, hpf, dr, ex_next, us1, us2]
  refine ⟨fun _ => ?_, fun hn => absurd ⟨⟨⟨⟨⟨⟨⟨rfl, rfl⟩, rfl⟩, rfl⟩, rfl⟩, rfl⟩, rfl⟩, rfl⟩ hn⟩
  obtain ⟨w1, g1, g2⟩ := run_get hL52 (i := 1) (by decide)
  refine ⟨_, _, g1, ?_⟩
  intro b57 H58 m58
  have k58 := k52.call m58.keep
  refine h6 (b := ⟨1, [0]⟩) (g2.keep m58.keep) (m58.ints [0] rfl rfl) fun H60 k60' => ⟨_, rfl, fun _ => ?_, fun hn => absurd (by decide) hn⟩
  have k60 := k58.call k60'
  intro b62 H63 m63
  have k63 := k60.call m63.keep
  have kk : Keep H52.length H52 H63 := (m58.keep.call k60').call m63.keep
  refine h7 (oa52.keep kk) (m63.ints [1] rfl rfl) ⟨_, rfl, fun _ => ?_, fun hn => absurd (decide_eq_true rfl) hn⟩
  intro b67 H68 m68
  have k68 := k63.call m68.keep
  refine h7 (ob52.keep (kk.call m68.keep)) (m68.ints [0] rfl rfl) ⟨_, rfl, fun _ => ?_, fun hn => absurd (decide_eq_true rfl) hn⟩
  refine h6 (a := ⟨1, []⟩) (b := ⟨1, []⟩) (w := .empty) (ow52.keep (kk.call m68.keep)) Arr.nil fun H73 k73 => ⟨_, rfl, ?_⟩
  exact hq H73 (k68.call k73)

theorem perc_zero {l : List Int} (h : (percE l).1 = 0) : percE l = (0, 0) := by
  have pg : ∀ (m : List Int) (i : Int), (percL i m).1 = 0 → percL i m = (0, 0) := by
    intro m
    induction m with
    | nil => intro i _; rfl
    | cons x m ih =>
      intro i hi
      rw [percL] at hi ⊢
      split
      · rename_i hx; rw [if_pos hx] at hi; simp at hi
      · rename_i hx; rw [if_neg hx] at hi; exact ih _ hi
  unfold percE at h ⊢
  split
  · rename_i h1; rw [if_pos h1] at h; simp at h
  · rename_i h1; rw [if_neg h1] at h; exact pg _ _ h

end Sp
end Go.RM

/-
  speculate's laws ResultsMatchSpec, ChancesAddUp, UselessRunsAreIgnored.
-/
namespace Go.RM
set_option linter.unusedSimpArgs false
set_option linter.unusedVariables false
namespace Sp
variable {F : Nat → Option RFunc}

/-! ### Chances add up -/

end Sp
end Go.RM

/-
  speculate: which run a plan prefers; the document's Before.
-/
namespace Go.RM
set_option linter.unusedSimpArgs false
set_option linter.unusedVariables false
namespace Sp
variable {F : Nat → Option RFunc}

def wsum (l : List Int) : Nat := (l.map fun x => 2 ^ x.toNat).sum
theorem wsum_app {a b : List Int} : wsum (a ++ b) = wsum a + wsum b := by unfold wsum; rw [List.map_append, List.sum_append]
theorem wsum_bits {w : Nat} : ∀ n, wsum (bitsL w n) = w % 2 ^ n
  | 0 => by simp [wsum, bitsL, Nat.mod_one]
  | n + 1 => by
    rw [bitsL_succ, Nat.mod_pow_succ, ← wsum_bits n]
    unfold bit
    have h2 : w / 2 ^ n % 2 < 2 := Nat.mod_lt _ (by decide)
    split
    · rename_i h
      rw [wsum_app, h]; simp [wsum]
    · rename_i h
      have : w / 2 ^ n % 2 = 0 := by omega
      rw [this]; simp

abbrev WeightC (F : Nat → Option RFunc) (f : Nat) : Prop := ∀ {fl H Q v} {w n : Nat}, Ints H v (bitsL w n) → n ≤ 20 → Q (i64 (w % 2 ^ n : Nat)) H → Ret F fl f [v] H Q
theorem weight_c {f : Nat} (hF : F f = some rf_FWeight) : WeightC F f := fun {fl H Q v w n} hv hn hq => by
  refine v_FWeight hF _ ?_
  have hall := wsum_bits (w := w) n
  have hlt : w % 2 ^ n < 2 ^ n := Nat.mod_lt _ (Nat.pow_pos (by decide))
  have h20 : 2 ^ n ≤ 2 ^ 20 := Nat.pow_le_pow_right (by decide) hn
  have hok := bitsL_ok (w := w) (n := n)
  have hsm := hv.small
  rw [← hall] at hq hlt
  generalize bitsL w n = l at *
  refine ⟨fun m i s => ∃ j : Nat, i = j ∧ j + m = l.length ∧ s = (wsum (l.take j) : Nat), l.length, ⟨0, rfl, by omega, by simp [wsum]⟩, ?_⟩
  rintro m _ _ ⟨j, rfl, hm, rfl⟩
  refine ⟨_, hv.len, fun hlt2 => ?_, fun hge => ?_⟩
  · have hj : j < l.length := by omega
    obtain ⟨b0, b1⟩ := hok.2 _ (List.getElem_mem hj)
    obtain ⟨c, hc⟩ := Int.eq_ofNat_of_zero_le b0
    have e1 := List.take_succ_eq_append_getElem hj
    have hle : wsum (l.take (j + 1)) ≤ wsum l := by
      have : wsum l = wsum (l.take (j + 1)) + wsum (l.drop (j + 1)) := by rw [← wsum_app, List.take_append_drop]
      omega
    have e2 : wsum (l.take (j + 1)) = wsum (l.take j) + 2 ^ c := by
      rw [e1, wsum_app, hc]; simp [wsum]
    refine ⟨_, hv.int hj, b0, m - 1, by omega, j + 1, wsucc hj hsm, by omega, ?_⟩
    rw [hc, shl1 (by omega), e2]
    rw [e2] at hle
    generalize 2 ^ c = z at hle
    generalize 2 ^ n = y at hlt h20
    rw [wrap64 (by omega) (by omega)]; omega
  · rw [List.take_of_length_le (by omega)]
    exact hq

/-- The order of the runs by change and weight. -/
def ltP (p q : Nat × Nat) : Prop := p.1 < q.1 ∨ (p.1 = q.1 ∧ p.2 < q.2)
instance (p q : Nat × Nat) : Decidable (ltP p q) := by unfold ltP; infer_instance
def befP (l : List Int) (p q : Nat × Nat) : Bool := decide (chE l (runOf p) > chE l (runOf q)) || (decide (chE l (runOf p) = chE l (runOf q)) && decide (ltP p q))
def okP (p : Nat × Nat) : Prop := p.1 ≤ 8 ∧ p.2 < 2 ^ p.1

abbrev BeforeC (F : Nat → Option RFunc) (f : Nat) : Prop := ∀ {fl H Q v a b} {l : List Int} {p q : Nat × Nat}, Ints H v l → Ints H a (runOf p).w → Ints H b (runOf q).w → (∀ p ∈ l, 0 ≤ p ∧ p ≤ 100) → l.length ≤ 8 → okP p → okP q →
  (∀ H', Keep H.length H H' → Q (.bool (befP l p q)) H') → Ret F fl f [v, .agg (runC a (runOf p)), .agg (runC b (runOf q))] H Q
theorem before_c {f n1 n2 : Nat} (hF : F f = some (rf_FBefore n1 n2)) (h1 : FChC F n1) (h2 : WeightC F n2) : BeforeC F f := fun {fl H Q v a b l p q} hv ha hb hp h8 op oq hq => by
  refine v_FBefore hF _ _ _ _ _ ?_
  intro H5 d5 H6 d6
  have k6 := d5.keep.call d6.keep
  refine h1 l.length rfl (hv.keep k6) (ha.keep k6) hp h8 fun H8 k8' => ⟨_, rfl, ?_⟩
  have k8 := k6.call k8'
  refine h1 l.length rfl (hv.keep k8) (hb.keep k8) hp h8 fun H11 k11' => ⟨_, rfl, ?_⟩
  have k11 := k8.call k11'
  unfold befP at hq
  refine ⟨fun hne => ?_, fun heq => ?_⟩
  · have := hq H11 k11
    rw [decide_eq_false hne, Bool.false_and, Bool.or_false] at this
    exact this
  · have heq : chE l (runOf p) = chE l (runOf q) := Classical.not_not.1 heq
    rw [decide_eq_true heq, Bool.true_and, decide_eq_false (by omega), Bool.false_or] at hq
    have hlast : ∀ p : Nat × Nat, (runOf p).last = (p.1 : Int) := fun _ => rfl
    refine ⟨fun hne => ?_, fun hee => ?_⟩
    · have := hq H11 k11
      have e : decide (ltP p q) = decide ((runOf p).last < (runOf q).last) := by
        rw [Bool.eq_iff_iff, decide_eq_true_eq, decide_eq_true_eq, hlast, hlast]
        rw [hlast, hlast] at hne
        unfold ltP; omega
      rw [e] at this; exact this
    · have hee : (p.1 : Int) = q.1 := Classical.not_not.1 hee
      refine h2 (w := p.2) (n := p.1) (ha.keep k11) (by have := op.1; omega) ⟨_, rfl, ?_⟩
      refine h2 (w := q.2) (n := q.1) (hb.keep k11) (by have := oq.1; omega) ⟨_, rfl, ?_⟩
      have := hq H11 k11
      rw [Nat.mod_eq_of_lt op.2, Nat.mod_eq_of_lt oq.2]
      have e : decide (ltP p q) = decide ((p.2 : Int) < (q.2 : Int)) := by
        rw [Bool.eq_iff_iff, decide_eq_true_eq, decide_eq_true_eq]
        unfold ltP; omega
      rw [e] at this; exact this

/-! ### The list of all runs -/

theorem items_mem {l : List Int} {last s : Nat} {p : Nat × Nat} (h : p ∈ itemsL l last s) : p.1 = last ∧ p.2 < s ∧ chE l (runOf p) > 0 := by
  unfold itemsL at h
  obtain ⟨h1, h2⟩ := List.mem_filter.1 h
  obtain ⟨w, hw, rfl⟩ := List.mem_map.1 h1
  exact ⟨rfl, List.mem_range.1 hw, of_decide_eq_true h2⟩
theorem all_mem {l : List Int} : ∀ {n : Nat} {p : Nat × Nat}, p ∈ allL l n → p.1 < n ∧ p.2 < 2 ^ p.1 ∧ chE l (runOf p) > 0
  | 0, p, h => by simp [allL] at h
  | n + 1, p, h => by
    rw [allL] at h
    rcases List.mem_append.1 h with h | h
    · obtain ⟨a, b, c⟩ := all_mem h
      exact ⟨by omega, b, c⟩
    · obtain ⟨a, b, c⟩ := items_mem h
      exact ⟨by omega, by rw [a]; exact b, c⟩
theorem all_lt {l : List Int} : ∀ n : Nat, (allL l n).Pairwise ltP
  | 0 => List.Pairwise.nil
  | n + 1 => by
    rw [allL]
    refine List.pairwise_append.2 ⟨all_lt n, ?_, fun p hp q hq => ?_⟩
    · unfold itemsL
      refine List.Pairwise.filter _ ?_
      rw [List.pairwise_map]
      exact List.pairwise_lt_range.imp fun h => .inr ⟨rfl, h⟩
    · have := (all_mem hp).1
      have := (items_mem hq).1
      exact .inl (by omega)

theorem runAt_lt {l : List Int} {x : Nat} (h : x < (allL l l.length).length) : runAt l x = runOf ((allL l l.length)[x]) := by unfold runAt; rw [getD_get h]
/-- A plan prefers what comes before. -/
theorem bef_lex {l : List Int} {x y : Nat} (hx : x < (allL l l.length).length) (hy : y < (allL l l.length).length) : befP l (allL l l.length)[x] (allL l l.length)[y] = true ↔ Lex (keyA l) x y := by
  have key : ltP (allL l l.length)[x] (allL l l.length)[y] ↔ x < y := by
    constructor
    · intro h
      rcases Nat.lt_or_ge x y with h' | h'
      · exact h'
      · rcases Nat.lt_or_ge y x with h2 | h2
        · have := List.pairwise_iff_getElem.1 (all_lt (l := l) l.length) y x hy hx h2
          unfold ltP at h this; omega
        · have : x = y := by omega
          subst this
          unfold ltP at h; omega
    · intro h
      exact List.pairwise_iff_getElem.1 (all_lt (l := l) l.length) x y hx hy h
  unfold befP Lex keyA
  rw [runAt_lt hx, runAt_lt hy]
  simp only [Bool.or_eq_true, Bool.and_eq_true, decide_eq_true_eq, key]
  omega

theorem sorted_count {key : Nat → Int} : ∀ {C : List Nat}, C.Pairwise (Lex key) → ∀ {i : Nat} (h : i < C.length) (P : Nat → Bool), (∀ x ∈ C, (P x = true ↔ Lex key x C[i])) → (C.filter P).length = i
  | [], _, i, h, _, _ => by simp at h
  | c :: C, hp, i, h, P, hP => by
    obtain ⟨p1, p2⟩ := List.pairwise_cons.1 hp
    cases i with
    | zero =>
      have : (c :: C).filter P = [] := List.filter_eq_nil_iff.2 fun x hx hx2 => by
        have := (hP x hx).1 hx2
        simp only [List.getElem_cons_zero] at this
        rcases List.mem_cons.1 hx with rfl | hx
        · unfold Lex at this; omega
        · have := p1 x hx
          unfold Lex at *; omega
      rw [this]; rfl
    | succ i =>
      have hi : i < C.length := by simpa using h
      have e : P c = true := (hP c (by simp)).2 (by simp only [List.getElem_cons_succ]; exact p1 _ (List.getElem_mem hi))
      rw [List.filter_cons, if_pos e, List.length_cons, sorted_count p2 hi P fun x hx => by have := hP x (by simp [hx]); simpa using this]

/-- How many runs come before the i-th of a plan. -/
theorem better_count {l : List Int} {C : List Nat} (hC : C.Perm (List.range (allL l l.length).length)) (hlex : C.Pairwise (Lex (keyA l))) {i : Nat} (h : i < C.length) : ((allL l l.length).filter fun p => befP l p ((allL l l.length).getD C[i] (0, 0))).length = i := by
  have hm : ∀ x ∈ C, x < (allL l l.length).length := fun x hx => List.mem_range.1 (hC.mem_iff.1 hx)
  have hci := hm _ (List.getElem_mem h)
  have e1 : allL l l.length = (List.range (allL l l.length).length).map fun x => (allL l l.length).getD x (0, 0) := by
    apply List.ext_getElem
    · simp
    · intro j h1 h2
      simp only [List.getElem_map, List.getElem_range]
      rw [getD_get h1]
  have e2 : ((allL l l.length).filter fun p => befP l p ((allL l l.length).getD C[i] (0, 0))).length = ((List.range (allL l l.length).length).filter fun x => befP l ((allL l l.length).getD x (0, 0)) ((allL l l.length).getD C[i] (0, 0))).length := by
    conv => lhs; rw [e1]
    rw [List.filter_map, List.length_map, ← e1]
    rfl
  rw [e2, ← (hC.filter _).length_eq]
  refine sorted_count hlex h _ fun x hx => ?_
  rw [getD_get (hm x hx), getD_get hci]
  exact bef_lex (hm x hx) hci

end Sp
end Go.RM

