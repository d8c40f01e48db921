import Derived.Test.YteplndpnfdmgkaaAuR
import Derived.Test.YteplndpnfdmgkaaRmOpt3
import Derived.Test.YteplndpnfdmgkaaAuM
import Derived.Test.YteplndpnfdmgkaaAuW
/-
  Rows of structs that are written, and slices that their owner may change in place.
-/
namespace Go.RM
set_option linter.unusedVariables false
set_option linter.unusedSimpArgs false

/-- v is a slice of block b. -/
def At (v : AV) (b : Nat) : Prop := ∃ off k lim, v = .slice b off k lim
theorem At.same {v : AV} {b b' : Nat} (h : At v b) (h' : At v b') : b = b' := by
  obtain ⟨_, _, _, rfl⟩ := h
  obtain ⟨_, _, _, e⟩ := h'
  cases e; rfl
theorem at_slice {b off k : Nat} {lim : Option Nat} : At (.slice b off k lim) b := ⟨_, _, _, rfl⟩
theorem at_empty {b : Nat} : ¬ At .empty b := fun ⟨_, _, _, h⟩ => by cases h

/-- A slice of blocks from n on that nobody else refers to: it may be appended to, and written. -/
structure Own (n : Nat) (H : Heap) (e : Nat) (v : AV) (m : Nat) (cs : List AV) : Prop where
  small : m ≤ 9223372036854775807
  out : (v = .empty ∧ m = 0 ∧ cs = []) ∨ ∃ b off lim k, v = .slice b off m lim ∧ n ≤ b ∧ H[b]? = some k ∧ k.live = true ∧ k.e = e ∧ off + m * e ≤ k.cells.length ∧ cs = (k.cells.drop off).take (m * e) ∧ (∃ q, k.cells.length = off + q * e) ∧ ∀ c, lim = some c → m ≤ c ∧ off + c * e ≤ k.cells.length

theorem Own.nil {n : Nat} {H : Heap} {e : Nat} : Own n H e .empty 0 [] := ⟨Nat.zero_le _, .inl ⟨rfl, rfl, rfl⟩⟩
theorem Own.sl {n e m : Nat} {H : Heap} {v : AV} {cs : List AV} (h : Own n H e v m cs) : Sl H e v m cs := by
  rcases h.out with g | ⟨b, off, lim, k, h1, h2, h3, h4, h5, h6, h7, _, h8⟩
  · exact ⟨h.small, .inl g⟩
  · refine ⟨h.small, .inr ⟨b, off, lim, k, h1, act_live h3 h4, h5, h6, ?_, h7⟩⟩
    cases lim with
    | none => simp
    | some c => exact (h8 c rfl).1
theorem Own.len {n e m : Nat} {H : Heap} {v : AV} {cs : List AV} (h : Own n H e v m cs) : lenA v = some m := h.sl.len
theorem Own.scal {n e m : Nat} {H : Heap} {v : AV} {cs : List AV} (h : Own n H e v m cs) : Scal v := h.sl.scal
/-- What is left alone stays. -/
theorem Own.frame {n e m : Nat} {H H' : Heap} {v : AV} {cs : List AV} (h : Own n H e v m cs) (hf : ∀ b, At v b → H'[b]? = H[b]?) : Own n H' e v m cs := by
  rcases h.out with g | ⟨b, off, lim, k, rfl, h2, h3, h4⟩
  · exact ⟨h.small, .inl g⟩
  · exact ⟨h.small, .inr ⟨b, off, lim, k, rfl, h2, by rw [hf b at_slice]; exact h3, h4⟩⟩
theorem Own.at_lt {n e m : Nat} {H : Heap} {v : AV} {cs : List AV} {b : Nat} (h : Own n H e v m cs) (ha : At v b) : n ≤ b ∧ b < H.length := by
  rcases h.out with ⟨rfl, _⟩ | ⟨b', off, lim, k, rfl, h2, h3, h4⟩
  · exact absurd ha at_empty
  · have := ha.same at_slice
    subst this
    exact ⟨h2, get_lt h3⟩
theorem Own.keep {n e m : Nat} {H H' : Heap} {v : AV} {cs : List AV} (h : Own n H e v m cs) (k : Keep H.length H H') : Own n H' e v m cs := h.frame fun b hb => k.get b (h.at_lt hb).2

/-- append(x, a), in place or not. -/
theorem Own.push {n e m : Nat} {H : Heap} {cs ys : List AV} {x y : AV} {fl : Nat} {bytes : Nat} (he : 0 < e) (h : Own n H e x m cs) (hy : Sl H e y 1 ys) (hn : n ≤ H.length) (hfl : fl ≤ n) (hs : ys.all AV.scalar = true) (hlen : m + 1 ≤ 2 ^ 30) (hb : bytes ≤ 4096) :
    ∃ v H', appA fl true e bytes H x y = some (v, H') ∧ Own n H' e v (m + 1) (cs ++ ys) ∧ H.length ≤ H'.length ∧ (∀ b, b < H.length → ¬ At x b → H'[b]? = H[b]?) ∧ (∀ b, At v b → At x b ∨ H.length ≤ b) := by
  obtain ⟨c1, c2⟩ := sl_cells hy
  have hysl : ys.length = e := by
    rcases hy.out with ⟨rfl, h0, rfl⟩ | ⟨b, off, lim, k, rfl, h2, h3, h4, h5, h6⟩
    · omega
    · rw [h6, List.length_take, List.length_drop]; omega
  have hstart : appA fl true e bytes H x y = rappend fl true e bytes H x 1 ys := by
    show (match sliceLen y with | some k => (sliceCells H e k y).bind fun xs => rappend fl true e bytes H x k xs | none => none) = _
    rw [c1]; simp only [c2, Option.bind_some]
  rw [hstart]
  have hsz : (m + 1 + (m + 1) / 4 + 192) * bytes ≤ 2 ^ 48 := by
    have h1 : m + 1 + (m + 1) / 4 + 192 ≤ 2 ^ 31 := by omega
    calc (m + 1 + (m + 1) / 4 + 192) * bytes ≤ 2 ^ 31 * 4096 := Nat.mul_le_mul h1 hb
      _ ≤ 2 ^ 48 := by decide
  have hsz2 : 1 * bytes ≤ 2 ^ 48 := by omega
  have hm1 : (m + 1) * e = m * e + e := by rw [Nat.add_mul, Nat.one_mul]
  unfold rappend
  rw [if_neg (by decide)]
  rcases h.out with ⟨rfl, rfl, rfl⟩ | ⟨b, off, lim, k, rfl, h2, h3, h4, h5, h6, h7, ⟨q, h9⟩, h8⟩
  · simp only
    rw [if_pos ⟨hsz2, by omega⟩]
    refine ⟨_, _, rfl, ⟨by omega, .inr ⟨H.length, 0, none, { cells := ys, e }, rfl, hn, snoc_end _ _, rfl, rfl, by simp [hysl], ?_, ⟨1, by simp [hysl]⟩, fun c hc => by cases hc⟩⟩, by simp, fun b hb _ => List.getElem?_append_left hb, fun b hb => .inr (Nat.le_of_eq (at_slice.same hb))⟩
    rw [List.drop_zero, List.nil_append, List.take_of_length_le (by simp [hysl])]
  · simp only [act_live h3 h4]
    rw [if_pos ⟨h5, h6, hsz, by omega⟩, if_pos h4]
    have hbl := get_lt h3
    have hcsl : cs.length = m * e := by rw [h7, List.length_take, List.length_drop]; omega
    -- in place
    have inplace : off + m * e + e ≤ k.cells.length → ∃ v H', ((rput fl H b (off + m * e) ys).map fun H' => (AV.slice b off (m + 1) lim, H')) = some (v, H') ∧ ((∀ c, lim = some c → m + 1 ≤ c) → Own n H' e v (m + 1) (cs ++ ys)) ∧ H.length ≤ H'.length ∧ (∀ b', b' < H.length → ¬ At (AV.slice b off m lim) b' → H'[b']? = H[b']?) ∧ (∀ b', At v b' → At (AV.slice b off m lim) b' ∨ H.length ≤ b') := fun hfit => by
      refine ⟨.slice b off (m + 1) lim, H.set b { k with cells := splice k.cells (off + m * e) ys, clean := false }, ?_, fun hlim => ⟨by omega, .inr ⟨b, off, lim, { k with cells := splice k.cells (off + m * e) ys, clean := false }, rfl, h2, ?_, h4, h5, ?_, ?_, ⟨q, ?_⟩, ?_⟩⟩, by simp, fun b' hb' hne => ?_, fun b' hb' => .inl ?_⟩
      · unfold rput
        simp only [Heap.blk, h3, h4, if_true]
        rw [if_pos ⟨by omega, by rw [hysl]; omega, hs⟩]; rfl
      · rw [List.getElem?_set_self hbl]
      · simp only [splice, List.length_append, List.length_take, List.length_drop, hysl]; omega
      · simp only [splice]
        rw [List.append_assoc, List.drop_append_of_le_length (by rw [List.length_take]; omega), ← List.append_assoc, List.take_append_of_le_length (by rw [List.length_append, List.length_drop, List.length_take, hysl]; omega)]
        rw [List.drop_take, show off + m * e - off = m * e by omega, ← h7, List.take_of_length_le (by rw [List.length_append, hcsl, hysl]; omega)]
      · simp only [splice, List.length_append, List.length_take, List.length_drop, hysl]; omega
      · intro c hc
        refine ⟨hlim c hc, ?_⟩
        have := (h8 c hc).2
        simp only [splice, List.length_append, List.length_take, List.length_drop, hysl]; omega
      · have : b' ≠ b := fun e => hne (by rw [e]; exact at_slice)
        rw [List.getElem?_set_ne (Ne.symm this)]
      · have := at_slice.same hb'
        subst this; exact at_slice
    cases lim with
    | none =>
      simp only
      by_cases hend : off + m * e = k.cells.length
      · rw [if_pos hend]
        unfold rappendTop
        rw [if_pos ⟨by omega, hs⟩]
        have hlen' : (k.cells.drop off).length = m * e := by rw [List.length_drop]; omega
        refine ⟨_, _, rfl, ⟨by omega, .inr ⟨H.length, 0, none, { cells := k.cells.drop off ++ ys, e }, rfl, hn, ?_, rfl, rfl, ?_, ?_, ⟨m + 1, ?_⟩, fun c hc => by cases hc⟩⟩, by simp, fun b' hb' hne => ?_, fun b' hb' => .inr (Nat.le_of_eq (at_slice.same hb'))⟩
        · rw [List.getElem?_append_right (by simp)]; simp
        · simp [hysl, hlen', Nat.add_mul]
        · rw [List.drop_zero, h7, List.take_of_length_le (l := k.cells.drop off) (by omega), List.take_of_length_le]; simp [hysl, hlen', Nat.add_mul]
        · simp [hysl, hlen', Nat.add_mul]
        · have : b' ≠ b := fun e => hne (by rw [e]; exact at_slice)
          rw [List.getElem?_append_left (by simpa using hb'), List.getElem?_set_ne (Ne.symm this)]
      · rw [if_neg hend, if_pos trivial]
        have hq : m * e < q * e := by omega
        have hq2 : m < q := Nat.lt_of_mul_lt_mul_right hq
        have hq3 : (m + 1) * e ≤ q * e := Nat.mul_le_mul_right e hq2
        obtain ⟨v, H', a1, a2, a3⟩ := inplace (by omega)
        exact ⟨v, H', a1, a2 (fun c hc => by cases hc), a3⟩
    | some c =>
      obtain ⟨g1, g2⟩ := h8 c rfl
      simp only
      by_cases hc : m + 1 ≤ c
      · rw [if_pos hc, if_pos trivial]
        have hq3 : (m + 1) * e ≤ c * e := Nat.mul_le_mul_right e hc
        obtain ⟨v, H', a1, a2, a3⟩ := inplace (by omega)
        exact ⟨v, H', a1, a2 (fun c' hc' => by cases hc'; exact hc), a3⟩
      · rw [if_neg hc]
        refine ⟨_, _, rfl, ⟨by omega, .inr ⟨H.length, 0, none, { cells := (k.cells.drop off).take (m * e) ++ ys, e }, rfl, hn, snoc_end _ _, rfl, rfl, ?_, ?_, ⟨m + 1, ?_⟩, fun c hc => by cases hc⟩⟩, by simp, fun b' hb' hne => List.getElem?_append_left hb', fun b' hb' => .inr (Nat.le_of_eq (at_slice.same hb'))⟩
        · rw [← h7, Nat.zero_add, List.length_append, hcsl, hysl]; omega
        · rw [List.drop_zero, ← h7, List.take_of_length_le]; rw [List.length_append, hcsl, hysl]; omega
        · rw [← h7, List.length_append, hcsl, hysl]; omega

/-! ### Rows of structs -/

/-- Block b is a row of structs of e cells. -/
structure MRow (H : Heap) (b e : Nat) (css : List (List AV)) : Prop where
  out : ∃ k, H[b]? = some k ∧ k.live = true ∧ k.e = e ∧ k.cells = css.flatten
  lens : ∀ c ∈ css, c.length = e

theorem MRow.lt {H : Heap} {b e : Nat} {css : List (List AV)} (h : MRow H b e css) : b < H.length := by obtain ⟨k, h1, _⟩ := h.out; exact get_lt h1
theorem MRow.frame {H H' : Heap} {b e : Nat} {css : List (List AV)} (h : MRow H b e css) (hf : H'[b]? = H[b]?) : MRow H' b e css := by
  obtain ⟨k, h1, h2⟩ := h.out
  exact ⟨⟨k, by rw [hf]; exact h1, h2⟩, h.lens⟩
theorem MRow.keep {H H' : Heap} {b e : Nat} {css : List (List AV)} (h : MRow H b e css) (k : Keep H.length H H') : MRow H' b e css := h.frame (k.get b h.lt)
theorem MRow.load {H : Heap} {b e : Nat} {css : List (List AV)} (h : MRow H b e css) {i : Nat} {c : List AV} (hc : css[i]? = some c) {o : Nat} {x : AV} (hx : c[o]? = some x) : rload H none b (i * e + o) = some x := by
  obtain ⟨k, h1, h2, h3, h4⟩ := h.out
  unfold rload
  rw [act_live h1 h2]
  simp only
  have ho : o < e := by
    rw [← h.lens c (List.mem_of_getElem? hc)]
    rcases Nat.lt_or_ge o c.length with h | h
    · exact h
    · rw [List.getElem?_eq_none h] at hx; cases hx
  rw [h4, flat_get h.lens hc ho, hx]
theorem MRow.ptr {b e n i : Nat} (h : i < n) : ptrA e (.slice b 0 n (some n)) (i : Int) = some (b, i * e) := by
  show (if (0 : Int) ≤ i ∧ (i : Int) < n then some (b, 0 + (i : Int).toNat * e) else none) = _
  rw [if_pos (by omega), Int.toNat_natCast, Nat.zero_add]

theorem splice_len {l cs : List AV} {o : Nat} (h : o + cs.length ≤ l.length) : (splice l o cs).length = l.length := by
  simp only [splice, List.length_append, List.length_take, List.length_drop]; omega

theorem flat_splice {e : Nat} : ∀ {css : List (List AV)} (_ : ∀ c ∈ css, c.length = e) {i : Nat} {c : List AV} (_ : css[i]? = some c) {o : Nat} {ws : List AV} (_ : o + ws.length ≤ e), splice css.flatten (i * e + o) ws = (css.set i (splice c o ws)).flatten
  | [], _, i, c, hc, _, _, _ => by simp at hc
  | d :: css, hl, 0, c, hc, o, ws, ho => by
    simp only [List.getElem?_cons_zero, Option.some.injEq] at hc
    subst hc
    have hd := hl d (by simp)
    simp only [List.set_cons_zero, List.flatten_cons, splice, Nat.zero_mul, Nat.zero_add]
    rw [List.take_append_of_le_length (by omega), List.drop_append_of_le_length (by omega)]
    simp only [List.append_assoc]
  | d :: css, hl, i + 1, c, hc, o, ws, ho => by
    have hd := hl d (by simp)
    have ih := flat_splice (css := css) (fun x hx => hl x (by simp [hx])) (i := i) (c := c) (by simpa using hc) ho
    rw [List.set_cons_succ, List.flatten_cons, List.flatten_cons, ← ih]
    simp only [splice]
    have e1 : (i + 1) * e + o = d.length + (i * e + o) := by rw [Nat.succ_mul, hd]; omega
    have e2 : (i + 1) * e + o + ws.length = d.length + (i * e + o + ws.length) := by omega
    rw [e2, e1, List.take_length_add_append, List.drop_length_add_append]
    simp only [List.append_assoc]

theorem MRow.put {fl : Nat} {H : Heap} {b e : Nat} {css : List (List AV)} (h : MRow H b e css) {i : Nat} {c : List AV} (hc : css[i]? = some c) {o n : Nat} {v : AV} (hn : v.cells.length = n) (hon : o + n ≤ e) (hs : v.cells.all AV.scalar = true) (hfl : fl ≤ b) : ∃ H', putA fl H b (i * e + o) n v = some H' ∧ MRow H' b e (css.set i (splice c o v.cells)) ∧ KeepX b H H' := by
  obtain ⟨k, h1, h2, h3, h4⟩ := h.out
  have hcl := h.lens c (List.mem_of_getElem? hc)
  have hi : i < css.length := by
    rcases Nat.lt_or_ge i css.length with h | h
    · exact h
    · rw [List.getElem?_eq_none h] at hc; cases hc
  have hflen := flat_len h.lens
  have hm : i * e + e ≤ css.length * e := by
    have : (i + 1) * e ≤ css.length * e := Nat.mul_le_mul_right e hi
    rw [Nat.succ_mul] at this; omega
  refine ⟨H.set b { k with cells := splice k.cells (i * e + o) v.cells, clean := false }, ?_, ⟨⟨{ k with cells := splice k.cells (i * e + o) v.cells, clean := false }, ?_, h2, h3, ?_⟩, ?_⟩, ⟨by simp, fun b' hne => by rw [List.getElem?_set_ne (Ne.symm hne)]⟩⟩
  · unfold putA rput
    rw [if_pos hn]
    simp only [Heap.blk, h1, h2, if_true]
    rw [if_pos ⟨hfl, by rw [h4, hflen]; omega, hs⟩]
  · rw [List.getElem?_set_self (get_lt h1)]
  · simp only [h4]; exact flat_splice h.lens hc (by omega)
  · intro x hx
    rcases List.mem_or_eq_of_mem_set hx with hx | rfl
    · exact h.lens x hx
    · rw [splice_len (by omega)]; exact hcl

/-! ### slices.Delete -/

theorem rput_ok {fl : Nat} {H : Heap} {b o : Nat} {k : Blk} {ws : List AV} (h : H[b]? = some k) (hl : k.live = true) (hfl : fl ≤ b) (hf : o + ws.length ≤ k.cells.length) (hs : ws.all AV.scalar = true) :
    rput fl H b o ws = some (H.set b { k with cells := splice k.cells o ws, clean := false }) := by
  unfold rput
  simp only [Heap.blk, h, hl, if_true]
  rw [if_pos ⟨hfl, hf, hs⟩]

/-! ### A block of cells -/

structure Box (H : Heap) (b : Nat) (cs : List AV) : Prop where
  out : ∃ k, H[b]? = some k ∧ k.live = true ∧ k.cells = cs
theorem Box.lt {H : Heap} {b : Nat} {cs : List AV} (h : Box H b cs) : b < H.length := by obtain ⟨k, h1, _⟩ := h; exact get_lt h1
theorem Box.frame {H H' : Heap} {b : Nat} {cs : List AV} (h : Box H b cs) (hf : H'[b]? = H[b]?) : Box H' b cs := by
  obtain ⟨k, h1, h2⟩ := h
  exact ⟨k, by rw [hf]; exact h1, h2⟩
theorem NewB.box {H H' : Heap} {e b : Nat} {cs : List AV} (h : NewB H e cs b H') : Box H' b cs := ⟨_, h.get, rfl, rfl⟩
theorem Box.load {H : Heap} {b : Nat} {cs : List AV} (h : Box H b cs) {o : Nat} {x : AV} (hx : cs[o]? = some x) : rload H none b o = some x := by
  obtain ⟨k, h1, h2, h3⟩ := h
  unfold rload
  rw [act_live h1 h2]; simp only [h3, hx]
theorem Box.put {fl : Nat} {H : Heap} {b : Nat} {cs : List AV} (h : Box H b cs) {o n : Nat} {v : AV} (hn : v.cells.length = n) (hon : o + n ≤ cs.length) (hs : v.cells.all AV.scalar = true) (hfl : fl ≤ b) : ∃ H', putA fl H b o n v = some H' ∧ Box H' b (splice cs o v.cells) ∧ KeepX b H H' := by
  obtain ⟨k, h1, h2, h3⟩ := h
  refine ⟨H.set b { k with cells := splice k.cells o v.cells, clean := false }, ?_, ⟨{ k with cells := splice k.cells o v.cells, clean := false }, ?_, h2, by simp only [h3]⟩, ⟨?_, fun b' hne => ?_⟩⟩
  · unfold putA
    rw [if_pos hn, rput_ok h1 h2 hfl (by rw [h3, hn]; exact hon) hs]
  · rw [List.getElem?_set_self (get_lt h1)]
  · simp
  · rw [List.getElem?_set_ne (Ne.symm hne)]

end Go.RM

/-
  Owned slices of structs: an element's cells read and written, one taken out, one put in.
-/
namespace Go.RM
set_option linter.unusedVariables false
set_option linter.unusedSimpArgs false

/-- v[1:] -/
theorem Own.tail {n m e : Nat} {H : Heap} {cs : List AV} {v : AV} (he : 0 < e) (h : Own n H e v (m + 1) cs) : ∃ w, rslice H e v (some (.int .i64 1)) none none = some w ∧ Own n H e w m (cs.drop e) ∧ (∀ b, At w b → At v b) ∧ ((∀ b off k lim, v = .slice b off k lim → lim = none) → ∀ b off k lim, w = .slice b off k lim → lim = none) := by
  rcases h.out with ⟨_, h0, _⟩ | ⟨b, off, lim, k, rfl, h2, h3, h4, h5, h6, h7, ⟨q, h9⟩, h8⟩
  · omega
  have hm1 : (m + 1) * e = m * e + e := Nat.succ_mul _ _
  have hem : (H[b]?).map (·.e) = some e := by rw [h3]; simp [h5]
  have hml : m + 1 ≤ lim.getD (m + 1) := by cases lim with | none => exact Nat.le_refl _ | some c => exact (h8 c rfl).1
  refine ⟨.slice b (off + 1 * e) (m + 1 - 1) (if lim.isSome then some (lim.getD (m + 1) - 1) else none), ?_, ⟨by have := h.small; omega, .inr ⟨b, off + 1 * e, _, k, rfl, h2, h3, h4, h5, by omega, ?_, ?_, ?_⟩⟩, fun b' hb' => by have := at_slice.same hb'; subst this; exact at_slice, fun hn b' off' k' lim' hw => ?_⟩
  · simp only [rslice, bound_int (n := 1), show boundOf none (m + 1) = some (m + 1) from rfl, show boundOf none (lim.getD (m + 1)) = some (lim.getD (m + 1)) from rfl]
    have : boundOf (some (.int .i64 1)) 0 = some 1 := bound_int (n := 1) 0
    rw [this]
    simp only
    rw [if_pos ⟨by omega, .inl hml, Nat.le_refl _, .inr hem⟩]
    simp
  · rw [h7, List.drop_take, List.drop_drop, Nat.one_mul]; congr 1; omega
  · have hq : (m + 1) * e ≤ q * e := by omega
    have hq2 := Nat.le_of_mul_le_mul_right hq he
    exact ⟨q - 1, by rw [Nat.sub_mul, Nat.one_mul]; omega⟩
  · intro c hc
    cases lim with
    | none => simp at hc
    | some c0 =>
      obtain ⟨x1, x2⟩ := h8 c0 rfl
      simp at hc
      subst hc
      refine ⟨by omega, ?_⟩
      rw [Nat.sub_mul, Nat.one_mul]
      have : e ≤ c0 * e := by
        have := Nat.mul_le_mul_right e (show 1 ≤ c0 by omega)
        rwa [Nat.one_mul] at this
      omega
  · have := hn _ _ _ _ rfl
    subst this
    cases hw; rfl

/-- A slice whose capacity is not known. -/
abbrev NoLim (v : AV) : Prop := ∀ b off k lim, v = .slice b off k lim → lim = none

/-- slices.Insert of one element. -/
theorem Own.insert {n m e bytes i : Nat} {H H1 : Heap} {cs ys : List AV} {v : AV} {fl vb : Nat} (he : 0 < e) (h : Own n H e v m cs) (hl : NoLim v) (hy : NewB H e ys vb H1) (hyl : ys.length = e) (hys : ys.all AV.scalar = true) (hs : cs.all AV.scalar = true)
    (hn : n ≤ H.length) (hi : i ≤ m) (hfl : fl ≤ n) (hlen : m ≤ 2 ^ 20) (hb : bytes ≤ 4096) :
    ∃ w H', rinsert fl e bytes H1 v (i : Int) (.slice vb 0 1 (some 1)) = some (w, H') ∧ Own n H' e w (m + 1) (cs.take (i * e) ++ ys ++ cs.drop (i * e)) ∧ NoLim w ∧ H1.length ≤ H'.length ∧ (∀ b, b < H1.length → ¬ At v b → H'[b]? = H1[b]?) ∧ (∀ b, At w b → At v b ∨ H1.length ≤ b) := by
  have h1 := h.keep hy.keep
  have hvb : vb = H.length := hy.b_eq
  have hlt := hy.lt
  have hgv := hy.get
  have hblkv : H1.blk vb = some { cells := ys, e := e } := by simp [Heap.blk, hgv]
  have hcell : sliceCells H1 e 1 (.slice vb 0 1 (some 1)) = some ys := by
    show (if (1 : Nat) = 0 then some [] else if (1 : Nat) < 1 then none else match H1.act vb with | some k => if 0 + 1 * e ≤ k.cells.length then some ((k.cells.drop 0).take (1 * e)) else none | none => none) = _
    rw [if_neg (by decide), if_neg (by decide), act_live hgv rfl]
    simp only [Nat.one_mul, Nat.zero_add, List.drop_zero]
    rw [if_pos (by omega), List.take_of_length_le (by omega)]
  have hbig : (m + 1 + (m + 1) / 4 + 192) * bytes ≤ 2 ^ 46 := by
    have h1 : m + 1 + (m + 1) / 4 + 192 ≤ 2 ^ 22 := by omega
    calc _ ≤ 2 ^ 22 * 4096 := Nat.mul_le_mul h1 hb
      _ ≤ 2 ^ 46 := by decide
  unfold rinsert
  simp only [hcell, hblkv]
  rw [if_pos ⟨by decide, he, by omega⟩]
  have q1 : (m + 1) * e = m * e + e := Nat.succ_mul _ _
  have q0 : i * e ≤ m * e := Nat.mul_le_mul_right _ hi
  rcases h1.out with ⟨rfl, rfl, rfl⟩ | ⟨b, off, lim, k, rfl, h2, h3, h4, h5, h6, h7, ⟨q, h9⟩, h8⟩
  · have hi0 : i = 0 := by omega
    subst hi0
    simp only
    rw [if_pos ⟨rfl, by omega, by decide⟩]
    refine ⟨_, _, rfl, ⟨by omega, .inr ⟨H1.length, 0, none, { cells := ys, e := e }, rfl, Nat.le_trans hn hy.keep.len, snoc_end _ _, rfl, rfl, by simp [hyl], ?_, ⟨1, by simp [hyl]⟩, fun c hc => by cases hc⟩⟩, fun b off k lim hw => by cases hw; rfl, by simp, fun b hb _ => List.getElem?_append_left hb, fun b hb => .inr (Nat.le_of_eq (at_slice.same hb))⟩
    simp only [List.take_nil, List.drop_nil, List.nil_append, List.append_nil, List.drop_zero, Nat.zero_add, Nat.one_mul]
    rw [← hyl, List.take_length]
  · have := hl _ _ _ _ rfl
    subst this
    have hbv : b ≠ vb := by
      have := (h.at_lt (at_slice (b := b))).2
      omega
    have hblk : H1.blk b = some k := by simp [Heap.blk, h3, h4]
    have hbl := get_lt h3
    have hts : ((k.cells.drop (off + i * e)).take ((m - i) * e)).all AV.scalar = true := by
      rw [List.all_eq_true] at hs ⊢
      intro x hx
      refine hs x ?_
      rw [h7]
      have e1 : (k.cells.drop (off + i * e)).take ((m - i) * e) = ((k.cells.drop off).take (m * e)).drop (i * e) := by rw [List.drop_take, List.drop_drop, Nat.sub_mul]
      rw [e1] at hx
      exact List.mem_of_mem_drop hx
    simp only [hblk, Int.toNat_natCast]
    rw [if_pos ⟨by omega, hbv, h5, by omega, by omega, h6, hys, hts, hbig, by omega⟩]
    have hcsl : cs.length = m * e := by rw [h7, List.length_take, List.length_drop]; omega
    by_cases hfull : off + m * e = k.cells.length
    · rw [if_pos hfull]
      have hcs : cs = k.cells.drop off := by rw [h7, List.take_of_length_le]; rw [List.length_drop]; omega
      have hcd : k.cells.drop (off + i * e) = cs.drop (i * e) := by rw [hcs, List.drop_drop]
      refine ⟨_, _, rfl, ⟨by have := h.small; omega, .inr ⟨H1.length, 0, none, { cells := (k.cells.drop off).take (i * e) ++ ys ++ k.cells.drop (off + i * e), e := e }, rfl, Nat.le_trans hn hy.keep.len, ?_, rfl, rfl, ?_, ?_, ⟨m + 1, ?_⟩, fun c hc => by cases hc⟩⟩, fun b off k lim hw => by cases hw; rfl, by simp, fun b' hb' hne => ?_, fun b hb => .inr (Nat.le_of_eq (at_slice.same hb))⟩
      · rw [List.getElem?_append_right (by simp)]; simp
      · rw [hcd, ← hcs]; simp only [List.length_append, List.length_take, List.length_drop]; omega
      · rw [hcd, ← hcs, List.drop_zero]
        exact (List.take_of_length_le (by simp only [List.length_append, List.length_take, List.length_drop]; omega)).symm
      · rw [hcd, ← hcs]; simp only [List.length_append, List.length_take, List.length_drop]; omega
      · have : b' ≠ b := fun e => hne (by rw [e]; exact at_slice)
        rw [List.getElem?_append_left (by simpa using hb'), List.getElem?_set_ne (Ne.symm this)]
    · rw [if_neg hfull]
      have hq : m * e < q * e := by omega
      have hq2 : m < q := Nat.lt_of_mul_lt_mul_right hq
      have hq3 : (m + 1) * e ≤ q * e := Nat.mul_le_mul_right e hq2
      have q2 : (i + 1) * e = i * e + e := Nat.succ_mul _ _
      have q3 : (m - i) * e = m * e - i * e := Nat.sub_mul _ _ _
      generalize hT : (k.cells.drop (off + i * e)).take ((m - i) * e) = T at hts
      have hTl : T.length = m * e - i * e := by rw [← hT, List.length_take, List.length_drop]; omega
      have hq9 : (m + 1) * e ≤ k.cells.length - off := by omega
      have hf1 : off + (i + 1) * e + T.length ≤ k.cells.length := by rw [hTl, q2]; omega
      have p1 := rput_ok (fl := fl) (o := off + (i + 1) * e) (ws := T) h3 h4 (by omega) hf1 hts
      have hl1 : (splice k.cells (off + (i + 1) * e) T).length = k.cells.length := splice_len (by omega)
      have p2 := rput_ok (H := H1.set b { k with cells := splice k.cells (off + (i + 1) * e) T, clean := false }) (fl := fl) (b := b) (o := off + i * e) (k := { k with cells := splice k.cells (off + (i + 1) * e) T, clean := false }) (ws := ys) (List.getElem?_set_self hbl) h4 (by omega) (by show _ ≤ (splice k.cells (off + (i + 1) * e) T).length; omega) hys
      rw [p1]
      simp only [Option.bind_some]
      rw [p2]
      simp only [Option.map_some, List.set_set]
      have hfin : (splice (splice k.cells (off + (i + 1) * e) T) (off + i * e) ys).length = k.cells.length := by rw [splice_len (by omega)]; exact hl1
      refine ⟨_, _, rfl, ⟨by have := h.small; omega, .inr ⟨b, off, none, _, rfl, h2, List.getElem?_set_self hbl, h4, h5, ?_, ?_, ⟨q, ?_⟩, fun c hc => by cases hc⟩⟩, fun b off k lim hw => by cases hw; rfl, by simp, fun b' hb' hne => ?_, fun b' hb' => .inl ?_⟩
      · show _ ≤ (splice (splice k.cells (off + (i + 1) * e) T) (off + i * e) ys).length
        omega
      · show _ = ((splice (splice k.cells (off + (i + 1) * e) T) (off + i * e) ys).drop off).take ((m + 1) * e)
        have hTd : cs.drop (i * e) = T := by rw [← hT, h7, List.drop_take, List.drop_drop, Nat.sub_mul]
        rw [hTd]
        apply List.ext_getElem?
        intro j
        by_cases hj : j < (m + 1) * e
        · rw [List.getElem?_take_of_lt hj, List.getElem?_drop, splice_get (by omega), splice_get (by omega)]
          by_cases h1 : j < i * e
          · rw [if_neg (by omega), if_neg (by omega), List.append_assoc, List.getElem?_append_left (by rw [List.length_take]; omega), List.getElem?_take_of_lt h1, h7, List.getElem?_take_of_lt (by omega), List.getElem?_drop]
          · by_cases h2 : j < i * e + e
            · rw [if_pos (by omega), List.getElem?_append_left (by rw [List.length_append, List.length_take]; omega), List.getElem?_append_right (by rw [List.length_take]; omega)]
              congr 1; rw [List.length_take]; omega
            · rw [if_neg (by omega), if_pos (by omega), List.getElem?_append_right (by rw [List.length_append, List.length_take]; omega)]
              congr 1; rw [List.length_append, List.length_take]; omega
        · rw [List.getElem?_eq_none (by simp only [List.length_append, List.length_take]; omega), List.getElem?_eq_none (by rw [List.length_take]; omega)]
      · show (splice (splice k.cells (off + (i + 1) * e) T) (off + i * e) ys).length = _
        omega
      · have : b' ≠ b := fun e => hne (by rw [e]; exact at_slice)
        rw [List.getElem?_set_ne (Ne.symm this)]
      · have := at_slice.same hb'
        subst this; exact at_slice

end Go.RM
namespace Go.RM
set_option linter.unusedVariables false

/-- An element's cells, read and written. -/
theorem Own.elem {n m e : Nat} {H : Heap} {cs : List AV} {v : AV} (h : Own n H e v m cs) {i : Nat} (hi : i < m) :
    ∃ b o, ptrA e v (i : Int) = some (b, o) ∧ At v b ∧ n ≤ b ∧
      (∀ o' x, o' < e → cs[i * e + o']? = some x → rload H none b (o + o') = some x) ∧
      (∀ fl o' k w, fl ≤ n → w.cells.length = k → o' + k ≤ e → w.cells.all AV.scalar = true → ∃ H', putA fl H b (o + o') k w = some H' ∧ Own n H' e v m (splice cs (i * e + o') w.cells) ∧ KeepX b H H') := by
  rcases h.out with ⟨_, h0, _⟩ | ⟨b, off, lim, k, rfl, h2, h3, h4, h5, h6, h7, ⟨q, h9⟩, h8⟩
  · omega
  have m1 : (i + 1) * e = i * e + e := Nat.succ_mul _ _
  have m3 : (i + 1) * e ≤ m * e := Nat.mul_le_mul_right _ hi
  refine ⟨b, off + i * e, ?_, at_slice, h2, fun o' x ho hx => ?_, fun fl o' kk w hfl hk hok hs => ?_⟩
  · show (if (0 : Int) ≤ i ∧ (i : Int) < m then some (b, off + (i : Int).toNat * e) else none) = _
    rw [if_pos (by omega), Int.toNat_natCast]
  · unfold rload
    rw [act_live h3 h4]
    simp only
    rw [h7, List.getElem?_take_of_lt (by omega), List.getElem?_drop] at hx
    rw [← hx, Nat.add_assoc]
  · have hput := rput_ok (fl := fl) (o := off + i * e + o') (ws := w.cells) h3 h4 (by omega) (by omega) hs
    refine ⟨H.set b { k with cells := splice k.cells (off + i * e + o') w.cells, clean := false }, by unfold putA; rw [if_pos hk, hput], ⟨h.small, .inr ⟨b, off, lim, { k with cells := splice k.cells (off + i * e + o') w.cells, clean := false }, rfl, h2, List.getElem?_set_self (get_lt h3), h4, h5, ?_, ?_, ⟨q, ?_⟩, fun c hc => ?_⟩⟩, ⟨by simp, fun b' hne => by rw [List.getElem?_set_ne (Ne.symm hne)]⟩⟩
    · show _ ≤ (splice k.cells (off + i * e + o') w.cells).length
      rw [splice_len (by omega)]; exact h6
    · show _ = ((splice k.cells (off + i * e + o') w.cells).drop off).take (m * e)
      have hcl : cs.length = m * e := by rw [h7, List.length_take, List.length_drop]; omega
      apply List.ext_getElem?
      intro j
      by_cases hj : j < m * e
      · rw [List.getElem?_take_of_lt hj, List.getElem?_drop, splice_get (by omega), splice_get (by omega)]
        by_cases h1 : i * e + o' ≤ j ∧ j < i * e + o' + w.cells.length
        · rw [if_pos h1, if_pos (by omega)]; congr 1; omega
        · rw [if_neg h1, if_neg (by omega), h7, List.getElem?_take_of_lt hj, List.getElem?_drop]
      · rw [List.getElem?_eq_none (by rw [splice_len (by omega)]; omega), List.getElem?_eq_none (by rw [List.length_take]; omega)]
    · show (splice k.cells (off + i * e + o') w.cells).length = _
      rw [splice_len (by omega)]; exact h9
    · obtain ⟨x1, x2⟩ := h8 c hc
      refine ⟨x1, ?_⟩
      show _ ≤ (splice k.cells (off + i * e + o') w.cells).length
      rw [splice_len (by omega)]; exact x2

/-- The same of a list of structs. -/
theorem Own.elemR {n m e : Nat} {H : Heap} {css : List (List AV)} {v : AV} (h : Own n H e v m css.flatten) (hl : ∀ c ∈ css, c.length = e) (hm : css.length = m) {i : Nat} (hi : i < css.length) :
    ∃ b o, ptrA e v (i : Int) = some (b, o) ∧ At v b ∧ n ≤ b ∧
      (∀ o' x, (css[i])[o']? = some x → rload H none b (o + o') = some x) ∧
      (∀ fl o' k w, fl ≤ n → w.cells.length = k → o' + k ≤ e → w.cells.all AV.scalar = true → ∃ H', putA fl H b (o + o') k w = some H' ∧ Own n H' e v m (css.set i (splice css[i] o' w.cells)).flatten ∧ KeepX b H H') := by
  obtain ⟨b, o, h1, h2, h3, h4, h5⟩ := h.elem (i := i) (by omega)
  have hc : css[i]? = some css[i] := List.getElem?_eq_getElem hi
  refine ⟨b, o, h1, h2, h3, fun o' x hx => ?_, fun fl o' k w hfl hk hok hs => ?_⟩
  · have ho : o' < e := by
      rw [← hl css[i] (List.getElem_mem hi)]
      rcases Nat.lt_or_ge o' css[i].length with h | h
      · exact h
      · rw [List.getElem?_eq_none h] at hx; cases hx
    exact h4 o' x ho (by rw [flat_get hl hc ho]; exact hx)
  · obtain ⟨H', a1, a2, a3⟩ := h5 fl o' k w hfl hk hok hs
    refine ⟨H', a1, ?_, a3⟩
    rw [flat_splice hl hc (by omega)] at a2
    exact a2

end Go.RM

/-
  Numbers of 64 bits: a product's two halves, and what is left of a division by 2^61 - 1.
-/
namespace Go.RM
set_option linter.unusedSimpArgs false
set_option linter.unusedVariables false
namespace Au

abbrev M : Int := 2305843009213693951

theorem u64 (x : Int) : IntKind.wrap .u64 x = x % 18446744073709551616 := by
  unfold IntKind.wrap
  simp [IntKind.bits, IntKind.signed]
theorem u64_in {x : Int} (h : 0 ≤ x) (h2 : x < 18446744073709551616) : IntKind.wrap .u64 x = x := by rw [u64]; omega
theorem u8_in {x : Int} (h : 0 ≤ x) (h2 : x < 256) : IntKind.wrap .u8 x = x := by
  unfold IntKind.wrap
  simp [IntKind.bits, IntKind.signed]; omega

theorem shr32 (x : Int) : Int.fdiv x (2 ^ (Min.min (Int.toNat 32) (IntKind.bits .u64))) = x / 4294967296 := by
  show Int.fdiv x 4294967296 = _
  rw [Int.fdiv_eq_ediv_of_nonneg _ (by omega)]

theorem and32 {x : Int} (h : 0 ≤ x) (h2 : x < 18446744073709551616) : IntKind.wrap .u64 (((BitVec.ofInt (IntKind.bits .u64) x &&& BitVec.ofInt (IntKind.bits .u64) 4294967295).toNat : Int)) = x % 4294967296 := by
  obtain ⟨n, rfl⟩ := Int.eq_ofNat_of_zero_le h
  have e1 : (BitVec.ofInt (IntKind.bits .u64) (n : Int)).toNat = n := by
    show (BitVec.ofInt 64 (n : Int)).toNat = n
    rw [BitVec.toNat_ofInt]; omega
  have e2 : (BitVec.ofInt (IntKind.bits .u64) 4294967295).toNat = 2 ^ 32 - 1 := by decide
  rw [BitVec.toNat_and, e1, e2, Nat.and_two_pow_sub_one_eq_mod, u64_in (by omega) (by omega)]
  omega

theorem or3 {a b : Int} (ha : 0 ≤ a) (ha2 : a < 2305843009213693952) (hb : 0 ≤ b) (hb2 : b < 8) : IntKind.wrap .u64 (((BitVec.ofInt (IntKind.bits .u64) (a * 8) ||| BitVec.ofInt (IntKind.bits .u64) b).toNat : Int)) = a * 8 + b := by
  obtain ⟨n, rfl⟩ := Int.eq_ofNat_of_zero_le ha
  obtain ⟨m, rfl⟩ := Int.eq_ofNat_of_zero_le hb
  have e1 : (BitVec.ofInt (IntKind.bits .u64) ((n : Int) * 8)).toNat = 2 ^ 3 * n := by
    show (BitVec.ofInt 64 ((n : Int) * 8)).toNat = _
    rw [BitVec.toNat_ofInt]; omega
  have e2 : (BitVec.ofInt (IntKind.bits .u64) (m : Int)).toNat = m := by
    show (BitVec.ofInt 64 (m : Int)).toNat = m
    rw [BitVec.toNat_ofInt]; omega
  rw [BitVec.toNat_or, e1, e2, ← Nat.two_pow_add_eq_or_of_lt (by omega), u64_in (by omega) (by omega)]
  omega

/-- The upper half of a product. -/
theorem mul_hi {x0 x1 y0 y1 : Int} (a : 0 ≤ x0) (a' : x0 < 4294967296) (b : 0 ≤ x1) (b' : x1 < 4294967296) (c : 0 ≤ y0) (c' : y0 < 4294967296) (d : 0 ≤ y1) (d' : y1 < 4294967296) :
    let t := x1 * y0 + x0 * y0 / 4294967296
    let w := t % 4294967296 + x0 * y1
    (0 ≤ x0 * y0 ∧ x0 * y0 < 18446744073709551616) ∧ (0 ≤ x1 * y0 ∧ x1 * y0 < 18446744073709551616) ∧ (0 ≤ x0 * y1 ∧ x0 * y1 < 18446744073709551616) ∧ (0 ≤ x1 * y1 ∧ x1 * y1 < 18446744073709551616) ∧ (0 ≤ t ∧ t < 18446744073709551616) ∧ (0 ≤ w ∧ w < 18446744073709551616) ∧
    0 ≤ x1 * y1 + t / 4294967296 + w / 4294967296 ∧ x1 * y1 + t / 4294967296 + w / 4294967296 < 18446744073709551616 ∧
    x1 * y1 + t / 4294967296 + w / 4294967296 = ((x1 * 4294967296 + x0) * (y1 * 4294967296 + y0)) / 18446744073709551616 := by
  have bound : ∀ u v : Int, 0 ≤ u → u < 4294967296 → 0 ≤ v → v < 4294967296 → 0 ≤ u * v ∧ u * v ≤ 18446744065119617025 := fun u v h1 h2 h3 h4 => by
    refine ⟨Int.mul_nonneg h1 h3, ?_⟩
    have := Int.mul_le_mul (show u ≤ 4294967295 by omega) (show v ≤ 4294967295 by omega) h3 (by omega)
    omega
  have p1 := bound x0 y0 a a' c c'
  have p2 := bound x1 y0 b b' c c'
  have p3 := bound x0 y1 a a' d d'
  have p4 := bound x1 y1 b b' d d'
  have e : (x1 * 4294967296 + x0) * (y1 * 4294967296 + y0) = x1 * y1 * 18446744073709551616 + (x1 * y0 + x0 * y1) * 4294967296 + x0 * y0 := by
    rw [Int.add_mul, Int.mul_add, Int.mul_add]
    have h1 : x1 * 4294967296 * (y1 * 4294967296) = x1 * y1 * 18446744073709551616 := by
      rw [Int.mul_assoc, Int.mul_left_comm 4294967296 y1, ← Int.mul_assoc]; rfl
    have h2 : x1 * 4294967296 * y0 = x1 * y0 * 4294967296 := by rw [Int.mul_right_comm]
    have h3 : x0 * (y1 * 4294967296) = x0 * y1 * 4294967296 := by rw [Int.mul_assoc]
    rw [h1, h2, h3]; omega
  rw [e]
  generalize x0 * y0 = A at *
  generalize x1 * y0 = B at *
  generalize x0 * y1 = C at *
  generalize x1 * y1 = D at *
  omega

/-- The last digit of a long division by 8 * M. -/
theorem rem_of {V q : Int} (h1 : q * (8 * M) ≤ 8 * V) (h2 : 8 * V < (q + 1) * (8 * M)) : (8 * V - q * (8 * M)) / 8 = V % M := by
  have e : (q + 1) * (8 * M) = q * (8 * M) + 8 * M := by rw [Int.add_mul]; omega
  have e2 : q * (8 * M) = 8 * (q * M) := by rw [Int.mul_left_comm]
  rw [e] at h2
  rw [e2] at h1 h2 ⊢
  have h3 : (8 * V - 8 * (q * M)) / 8 = V - q * M := by omega
  rw [h3]
  have h4 : V = V - q * M + q * M := by omega
  have h5 : V % M = (V - q * M) % M := by
    conv => lhs; rw [h4]
    rw [Int.add_mul_emod_self_right]
  rw [h5, Int.emod_eq_of_lt (by omega) (by omega)]

/-- How many bits a number has. -/
def blen (n : Nat) : Nat := if n = 0 then 0 else Nat.log2 n + 1

def tab : ByteArray := (⟨#[0, 1, 2, 2, 3, 3, 3, 3, 4, 4, 4, 4, 4, 4, 4, 4, 5, 5, 5, 5, 5, 5, 5, 5, 5, 5, 5, 5, 5, 5, 5, 5, 6, 6, 6, 6, 6, 6, 6, 6, 6, 6, 6, 6, 6, 6, 6, 6, 6, 6, 6, 6, 6, 6, 6, 6, 6, 6, 6, 6, 6, 6, 6, 6, 7, 7, 7, 7, 7, 7, 7, 7, 7, 7, 7, 7, 7, 7, 7, 7, 7, 7, 7, 7, 7, 7, 7, 7, 7, 7, 7, 7, 7, 7, 7, 7, 7, 7, 7, 7, 7, 7, 7, 7, 7, 7, 7, 7, 7, 7, 7, 7, 7, 7, 7, 7, 7, 7, 7, 7, 7, 7, 7, 7, 7, 7, 7, 7, 8, 8, 8, 8, 8, 8, 8, 8, 8, 8, 8, 8, 8, 8, 8, 8, 8, 8, 8, 8, 8, 8, 8, 8, 8, 8, 8, 8, 8, 8, 8, 8, 8, 8, 8, 8, 8, 8, 8, 8, 8, 8, 8, 8, 8, 8, 8, 8, 8, 8, 8, 8, 8, 8, 8, 8, 8, 8, 8, 8, 8, 8, 8, 8, 8, 8, 8, 8, 8, 8, 8, 8, 8, 8, 8, 8, 8, 8, 8, 8, 8, 8, 8, 8, 8, 8, 8, 8, 8, 8, 8, 8, 8, 8, 8, 8, 8, 8, 8, 8, 8, 8, 8, 8, 8, 8, 8, 8, 8, 8, 8, 8, 8, 8, 8, 8, 8, 8, 8, 8, 8, 8, 8, 8, 8, 8, 8, 8]⟩ : ByteArray)
theorem tab_all : (List.range 256).all (fun n => (tab[n]?).map UInt8.toNat == some (blen n)) = true := by decide +kernel
theorem tab_get {n : Nat} (h : n < 256) : (tab[n]?).map UInt8.toNat = some (blen n) := by
  have := List.all_eq_true.1 tab_all n (List.mem_range.2 h)
  simpa using this

/-! ### Digests, records, logs -/

/-- The digest of two digests. -/
def pairD (a b : Int) : Int := (a * 1000003 % M + b * 31 % M + 7) % M

def dig (d : Int) : Bool := decide (0 ≤ d) && decide (d < M)

theorem dig_iff {d : Int} : dig d = true ↔ 0 ≤ d ∧ d < M := by simp [dig]
theorem pairD_dig (a b : Int) : dig (pairD a b) = true := by
  rw [dig_iff]
  exact ⟨Int.emod_nonneg _ (by decide), Int.emod_lt_of_pos _ (by decide)⟩

structure Rec where
  t : Int
  u : Int
  a : Int
  c : Int
  deriving DecidableEq, Inhabited

def inR (r : Rec) : Bool := decide (0 ≤ r.t) && decide (r.t ≤ 100000) && decide (0 ≤ r.u) && decide (r.u ≤ 7) && decide (0 ≤ r.a) && decide (r.a ≤ 1000000000) && dig r.c

theorem inR_iff {r : Rec} : inR r = true ↔ 0 ≤ r.t ∧ r.t ≤ 100000 ∧ 0 ≤ r.u ∧ r.u ≤ 7 ∧ 0 ≤ r.a ∧ r.a ≤ 1000000000 ∧ dig r.c = true := by
  simp [inR, and_assoc]

/-- The digest of a record after a digest. -/
def chainD (b : Int) (r : Rec) : Int := pairD (pairD b (8 * r.t + r.u)) r.a

/-- The first fault of a log. -/
def vf : Nat → Int → Int → List Rec → Int × Int
  | _, _, _, [] => (0, 0)
  | i, b, t, r :: l =>
    if inR r = true then
      if r.t < t then (5, i)
      else if r.c = chainD b r then vf (i + 1) r.c r.t l else (18, i)
    else (3, i)

def logF (l : List Rec) : Int × Int := if l.length > 40 then (2, -1) else vf 0 0 0 l

theorem prod_step {x y k : Int} : (x % M + y % M * k) % M = (x + y * k) % M := by
  rw [Int.add_emod (x % M), Int.emod_emod, Int.mul_emod (y % M), Int.emod_emod, ← Int.mul_emod, ← Int.add_emod]

theorem vf_ok {l : List Rec} : ∀ {i b t}, vf i b t l = (0, 0) → ∀ r ∈ l, inR r = true := by
  induction l with
  | nil => intro i b t _ r h; cases h
  | cons x l ih =>
    intro i b t h r hr
    rw [vf] at h
    split at h
    · rename_i hx
      split at h
      · simp at h
      · split at h
        · rcases List.mem_cons.1 hr with rfl | hr
          · exact hx
          · exact ih h r hr
        · simp at h
    · simp at h

theorem logF_ok {l : List Rec} (h : logF l = (0, 0)) : l.length ≤ 40 ∧ vf 0 0 0 l = (0, 0) := by
  unfold logF at h
  split at h
  · simp at h
  · exact ⟨by omega, h⟩

theorem logF_in {l : List Rec} (h : logF l = (0, 0)) : ∀ r ∈ l, inR r = true := vf_ok (logF_ok h).2

/-- A faulty log's code is not 0. -/
theorem vf_code {l : List Rec} : ∀ {i b t}, (vf i b t l).1 = 0 → vf i b t l = (0, 0) := by
  induction l with
  | nil => intro i b t _; rfl
  | cons x l ih =>
    intro i b t h
    rw [vf] at h ⊢
    split
    · rename_i hx
      rw [if_pos hx] at h
      split
      · rename_i ht; rw [if_pos ht] at h; simp at h
      · rename_i ht
        rw [if_neg ht] at h
        split
        · rename_i hc; rw [if_pos hc] at h; exact ih h
        · rename_i hc; rw [if_neg hc] at h; simp at h
    · rename_i hx; rw [if_neg hx] at h; simp at h

theorem logF_code {l : List Rec} (h : (logF l).1 = 0) : logF l = (0, 0) := by
  unfold logF at h ⊢
  split
  · rename_i h1; rw [if_pos h1] at h; simp at h
  · rename_i h1; rw [if_neg h1] at h; exact vf_code h

def lastR (l : List Rec) : Rec := l.getLast?.getD ⟨0, 0, 0, 0⟩

theorem lastR_dig {l : List Rec} (h : ∀ r ∈ l, inR r = true) : dig (lastR l).c = true := by
  unfold lastR
  cases hl : l.getLast? with
  | none => rfl
  | some r => exact (inR_iff.1 (h r (List.mem_of_getLast? hl))).2.2.2.2.2.2

/-- A record with its digest. -/
def newR (l : List Rec) (t u a : Int) : Rec := ⟨t, u, a, chainD (lastR l).c ⟨t, u, a, 0⟩⟩

/-- Append's fault. -/
def appF (l : List Rec) (t u a : Int) : Int × Int :=
  if logF l = (0, 0) then
    if inR ⟨t, u, a, 0⟩ = true then
      if t < (lastR l).t then (16, -2)
      else if l.length = 40 then (14, -2)
      else (0, 0)
    else (3, -2)
  else logF l

def appR (l : List Rec) (t u a : Int) : List Rec := if appF l t u a = (0, 0) then l ++ [newR l t u a] else []

/-- Is a record asked for? -/
def ask (u f t : Int) (r : Rec) : Bool := decide (f ≤ r.t) && decide (r.t ≤ t) && (decide (u = -1) || decide (u = r.u))

def qIdx (u f t : Int) : List Rec → Nat → List Int
  | [], _ => []
  | r :: l, i => if ask u f t r = true then (i : Int) :: qIdx u f t l (i + 1) else qIdx u f t l (i + 1)

def qF (l : List Rec) (u : Int) : Int × Int :=
  if logF l = (0, 0) then if u < -1 ∨ u > 7 then (3, -2) else (0, 0) else logF l

def qR (l : List Rec) (u f t : Int) : List Int := if qF l u = (0, 0) then qIdx u f t l 0 else []

def pre : List Rec → List Rec → Nat
  | x :: a, y :: b => if x = y then pre a b + 1 else 0
  | _, _ => 0

def forkF (a b : List Rec) : Int × Int := if logF a = (0, 0) then if logF b = (0, 0) then (0, 0) else ((logF b).1, -2) else logF a
def forkR (a b : List Rec) : Nat := if forkF a b = (0, 0) then pre a b else 0

theorem pair_ne {p : Int × Int} (h : ¬(p.1 = 0 ∧ p.2 = 0 ∧ True)) : p ≠ (0, 0) := fun e => h (by rw [e]; exact ⟨rfl, rfl, trivial⟩)
theorem pair_eq {p : Int × Int} (h : ¬¬(p.1 = 0 ∧ p.2 = 0 ∧ True)) : p = (0, 0) := by
  obtain ⟨h1, h2, _⟩ := Classical.not_not.1 h
  exact Prod.ext h1 h2

end Au
end Go.RM

/-
  Functions of the program as the abstract machine runs them, and what must be shown of a run: printed by RmPrint.
-/
namespace Go.RM
set_option linter.unusedVariables false
set_option maxRecDepth 4000
def rf_FFault : RFunc := ⟨2, 3, [.part 2 (some 2)],
 ((.seq (.ops [⟨.tomb 1 (.k (.agg [.int .i64 0, .int .i64 0])), none, (some 2), true⟩])
 ((.seq (.ops [⟨.move (.var 0), none, none, true⟩, ⟨.move (.var 1), none, none, true⟩, ⟨.build [.int .i64 0, .int .i64 0] [(0, 1, (.loc 0)), (1, 1, (.loc 1))], none, none, true⟩, ⟨.upd 2 0 (.var 2) (.loc 2), none, (some 2), true⟩])
 (.ret))))), none⟩
theorem v_FFault {F : Nat → Option RFunc} {me : Nat} (hF : F me = some (rf_FFault )) {fl : Nat} {H : Heap} {Q : AV → Heap → Prop} (code0 : Int) (index1 : Int)
  (h : ∀ (H2 : Heap), Dead1 H 1 H2 → Q (.agg [(.int .i64 code0), (.int .i64 index1)]) H2) : Ret F fl me [(.int .i64 code0), (.int .i64 index1)] H Q := by
  refine ret_intro hF rfl ?_
  refine w_seq ?_
  refine w_run [1] ?_
  obtain ⟨H2, hb⟩ : ∃ H', Dead1 H 1 H' := ⟨_, ⟨rfl⟩⟩
  replace h := h H2 hb
  refine t_tomb true 1 (.agg [(.int .i64 0), (.int .i64 0)]) [(.int .i64 0), (.int .i64 0)] H2 H (by kernel_rfl) rfl hb ?_
  refine t_done [(.int .i64 code0), (.int .i64 index1), (.agg [(.int .i64 0), (.int .i64 0)])] H2 (by kernel_rfl) ?_
  refine then_norm ?_
  refine w_seq ?_
  refine w_run [0, 0, 1, 1] ?_
  refine t_build true [(.int .i64 0), (.int .i64 0)] [(0, 1, .loc 0), (1, 1, .loc 1)] [(.int .i64 code0), (.int .i64 index1)] [(.int .i64 code0), (.int .i64 index1)] H2 (by kernel_rfl) (fill_c (vs := [(.int .i64 code0)]) (size := 1) rfl (by kernel_rfl) (by kernel_rfl) (fill_c (vs := [(.int .i64 index1)]) (size := 1) rfl (by kernel_rfl) (by kernel_rfl) (by kernel_rfl))) ?_
  refine t_upd true 2 0 [(.int .i64 0), (.int .i64 0)] (.agg [(.int .i64 code0), (.int .i64 index1)]) [(.int .i64 code0), (.int .i64 index1)] [(.int .i64 code0), (.int .i64 index1)] H2 (by kernel_rfl) rfl (all_c rfl (all_c rfl all_n)) ⟨rfl, Nat.le_of_ble_eq_true (by kernel_rfl), rfl⟩ ?_
  refine t_done [(.int .i64 code0), (.int .i64 index1), (.agg [(.int .i64 code0), (.int .i64 index1)])] H2 (by kernel_rfl) ?_
  refine then_norm ?_
  refine w_ret ?_
  exact body_ret (vs := [(.agg [(.int .i64 code0), (.int .i64 index1)])]) _ (by kernel_rfl) rfl h

def rf_FEqualInts : RFunc := ⟨2, 7, [.var 2],
 ((.seq (.ops [⟨.move (.k (.bool false)), none, (some 2), true⟩])
 ((.seq ((.seq (.ops [⟨.move (.var 0), none, none, true⟩, ⟨.len (.loc 0), none, none, true⟩, ⟨.move (.var 1), none, none, true⟩, ⟨.len (.loc 2), none, none, true⟩, ⟨.bin .neq .no (.loc 1) (.loc 3), none, (some 3), true⟩])
 (.cond (.var 3) ((.seq (.ops [⟨.move (.k (.bool false)), none, (some 2), true⟩])
 (.ret))) (.skip))))
 ((.seq ((.seq (.ops [⟨.move (.k (.int .i64 0)), none, (some 4), true⟩])
 (.block 0 (.loop ((.seq ((.seq (.ops [⟨.move (.var 4), none, none, true⟩, ⟨.move (.var 0), none, none, true⟩, ⟨.len (.loc 1), none, none, true⟩, ⟨.bin .lss .no (.loc 0) (.loc 2), none, (some 5), true⟩])
 (.cond (.var 5) (.skip) (.exit 0))))
 ((.seq (.block 1 ((.seq (.ops [⟨.move (.var 0), none, none, false⟩, ⟨.move (.var 4), none, none, false⟩, ⟨.indexAddr 1 (.loc 0) (.loc 1), none, none, false⟩, ⟨.load none (.loc 2), none, none, false⟩, ⟨.move (.var 1), none, none, false⟩, ⟨.move (.var 4), none, none, false⟩, ⟨.indexAddr 1 (.loc 4) (.loc 5), none, none, false⟩, ⟨.load none (.loc 6), none, none, false⟩, ⟨.bin .neq .no (.loc 3) (.loc 7), none, (some 6), true⟩])
 (.cond (.var 6) ((.seq (.ops [⟨.move (.k (.bool false)), none, (some 2), true⟩])
 (.ret))) (.skip)))))
 (.ops [⟨.move (.var 4), none, none, true⟩, ⟨.bin .add .no (.loc 0) (.k (.int .i64 1)), none, none, true⟩, ⟨.move (.loc 1), none, (some 4), true⟩])))))))))
 ((.seq (.ops [⟨.move (.k (.bool true)), none, (some 2), true⟩])
 (.ret))))))))), none⟩
theorem v_FEqualInts {F : Nat → Option RFunc} {me : Nat} (hF : F me = some (rf_FEqualInts )) {fl : Nat} {H : Heap} {Q : AV → Heap → Prop} (a0 : AV) (b1 : AV)
  (h : ∃ len2 : Nat, lenA a0 = some len2 ∧ ∃ len3 : Nat, lenA b1 = some len3 ∧ (((len2 : Int) ≠ (len3 : Int)) → Q (.bool false) H) ∧ (¬((len2 : Int) ≠ (len3 : Int)) → ∃ (J4 : Nat → Int → Prop) (k5 : Nat), J4 k5 0 ∧ (∀ (m6 : Nat) (i8 : Int), J4 m6 i8 → ∃ len11 : Nat, lenA a0 = some len11 ∧ ((i8 < (len11 : Int)) → ∃ (e12 : Int), getA H 1 none a0 i8 0 = some (.int .i64 e12) ∧ ∃ (e14 : Int), getA H 1 none b1 i8 0 = some (.int .i64 e14) ∧ ((e12 ≠ e14) → Q (.bool false) H) ∧ (¬(e12 ≠ e14) → ∃ m16 : Nat, m16 < m6 ∧ J4 m16 (IntKind.wrap .i64 (i8 + 1)))) ∧ (¬(i8 < (len11 : Int)) → Q (.bool true) H)))) : Ret F fl me [a0, b1] H Q := by
  refine ret_intro hF rfl ?_
  refine w_seq ?_
  refine w_run [0] ?_
  refine t_done [a0, b1, (.bool false), .undef, .undef, .undef, .undef] H (by kernel_rfl) ?_
  refine then_norm ?_
  refine w_seq ?_
  refine w_seq ?_
  refine w_run [0, 1, 0, 1, 0] ?_
  obtain ⟨len2, hl, h⟩ := h
  refine t_len true a0 len2 H (by kernel_rfl) hl ?_
  obtain ⟨len3, hl, h⟩ := h
  refine t_len true b1 len3 H (by kernel_rfl) hl ?_
  refine t_done [a0, b1, (.bool false), (.bool ((len2 : Int) != (len3 : Int))), .undef, .undef, .undef] H (by kernel_rfl) ?_
  refine then_norm ?_
  refine w_cond (t := ((len2 : Int) != (len3 : Int))) rfl (fun hc => ?_) (fun hc => ?_)
  · replace h := h.1 (is_ne.t hc)
    refine w_seq ?_
    refine w_run [0] ?_
    refine t_done [a0, b1, (.bool false), (.bool ((len2 : Int) != (len3 : Int))), .undef, .undef, .undef] H (by kernel_rfl) ?_
    refine then_norm ?_
    refine w_ret ?_
    refine then_ret ?_
    exact body_ret (vs := [(.bool false)]) _ (by kernel_rfl) rfl h
  · replace h := h.2 (is_ne.f hc)
    refine w_skip ?_
    refine then_norm ?_
    refine w_seq ?_
    refine w_seq ?_
    refine w_run [0] ?_
    refine t_done [a0, b1, (.bool false), (.bool ((len2 : Int) != (len3 : Int))), (.int .i64 0), .undef, .undef] H (by kernel_rfl) ?_
    refine then_norm ?_
    refine w_block ?_
    obtain ⟨J4, k5, h0, h⟩ := h
    refine w_loop (I := fun mI EI HI => ∃ (d7 : AV) (i8 : Int) (d9 : AV) (d10 : AV), EI = [a0, b1, d7, (.bool ((len2 : Int) != (len3 : Int))), (.int .i64 i8), d9, d10] ∧ H = HI ∧ J4 mI i8) ?_ k5 ⟨_, _, _, _, rfl, rfl, h0⟩
    clear h0
    rintro m6 EI HI ⟨d7, i8, d9, d10, rfl, rfl, hJ⟩
    replace h := h m6 i8  hJ
    clear hJ
    refine w_seq ?_
    refine w_seq ?_
    refine w_run [0, 0, 1, 0] ?_
    obtain ⟨len11, hl, h⟩ := h
    refine t_len true a0 len11 H (by kernel_rfl) hl ?_
    refine t_done [a0, b1, d7, (.bool ((len2 : Int) != (len3 : Int))), (.int .i64 i8), (.bool (decide (i8 < (len11 : Int)))), d10] H (by kernel_rfl) ?_
    refine then_norm ?_
    refine w_cond (t := (decide (i8 < (len11 : Int)))) rfl (fun hc => ?_) (fun hc => ?_)
    · replace h := h.1 (is_dec.t hc)
      refine w_skip ?_
      refine then_norm ?_
      refine w_seq ?_
      refine w_block ?_
      refine w_seq ?_
      refine w_run [0, 0, 1, 1, 0, 0, 1, 1, 0] ?_
      obtain ⟨e12, hg13, h⟩ := h
      refine t_idxG false 1 a0 .i64 i8 H (by kernel_rfl) hg13 ?_
      refine t_loadG false none 1 a0 i8 0 (.int .i64 e12) H (by kernel_rfl) hg13 ?_
      obtain ⟨e14, hg15, h⟩ := h
      refine t_idxG false 1 b1 .i64 i8 H (by kernel_rfl) hg15 ?_
      refine t_loadG false none 1 b1 i8 0 (.int .i64 e14) H (by kernel_rfl) hg15 ?_
      refine t_done [a0, b1, d7, (.bool ((len2 : Int) != (len3 : Int))), (.int .i64 i8), (.bool (decide (i8 < (len11 : Int)))), (.bool (e12 != e14))] H (by kernel_rfl) ?_
      refine then_norm ?_
      refine w_cond (t := (e12 != e14)) rfl (fun hc => ?_) (fun hc => ?_)
      · replace h := h.1 (is_ne.t hc)
        refine w_seq ?_
        refine w_run [0] ?_
        refine t_done [a0, b1, (.bool false), (.bool ((len2 : Int) != (len3 : Int))), (.int .i64 i8), (.bool (decide (i8 < (len11 : Int)))), (.bool (e12 != e14))] H (by kernel_rfl) ?_
        refine then_norm ?_
        refine w_ret ?_
        refine block_ret ?_
        refine then_ret ?_
        refine loop_ret ?_
        refine block_ret ?_
        refine then_ret ?_
        exact body_ret (vs := [(.bool false)]) _ (by kernel_rfl) rfl h
      · replace h := h.2 (is_ne.f hc)
        refine w_skip ?_
        refine block_norm ?_
        refine then_norm ?_
        refine w_run [0, 0, 0] ?_
        refine t_done [a0, b1, d7, (.bool ((len2 : Int) != (len3 : Int))), (.int .i64 (IntKind.wrap .i64 (i8 + 1))), (.bool (decide (i8 < (len11 : Int)))), (.bool (e12 != e14))] H (by kernel_rfl) ?_
        obtain ⟨m', hm, h⟩ := h
        refine loop_norm ⟨m', hm, _, _, _, _, rfl, rfl, h⟩
    · replace h := h.2 (is_dec.f hc)
      refine w_exit ?_
      refine then_exit ?_
      refine loop_exit ?_
      refine block_exit ?_
      refine then_norm ?_
      refine w_seq ?_
      refine w_run [0] ?_
      refine t_done [a0, b1, (.bool true), (.bool ((len2 : Int) != (len3 : Int))), (.int .i64 i8), (.bool (decide (i8 < (len11 : Int)))), d10] H (by kernel_rfl) ?_
      refine then_norm ?_
      refine w_ret ?_
      exact body_ret (vs := [(.bool true)]) _ (by kernel_rfl) rfl h

end Go.RM

/-
  The reference's functions on lists of numbers: what they return.
-/
namespace Go.RM
set_option linter.unusedSimpArgs false
set_option linter.unusedVariables false

abbrev i64 (n : Int) : AV := .int .i64 n
abbrev flt (c i : Int) : AV := .agg [.int .i64 c, .int .i64 i]

/-- One more, for a place in a list. -/
theorem wsucc {i n : Nat} (h : i < n) (hn : n ≤ 9223372036854775807) : IntKind.wrap .i64 ((i : Int) + 1) = ((i + 1 : Nat) : Int) := by
  rw [wrap64 (by omega) (by omega)]; omega
theorem wpred {i : Nat} (h : 0 < i) (hn : i ≤ 9223372036854775807) : IntKind.wrap .i64 ((i : Int) - 1) = ((i - 1 : Nat) : Int) := by
  rw [wrap64 (by omega) (by omega)]; omega

variable {F : Nat → Option RFunc}

abbrev FFaultC (F : Nat → Option RFunc) (f : Nat) : Prop := ∀ {fl H Q c i}, (∀ H', Keep H.length H H' → Q (flt c i) H') → Ret F fl f [i64 c, i64 i] H Q
theorem fFault_c {f : Nat} (hF : F f = some rf_FFault) : FFaultC F f := fun hq => by
  refine v_FFault hF _ _ ?_
  intro H2 h; exact hq H2 h.keep

abbrev FEqualIntsC (F : Nat → Option RFunc) (f : Nat) : Prop := ∀ {fl H Q a b l m}, Ints H a l → Ints H b m → Q (.bool (decide (l = m))) H → Ret F fl f [a, b] H Q
theorem fEqualInts_c {f : Nat} (hF : F f = some rf_FEqualInts) : FEqualIntsC F f := fun {fl H Q a b l m} ha hb hq => by
  refine v_FEqualInts hF _ _ ?_
  have hs := ha.small
  refine ⟨_, ha.len, _, hb.len, fun hne => ?_, fun he => ?_⟩
  · rw [decide_eq_false (fun h => hne (by rw [h]))] at hq; exact hq
  · have he : l.length = m.length := by omega
    refine ⟨fun k v => ∃ i : Nat, v = i ∧ i + k = l.length ∧ (l.take i = m.take i), l.length, ⟨0, rfl, by omega, by simp⟩, ?_⟩
    rintro k _ ⟨i, rfl, hk, hi⟩
    refine ⟨_, ha.len, fun hlt => ?_, fun hge => ?_⟩
    · have hil : i < l.length := by omega
      refine ⟨_, ha.int hil, _, hb.int (by omega), fun hne => ?_, fun heq => ?_⟩
      · rw [decide_eq_false (fun h => hne (by subst h; rfl))] at hq; exact hq
      · refine ⟨k - 1, by omega, i + 1, wsucc hil hs, by omega, ?_⟩
        have heq : l[i] = m[i] := by omega
        rw [List.take_succ_eq_append_getElem hil, List.take_succ_eq_append_getElem (by omega), hi, heq]
    · rw [List.take_of_length_le (by omega), List.take_of_length_le (by omega)] at hi
      rw [decide_eq_true hi] at hq; exact hq

end Go.RM

/-
  What math/bits and digest compute, as contracts.
-/
namespace Go.RM
set_option linter.unusedSimpArgs false
set_option linter.unusedVariables false
namespace Au
variable {F : Nat → Option RFunc}

abbrev U (n : Int) : AV := .int .u64 n

abbrev MulC (F : Nat → Option RFunc) (f : Nat) : Prop := ∀ {fl H Q a b}, 0 ≤ a → a < 18446744073709551616 → 0 ≤ b → b < 18446744073709551616 → Q (.tuple [U (a * b / 18446744073709551616), U (a * b % 18446744073709551616)]) H → Ret F fl f [U a, U b] H Q
theorem mul64_c {f : Nat} (hF : F f = some rf_mathbits_Mul64) : MulC F f := fun {fl H Q a b} a0 a1 b0 b1 hq => by
  refine v_mathbits_Mul64 hF _ _ ?_
  intro x2 h2 x3 h3 x4 h4 x5 h5 x6 h6 x7 h7 x8 h8 x9 h9 x10 h10
  rw [and32 a0 a1] at h2
  rw [and32 b0 b1] at h4
  rw [shr32] at h3 h5
  obtain ⟨q1, q2, q3, q4, q5, q6, q7, q8, q9⟩ := mul_hi (x0 := x2) (x1 := x3) (y0 := x4) (y1 := x5) (by omega) (by omega) (by omega) (by omega) (by omega) (by omega) (by omega) (by omega)
  rw [shr32, u64_in q2.1 q2.2, u64_in q1.1 q1.2, u64_in q5.1 q5.2] at h6
  rw [and32 (by rw [h6]; exact q5.1) (by rw [h6]; exact q5.2)] at h7
  rw [shr32] at h8
  rw [u64_in q3.1 q3.2, h7, h6, u64_in q6.1 q6.2] at h9
  have e : a * b = (x3 * 4294967296 + x2) * (x5 * 4294967296 + x4) := by
    congr 1 <;> omega
  rw [shr32, u64_in q4.1 q4.2, h9, h8, h6] at h10
  rw [u64_in (x := x3 * x5 + _) (by omega) (by omega), u64_in q7 q8, q9, ← e] at h10
  rw [h10, u64 (a * b)]
  exact hq

abbrev LenC (F : Nat → Option RFunc) (f : Nat) : Prop := ∀ {fl H Q} {n : Nat}, n < 256 → Q (i64 (blen n)) H → Ret F fl f [U n] H Q
abbrev LenMC (F : Nat → Option RFunc) (f : Nat) : Prop := ∀ {fl H Q}, Q (i64 61) H → Ret F fl f [U M] H Q

theorem len64_c {f : Nat} (hF : F f = some rf_mathbits_Len64) : LenC F f := fun {fl H Q n} hn hq => by
  refine v_mathbits_Len64 hF _ ?_
  refine ⟨fun h => by omega, fun _ => ⟨fun h => by omega, fun _ => ⟨fun h => by omega, fun _ => ⟨blen n, ⟨?_, ?_⟩, ?_⟩⟩⟩⟩
  · rw [u8_in (by omega) (by omega)]; omega
  · rw [u8_in (by omega) (by omega)]
    exact tab_get hn
  · have hb : blen n ≤ 8 := by
      unfold blen
      split
      · omega
      · have := Nat.log2_lt (n := n) (by omega) (k := 8) |>.2 (by omega)
        omega
    rw [wrap64 (n := ((blen n : Nat) : Int)) (by omega) (by omega), wrap64 (by omega) (by omega)]
    rw [show (0 : Int) + (blen n : Int) = (blen n : Int) by omega]
    exact hq

theorem len64M_c {f : Nat} (hF : F f = some rf_mathbits_Len64) : LenMC F f := fun {fl H Q} hq => by
  refine v_mathbits_Len64 hF _ ?_
  refine ⟨fun _ => ?_, fun h => absurd (by decide) h⟩
  intro x1 h1
  rw [shr32] at h1
  have h1 : x1 = 536870911 := by rw [h1]; decide
  subst h1
  refine ⟨fun _ => ?_, fun h => absurd (by decide) h⟩
  intro x2 h2
  have h2 : x2 = 8191 := by rw [h2]; decide
  subst h2
  refine ⟨fun _ => ?_, fun h => absurd (by decide) h⟩
  intro x3 h3
  have h3 : x3 = 31 := by rw [h3]; decide
  subst h3
  refine ⟨5, ⟨by decide, ?_⟩, ?_⟩
  · exact tab_get (n := 31) (by omega)
  · exact hq

theorem len_c {f n0 n1 : Nat} (hF : F f = some (rf_mathbits_Len n0 n1)) (h1 : LenC F n1) : LenC F f := fun {fl H Q n} hn hq => by
  refine v_mathbits_Len hF _ ?_
  exact h1 hn ⟨_, rfl, hq⟩

abbrev LzMC (F : Nat → Option RFunc) (f : Nat) : Prop := ∀ {fl H Q}, Q (i64 3) H → Ret F fl f [U M] H Q
theorem lzM_c {f n1 : Nat} (hF : F f = some (rf_mathbits_LeadingZeros64 n1)) (h1 : LenMC F n1) : LzMC F f := fun {fl H Q} hq => by
  refine v_mathbits_LeadingZeros64 hF _ ?_
  exact h1 ⟨_, rfl, hq⟩

/-- What is left of a division by M, of a number with a small upper half. -/
abbrev DivMC (F : Nat → Option RFunc) (f : Nat) : Prop := ∀ {fl H Q} {hi lo : Int}, 0 ≤ hi → hi < 1048576 → 0 ≤ lo → lo < 18446744073709551616 → (∀ q, Q (.tuple [U q, U ((hi * 18446744073709551616 + lo) % M)]) H) → Ret F fl f [U hi, U lo, U M] H Q
theorem divM_c {f n1 : Nat} (hF : F f = some (rf_mathbits_Div64 n1)) (h1 : LzMC F n1) : DivMC F f := fun {fl H Q hi lo} a0 a1 b0 b1 hq => by
  refine v_mathbits_Div64 hF _ _ _ ?_
  refine ⟨fun h => absurd h (by decide), fun _ => ⟨fun h => by simp only [M] at h; omega, fun _ => ⟨fun h => ?_, fun hne => ?_⟩⟩⟩
  · refine ⟨by decide, by decide, ?_⟩
    have := hq (IntKind.wrap .u64 (Int.tdiv lo M))
    rw [h] at this
    rw [Int.tmod_eq_emod_of_nonneg b0]
    simpa using this
  · refine h1 ⟨_, rfl, by decide, ?_⟩
    have w3 : IntKind.wrap .u64 3 = 3 := by decide
    have sh : Min.min (Int.toNat (IntKind.wrap .u64 3)) (IntKind.bits .u64) = 3 := by decide
    have sh2 : Min.min (Int.toNat (IntKind.wrap .u64 (64 - (IntKind.wrap .u64 3)))) (IntKind.bits .u64) = 61 := by decide
    rw [sh, sh2]
    intro x6 h6 x7 h7 x8 h8
    have h6 : x6 = 18446744073709551608 := by rw [h6]; decide
    subst h6
    have h7 : x7 = 4294967295 := by rw [h7]; decide
    have h8 : x8 = 4294967288 := by rw [h8]; decide
    subst h7 h8
    refine ⟨by decide, by decide, ?_⟩
    intro x9 h9
    have e1 : IntKind.wrap .u64 (hi * 2 ^ 3) = hi * 8 := by rw [u64_in (by omega) (by omega)]; rfl
    have e2 : Int.fdiv lo (2 ^ 61) = lo / 2305843009213693952 := by rw [Int.fdiv_eq_ediv_of_nonneg _ (by omega)]; rfl
    rw [e1, e2, or3 a0 (by omega) (by omega) (by omega)] at h9
    refine ⟨by decide, ?_⟩
    intro x10 h10 x11 h11 x12 h12
    have e3 : lo * (2 : Int) ^ 3 = lo * 8 := rfl
    rw [e3, u64] at h10
    rw [shr32] at h11
    rw [and32 (by omega) (by omega)] at h12
    refine ⟨by decide, ?_⟩
    intro x13 h13
    have t0 : Int.tdiv x9 4294967295 = 0 := by rw [Int.tdiv_eq_ediv_of_nonneg (by omega)]; omega
    have h13 : x13 = x9 := by
      rw [h13, t0]
      have : IntKind.wrap .u64 (IntKind.wrap .u64 0 * 4294967295) = 0 := by decide
      rw [this, u64_in (by omega) (by omega)]; omega
    subst h13
    rw [t0]
    refine ⟨fun m q r => q = 0 ∧ r = x13, 0, ⟨by decide, rfl⟩, ?_⟩
    rintro m q r ⟨rfl, hr⟩
    have hr := hr.symm
    subst hr
    refine ⟨fun hc => ?_, fun _ => ?_⟩
    · exfalso
      rcases hc with hc | hc
      · omega
      · rw [u64_in (x := 0 * 4294967288) (by omega) (by omega), u64_in (x := 4294967296 * x13) (by omega) (by omega), u64_in (by omega) (by omega)] at hc
        omega
    · intro x36 h36
      rw [u64_in (x := x13 * 4294967296) (by omega) (by omega), u64_in (x := x13 * 4294967296 + x11) (by omega) (by omega), u64_in (x := 0 * _) (by omega) (by omega), u64_in (by omega) (by omega)] at h36
      have h36 : x36 = x13 * 4294967296 + x11 := by omega
      refine ⟨by decide, ?_⟩
      intro x37 h37
      have q1 := Int.emod_add_mul_ediv x36 4294967295
      have q2 := Int.emod_lt_of_pos x36 (b := 4294967295) (by omega)
      have q3 := Int.emod_nonneg x36 (b := 4294967295) (by omega)
      have d0 : Int.tdiv x36 4294967295 = x36 / 4294967295 := Int.tdiv_eq_ediv_of_nonneg (by omega)
      rw [d0] at h37 ⊢
      generalize hq0 : x36 / 4294967295 = q0 at h37 q1 ⊢
      generalize x36 % 4294967295 = r0 at q1 q2 q3
      rw [u64_in (x := q0) (by omega) (by omega), u64_in (x := q0 * 4294967295) (by omega) (by omega), u64_in (by omega) (by omega)] at h37
      rw [u64_in (x := q0) (by omega) (by omega)]
      have h37 : x37 = r0 := by omega
      subst h37
      -- eight times the number
      generalize hV : hi * 18446744073709551616 + lo = V at hq
      have hN : x36 * 4294967296 + x12 = 8 * V := by omega
      have fin : ∀ q, 0 ≤ q → q * 18446744073709551608 ≤ 8 * V → 8 * V < (q + 1) * 18446744073709551608 → ∀ x, x = Int.fdiv (IntKind.wrap .u64 (IntKind.wrap .u64 (IntKind.wrap .u64 (x36 * 4294967296) + x12) - IntKind.wrap .u64 (q * 18446744073709551608))) (2 ^ 3) → x = V % M := by
        intro q g0 g1 g2 x hx
        have e := rem_of (V := V) (q := q) g1 g2
        rw [show q * (8 * M) = q * 18446744073709551608 from rfl] at e
        rw [hx, ← e, Int.fdiv_eq_ediv_of_nonneg _ (by decide)]
        congr 1
        rw [u64, u64, u64, u64]
        omega
      refine ⟨fun m rh q => q * 4294967295 + rh = x36 ∧ 0 ≤ rh ∧ rh < 4294967296 ∧ 0 ≤ q ∧ q ≤ q0 ∧ (m : Int) = q ∧ 8 * V < (q + 1) * 18446744073709551608, q0.toNat, ⟨by omega, by omega, by omega, by omega, by omega, by omega, by omega⟩, ?_⟩
      rintro m rh q ⟨g1, g2, g3, g4, g5, g6, g7⟩
      rw [u64_in (x := q * 4294967288) (by omega) (by omega), u64_in (x := 4294967296 * rh) (by omega) (by omega), u64_in (x := 4294967296 * rh + x12) (by omega) (by omega), u64_in (x := rh + 4294967295) (by omega) (by omega)]
      refine ⟨fun hc => ?_, fun hc => ?_⟩
      · have hc2 : q * 4294967288 > 4294967296 * rh + x12 := by
          rcases hc with hc | hc
          · omega
          · exact hc
        rw [u64_in (x := q - 1) (by omega) (by omega)]
        refine ⟨fun hge => ?_, fun hlt => ⟨m - 1, by omega, by omega, by omega, by omega, by omega, by omega, by omega, by omega⟩⟩
        refine ⟨by decide, ?_⟩
        intro x45 _ x46 h46
        rw [fin (q - 1) (by omega) (by omega) (by omega) x46 h46]
        exact hq _
      · have hc2 : q * 4294967288 ≤ 4294967296 * rh + x12 := by
          have : ¬ q * 4294967288 > 4294967296 * rh + x12 := fun h => hc (.inr h)
          omega
        refine ⟨by decide, ?_⟩
        intro x48 _ x49 h49
        rw [fin q (by omega) (by omega) (by omega) x49 h49]
        exact hq _

/-! ### Digests -/

abbrev DMulC (F : Nat → Option RFunc) (f : Nat) : Prop := ∀ {fl H Q a b}, 0 ≤ a → a < M → 0 ≤ b → b < 1048576 → Q (U (a * b % M)) H → Ret F fl f [U a, U b] H Q
theorem mul_c {f n1 n2 : Nat} (hF : F f = some (rf_digest_mul n1 n2)) (h1 : MulC F n1) (h2 : DivMC F n2) : DMulC F f := fun {fl H Q a b} a0 a1 b0 b1 hq => by
  refine v_digest_mul hF _ _ ?_
  have hm := Int.mul_le_mul (show a ≤ 2305843009213693951 by simp only [M] at a1; omega) (show b ≤ 1048576 by omega) b0 (by omega)
  have hm0 := Int.mul_nonneg a0 b0
  refine h1 a0 (by simp only [M] at a1; omega) b0 (by omega) ⟨_, _, rfl, ?_⟩
  generalize a * b = p at *
  rw [Int.tmod_eq_emod_of_nonneg (by omega), Int.emod_eq_of_lt (by omega) (by omega)]
  refine h2 (by omega) (by omega) (by omega) (by omega) fun q => ⟨_, _, rfl, ?_⟩
  rw [show p / 18446744073709551616 * 18446744073709551616 + p % 18446744073709551616 = p by omega]
  exact hq

abbrev PairC (F : Nat → Option RFunc) (f : Nat) : Prop := ∀ {fl H Q a b}, dig a = true → dig b = true → (∀ H', Keep H.length H H' → Q (.tuple [i64 (pairD a b), flt 0 0]) H') → Ret F fl f [i64 a, i64 b] H Q
theorem pair_c {f n1 : Nat} (hF : F f = some (rf_digest_Pair n1)) (h1 : DMulC F n1) : PairC F f := fun {fl H Q a b} ha hb hq => by
  obtain ⟨a0, a1⟩ := dig_iff.1 ha
  obtain ⟨b0, b1⟩ := dig_iff.1 hb
  refine v_digest_Pair hF _ _ ?_
  intro H2 d2
  refine ⟨fun m _ _ v9 => ∃ j : Nat, v9 = j ∧ j + m = 2, 2, ⟨0, rfl, rfl⟩, ?_⟩
  rintro m _ _ _ ⟨j, rfl, hm⟩
  refine ⟨fun hlt => ?_, fun _ => ?_⟩
  · have hj : j = 0 ∨ j = 1 := by omega
    rcases hj with rfl | rfl
    · refine ⟨by decide, a, rfl, fun hbad => ?_, fun _ => ⟨m - 1, by omega, 1, rfl, by omega⟩⟩
      exfalso; simp only [M] at a1; omega
    · refine ⟨by decide, b, rfl, fun hbad => ?_, fun _ => ⟨m - 1, by omega, 2, rfl, by omega⟩⟩
      exfalso; simp only [M] at b1; omega
  · have e1 : IntKind.wrap .u64 a = a := u64_in a0 (by simp only [M] at a1; omega)
    have e2 : IntKind.wrap .u64 b = b := u64_in b0 (by simp only [M] at b1; omega)
    rw [e1, e2]
    have m1 : 0 ≤ a * 1000003 % M ∧ a * 1000003 % M < M := ⟨Int.emod_nonneg _ (by decide), Int.emod_lt_of_pos _ (by decide)⟩
    have m2 : 0 ≤ b * 31 % M ∧ b * 31 % M < M := ⟨Int.emod_nonneg _ (by decide), Int.emod_lt_of_pos _ (by decide)⟩
    refine h1 a0 a1 (by decide) (by decide) ⟨_, rfl, ?_⟩
    refine h1 b0 b1 (by decide) (by decide) ⟨_, rfl, ?_⟩
    have := hq H2 d2.keep
    unfold pairD at this
    generalize a * 1000003 % M = r at *
    generalize b * 31 % M = s at *
    simp only [M] at *
    rw [u64_in (x := r + s) (by omega) (by omega), u64_in (by omega) (by omega), Int.tmod_eq_emod_of_nonneg (by omega), wrap64 (by omega) (by omega)]
    exact this

abbrev ProdC (F : Nat → Option RFunc) (f : Nat) : Prop := ∀ {fl H Q a b}, dig a = true → 0 ≤ b → b < 1048576 → Q (i64 (a * b % M)) H → Ret F fl f [i64 a, i64 b] H Q
theorem prod_c {f : Nat} (hF : F f = some rf_Fproduct) : ProdC F f := fun {fl H Q a b} ha b0 b1 hq => by
  obtain ⟨a0, a1⟩ := dig_iff.1 ha
  refine v_Fproduct hF _ _ ?_
  refine ⟨fun m x y s => (0 ≤ x ∧ x < M) ∧ (0 ≤ s ∧ s < M) ∧ y = (m : Int) ∧ y < 1048576 ∧ (s + x * y) % M = a * b % M, b.toNat, ⟨⟨a0, a1⟩, by decide, by omega, b1, by rw [Int.zero_add]⟩, ?_⟩
  rintro m x y s ⟨⟨x0, x1⟩, ⟨s0, s1⟩, hm, hy, he⟩
  simp only [M] at x1 s1
  refine ⟨fun hpos => ?_, fun hle => ?_⟩
  · have t1 : Int.tmod y 2 = y % 2 := Int.tmod_eq_emod_of_nonneg (by omega)
    have t2 : IntKind.wrap .i64 (Int.tdiv y 2) = y / 2 := by rw [Int.tdiv_eq_ediv_of_nonneg (by omega), wrap64 (by omega) (by omega)]
    have t3 : Int.tmod (IntKind.wrap .i64 (2 * x)) 2305843009213693951 = 2 * x % M := by rw [wrap64 (by omega) (by omega), Int.tmod_eq_emod_of_nonneg (by omega)]
    have t4 : Int.tmod (IntKind.wrap .i64 (s + x)) 2305843009213693951 = (s + x) % M := by rw [wrap64 (by omega) (by omega), Int.tmod_eq_emod_of_nonneg (by omega)]
    rw [t1, t2, t3, t4]
    have m1 : 0 ≤ 2 * x % M ∧ 2 * x % M < M := ⟨Int.emod_nonneg _ (by decide), Int.emod_lt_of_pos _ (by decide)⟩
    have m2 : 0 ≤ (s + x) % M ∧ (s + x) % M < M := ⟨Int.emod_nonneg _ (by decide), Int.emod_lt_of_pos _ (by decide)⟩
    refine ⟨fun hodd => ⟨(y / 2).toNat, by omega, m1, m2, by omega, by omega, ?_⟩, fun heven => ⟨(y / 2).toNat, by omega, m1, ⟨s0, s1⟩, by omega, by omega, ?_⟩⟩
    · rw [prod_step, ← he]
      congr 1
      have : y = 2 * (y / 2) + 1 := by omega
      conv => rhs; rw [this]
      rw [Int.mul_add, Int.mul_one, Int.mul_comm 2 x, Int.mul_assoc]
      omega
    · have e0 : s = s % M := (Int.emod_eq_of_lt s0 s1).symm
      rw [e0, prod_step, ← he]
      congr 1
      have : y = 2 * (y / 2) := by omega
      conv => rhs; rw [this]
      rw [Int.mul_comm 2 x, Int.mul_assoc]
  · have hy0 : y = 0 := by omega
    rw [hy0, Int.mul_zero, Int.add_zero, Int.emod_eq_of_lt s0 s1] at he
    rw [he]; exact hq

abbrev FPairC (F : Nat → Option RFunc) (f : Nat) : Prop := ∀ {fl H Q a b}, dig a = true → dig b = true → Q (i64 (pairD a b)) H → Ret F fl f [i64 a, i64 b] H Q
theorem fPair_c {f n1 : Nat} (hF : F f = some (rf_FPair n1)) (h1 : ProdC F n1) : FPairC F f := fun {fl H Q a b} ha hb hq => by
  refine v_FPair hF _ _ ?_
  refine h1 ha (by decide) (by decide) ⟨_, rfl, ?_⟩
  refine h1 hb (by decide) (by decide) ⟨_, rfl, ?_⟩
  have m1 : 0 ≤ a * 1000003 % M ∧ a * 1000003 % M < M := ⟨Int.emod_nonneg _ (by decide), Int.emod_lt_of_pos _ (by decide)⟩
  have m2 : 0 ≤ b * 31 % M ∧ b * 31 % M < M := ⟨Int.emod_nonneg _ (by decide), Int.emod_lt_of_pos _ (by decide)⟩
  unfold pairD at hq
  generalize a * 1000003 % M = r at *
  generalize b * 31 % M = s at *
  simp only [M] at *
  rw [wrap64 (n := r + s) (by omega) (by omega), wrap64 (by omega) (by omega), Int.tmod_eq_emod_of_nonneg (by omega)]
  exact hq

end Au
end Go.RM

/-
  Records and logs: what the program and the reference compute, as contracts.
-/
namespace Go.RM
set_option linter.unusedSimpArgs false
set_option linter.unusedVariables false
namespace Au
variable {F : Nat → Option RFunc}

abbrev recV (r : Rec) : AV := .agg [i64 r.t, i64 r.u, i64 r.a, i64 r.c]
def tRec : Ty Rec := tEnc 4 (fun x => [i64 x.t, i64 x.u, i64 x.a, i64 x.c]) (by decide) (fun _ => rfl) (fun _ => rfl)
theorem tRec_plain : tRec.Plain := fun h => h

abbrev DigC (F : Nat → Option RFunc) (f : Nat) : Prop := ∀ {fl H Q d}, Q (.bool (dig d)) H → Ret F fl f [i64 d] H Q
theorem isDigest_c {f : Nat} (hF : F f = some rf_signing_IsDigest) : DigC F f := fun {fl H Q d} hq => by
  refine v_signing_IsDigest hF _ ?_
  exact hq

abbrev InRC (F : Nat → Option RFunc) (f : Nat) : Prop := ∀ {fl H Q t u a c}, (∀ H', Keep H.length H H' → Q (.bool (inR ⟨t, u, a, c⟩)) H') → Ret F fl f [.agg [i64 t, i64 u, i64 a, i64 c]] H Q
theorem inRange_c {f n1 : Nat} (hF : F f = some (rf_audit_inRange n1)) (h1 : DigC F n1) : InRC F f := fun {fl H Q t u a c} hq => by
  refine v_audit_inRange hF _ _ _ _ ?_
  intro H4 d4
  refine ⟨fun h => h1 ⟨_, rfl, ?_⟩, fun h => ?_⟩
  · have e : inR ⟨t, u, a, c⟩ = dig c := by
      rw [Bool.eq_iff_iff, inR_iff]
      simp only
      constructor
      · rintro ⟨_, _, _, _, _, _, h⟩; exact h
      · intro hd; exact ⟨by omega, by omega, by omega, by omega, by omega, by omega, hd⟩
    rw [← e]; exact hq H4 d4.keep
  · have e : inR ⟨t, u, a, c⟩ = false := by
      rw [Bool.eq_false_iff]
      intro hi
      obtain ⟨g1, g2, g3, g4, g5, g6, _⟩ := inR_iff.1 hi
      simp only at g1 g2 g3 g4 g5 g6
      exact h ⟨⟨⟨⟨⟨by omega, by omega⟩, by omega⟩, by omega⟩, by omega⟩, by omega⟩
    have := hq H4 d4.keep
    rw [e] at this; exact this

theorem recordValid_c {f : Nat} (hF : F f = some rf_FRecordValid) : InRC F f := fun {fl H Q t u a c} hq => by
  refine v_FRecordValid hF _ _ _ _ ?_
  intro H4 d4
  have := hq H4 d4.keep
  have e : inR ⟨t, u, a, c⟩ = ((((((((decide (t ≥ 0)) && (decide (t ≤ 100000))) && (decide (u ≥ 0))) && (decide (u ≤ 7))) && (decide (a ≥ 0))) && (decide (a ≤ 1000000000))) && (decide (c ≥ 0))) && (decide (c < 2305843009213693951))) := by
    rw [Bool.eq_iff_iff, inR_iff, dig_iff]
    simp only [Bool.and_eq_true, decide_eq_true_eq, M]
    omega
  rw [← e]; exact this

/-- Both: the digest of a record after a digest. -/
abbrev ChainC (F : Nat → Option RFunc) (f : Nat) : Prop := ∀ {fl H Q b} {r : Rec}, fl ≤ H.length → dig b = true → (0 ≤ r.t ∧ r.t ≤ 100000 ∧ 0 ≤ r.u ∧ r.u ≤ 7 ∧ 0 ≤ r.a ∧ r.a ≤ 1000000000) → (∀ H', Keep H.length H H' → Q (i64 (chainD b r)) H') → Ret F fl f [i64 b, recV r] H Q
theorem chain_c {f n1 : Nat} (hF : F f = some (rf_audit_chain n1)) (h1 : PairC F n1) : ChainC F f := fun {fl H Q b r} hfl hb hr hq => by
  obtain ⟨g1, g2, g3, g4, g5, g6⟩ := hr
  refine v_audit_chain hF _ _ _ _ _ ?_
  intro H5 d5
  rw [wrap64 (n := r.t * 8) (by omega) (by omega), wrap64 (by omega) (by omega), show r.t * 8 + r.u = 8 * r.t + r.u by omega]
  refine h1 hb (dig_iff.2 ⟨by omega, by simp only [M]; omega⟩) fun H9 k9 => ⟨_, _, _, rfl, ?_⟩
  intro b11 H12 n12
  have k9' := d5.keep.call k9
  obtain ⟨H13, p1, p2, p3⟩ := Box.put (fl := fl) (v := .agg [i64 0, i64 0]) (n := 2) (o := 0) n12.box rfl (by decide) rfl (by rw [n12.b_eq]; exact Nat.le_trans hfl k9'.len)
  refine ⟨H13, p1, ?_⟩
  have kx : Keep H.length H H13 := (k9'.call n12.keep).tr (p3.keep (by rw [n12.b_eq]; exact k9'.len) (Nat.le_trans k9'.len n12.keep.len))
  refine h1 (pairD_dig _ _) (dig_iff.2 ⟨by omega, by simp only [M]; omega⟩) fun H17 k17 => ⟨_, _, _, rfl, ?_⟩
  exact hq H17 (kx.call k17)

theorem fChain_c {f n1 : Nat} (hF : F f = some (rf_FChain n1)) (h1 : FPairC F n1) : ChainC F f := fun {fl H Q b r} hfl hb hr hq => by
  obtain ⟨g1, g2, g3, g4, g5, g6⟩ := hr
  refine v_FChain hF _ _ _ _ _ ?_
  intro H5 d5
  rw [wrap64 (n := 8 * r.t) (by omega) (by omega), wrap64 (by omega) (by omega)]
  refine h1 hb (dig_iff.2 ⟨by omega, by simp only [M]; omega⟩) ⟨_, rfl, ?_⟩
  refine h1 (pairD_dig _ _) (dig_iff.2 ⟨by omega, by simp only [M]; omega⟩) ⟨_, rfl, ?_⟩
  exact hq H5 d5.keep

abbrev LogC (F : Nat → Option RFunc) (f : Nat) : Prop := ∀ {fl H Q v} {l : List Rec}, Arr tRec H v l → fl ≤ H.length → (∀ H', Keep H.length H H' → Q (flt (logF l).1 (logF l).2) H') → Ret F fl f [v] H Q
theorem validate_c {f n1 n2 : Nat} (hF : F f = some (rf_audit_Validate n1 n2)) (h1 : InRC F n1) (h2 : ChainC F n2) : LogC F f := fun {fl H Q v l} hv hfl hq => by
  refine v_audit_Validate hF _ ?_
  intro H1 d1
  refine ⟨_, hv.len, fun hgt => ?_, fun hle => ⟨_, hv.len, ?_⟩⟩
  · have := hq H1 d1.keep
    unfold logF at this
    rw [if_pos (by omega)] at this; exact this
  unfold logF at hq
  rw [if_neg (by omega)] at hq
  refine ⟨fun m _ _ v9 t b H' => ∃ j : Nat, v9 = j ∧ j + m = l.length ∧ Keep H.length H H' ∧ dig b = true ∧ vf j b t (l.drop j) = vf 0 0 0 l, l.length, ⟨0, rfl, by omega, d1.keep, by decide, by rw [List.drop_zero]⟩, ?_⟩
  rintro m _ _ _ t b H' ⟨j, rfl, hm, hk, hb, he⟩
  refine ⟨fun hlt => ?_, fun hge => ?_⟩
  · have hj : j < l.length := by omega
    rw [List.drop_eq_getElem_cons hj, vf] at he
    refine ⟨_, _, _, _, (hv.keep hk).enc hj, ?_⟩
    intro H24 d24
    have k24 := hk.call d24.keep
    refine h1 fun H26 k26 => ⟨_, rfl, fun hno => ?_, fun hyes => ?_⟩
    · have := hq H26 (k24.call k26)
      rw [← he, if_neg hno] at this; exact this
    · have hin : inR l[j] = true := by simpa using hyes
      rw [if_pos hin] at he
      refine ⟨fun hlt2 => ?_, fun hge2 => ?_⟩
      · have := hq H26 (k24.call k26)
        rw [← he, if_pos hlt2] at this; exact this
      · rw [if_neg hge2] at he
        obtain ⟨g1, g2, g3, g4, g5, g6, g7⟩ := inR_iff.1 hin
        refine h2 (r := l[j]) (Nat.le_refl _) hb ⟨g1, g2, g3, g4, g5, g6⟩ fun H29 k29 => ⟨_, rfl, fun hne => ?_, fun heq => ⟨m - 1, by omega, j + 1, wsucc hj hv.small, by omega, (k24.call k26).call k29, g7, ?_⟩⟩
        · have := hq H29 ((k24.call k26).call k29)
          rw [← he, if_neg hne] at this; exact this
        · rw [← he, if_pos (by omega)]
  · rw [List.drop_eq_nil_of_le (by omega), vf] at he
    have := hq H' hk
    rw [← he] at this; exact this

theorem logFault_c {f n1 n2 n3 : Nat} (hF : F f = some (rf_FLogFault n1 n2 n3)) (h1 : FFaultC F n1) (h2 : InRC F n2) (h3 : ChainC F n3) : LogC F f := fun {fl H Q v l} hv hfl hq => by
  refine v_FLogFault hF _ ?_
  intro H1 d1
  refine ⟨_, hv.len, fun hgt => h1 fun H5 k5 => ⟨_, _, rfl, ?_⟩, fun hle => ?_⟩
  · have := hq H5 (d1.keep.call k5)
    unfold logF at this
    rw [if_pos (by omega)] at this; exact this
  unfold logF at hq
  rw [if_neg (by omega)] at hq
  intro H7 d7
  refine ⟨fun m _ _ i a1 a2 a3 a4 H' => ∃ j : Nat, i = j ∧ j + m = l.length ∧ Keep H.length H H' ∧ dig a4 = true ∧ vf j a4 a1 (l.drop j) = vf 0 0 0 l, l.length, ⟨0, rfl, by omega, d1.keep.call d7.keep, by decide, by rw [List.drop_zero]⟩, ?_⟩
  rintro m _ _ _ t _ _ b H' ⟨j, rfl, hm, hk, hb, he⟩
  refine ⟨_, hv.len, fun hlt => ?_, fun hge => h1 fun H5 k5 => ⟨_, _, rfl, ?_⟩⟩
  · have hj : j < l.length := by omega
    rw [List.drop_eq_getElem_cons hj, vf] at he
    refine ⟨_, _, _, _, (hv.keep hk).enc hj, ?_⟩
    refine h2 fun H30 k30 => ⟨_, rfl, fun hno => h1 fun H5 k5 => ⟨_, _, rfl, ?_⟩, fun hyes => ?_⟩
    · have := hq H5 ((hk.call k30).call k5)
      rw [← he, if_neg hno] at this; exact this
    · have hin : inR l[j] = true := by simpa using hyes
      rw [if_pos hin] at he
      have k30' := hk.call k30
      refine ⟨_, (hv.keep k30').cell hj (o := 0) rfl, fun hlt2 => h1 fun H5 k5 => ⟨_, _, rfl, ?_⟩, fun hge2 => ?_⟩
      · have := hq H5 (k30'.call k5)
        rw [← he, if_pos hlt2] at this; exact this
      · rw [if_neg hge2] at he
        obtain ⟨g1, g2, g3, g4, g5, g6, g7⟩ := inR_iff.1 hin
        refine ⟨_, (hv.keep k30').cell hj (o := 3) rfl, _, _, _, _, (hv.keep k30').enc hj, ?_⟩
        refine h3 (r := l[j]) (Nat.le_refl _) hb ⟨g1, g2, g3, g4, g5, g6⟩ fun H50 k50 => ⟨_, rfl, fun hne => h1 fun H5 k5 => ⟨_, _, rfl, ?_⟩, fun heq => ⟨_, _, _, _, (hv.keep (k30'.call k50)).enc hj, m - 1, by omega, j + 1, wsucc hj hv.small, by omega, k30'.call k50, g7, ?_⟩⟩
        · have := hq H5 ((k30'.call k50).call k5)
          rw [← he, if_neg hne] at this; exact this
        · rw [← he, if_pos (by omega)]
  · rw [List.drop_eq_nil_of_le (by omega), vf] at he
    have := hq H5 (hk.call k5)
    rw [← he] at this; exact this

end Au
end Go.RM

