import Derived.Test.YtceemplcjkjphaaSlcW
import Derived.Test.YtceemplcjkjphaaDeW
import Derived.Test.YtceemplcjkjphaaDeR
/-
  Rows of structs that are written, and slices that their owner may change in place.
-/
namespace Go.RM
set_option linter.unusedVariables false
set_option linter.unusedSimpArgs false

/-- v is a slice of block b. -/
def At (v : AV) (b : Nat) : Prop := ∃ off k lim, v = .slice b off k lim
theorem At.same {v : AV} {b b' : Nat} (h : At v b) (h' : At v b') : b = b' := by
  obtain ⟨_, _, _, rfl⟩ := h
  obtain ⟨_, _, _, e⟩ := h'
  cases e; rfl
theorem at_slice {b off k : Nat} {lim : Option Nat} : At (.slice b off k lim) b := ⟨_, _, _, rfl⟩
theorem at_empty {b : Nat} : ¬ At .empty b := fun ⟨_, _, _, h⟩ => by cases h

/-- A slice of blocks from n on that nobody else refers to: it may be appended to, and written. -/
structure Own (n : Nat) (H : Heap) (e : Nat) (v : AV) (m : Nat) (cs : List AV) : Prop where
  small : m ≤ 9223372036854775807
  out : (v = .empty ∧ m = 0 ∧ cs = []) ∨ ∃ b off lim k, v = .slice b off m lim ∧ n ≤ b ∧ H[b]? = some k ∧ k.live = true ∧ k.e = e ∧ off + m * e ≤ k.cells.length ∧ cs = (k.cells.drop off).take (m * e) ∧ (∃ q, k.cells.length = off + q * e) ∧ ∀ c, lim = some c → m ≤ c ∧ off + c * e ≤ k.cells.length

theorem Own.nil {n : Nat} {H : Heap} {e : Nat} : Own n H e .empty 0 [] := ⟨Nat.zero_le _, .inl ⟨rfl, rfl, rfl⟩⟩
theorem Own.sl {n e m : Nat} {H : Heap} {v : AV} {cs : List AV} (h : Own n H e v m cs) : Sl H e v m cs := by
  rcases h.out with g | ⟨b, off, lim, k, h1, h2, h3, h4, h5, h6, h7, _, h8⟩
  · exact ⟨h.small, .inl g⟩
  · refine ⟨h.small, .inr ⟨b, off, lim, k, h1, act_live h3 h4, h5, h6, ?_, h7⟩⟩
    cases lim with
    | none => simp
    | some c => exact (h8 c rfl).1
theorem Own.len {n e m : Nat} {H : Heap} {v : AV} {cs : List AV} (h : Own n H e v m cs) : lenA v = some m := h.sl.len
theorem Own.scal {n e m : Nat} {H : Heap} {v : AV} {cs : List AV} (h : Own n H e v m cs) : Scal v := h.sl.scal
/-- What is left alone stays. -/
theorem Own.frame {n e m : Nat} {H H' : Heap} {v : AV} {cs : List AV} (h : Own n H e v m cs) (hf : ∀ b, At v b → H'[b]? = H[b]?) : Own n H' e v m cs := by
  rcases h.out with g | ⟨b, off, lim, k, rfl, h2, h3, h4⟩
  · exact ⟨h.small, .inl g⟩
  · exact ⟨h.small, .inr ⟨b, off, lim, k, rfl, h2, by rw [hf b at_slice]; exact h3, h4⟩⟩
theorem Own.at_lt {n e m : Nat} {H : Heap} {v : AV} {cs : List AV} {b : Nat} (h : Own n H e v m cs) (ha : At v b) : n ≤ b ∧ b < H.length := by
  rcases h.out with ⟨rfl, _⟩ | ⟨b', off, lim, k, rfl, h2, h3, h4⟩
  · exact absurd ha at_empty
  · have := ha.same at_slice
    subst this
    exact ⟨h2, get_lt h3⟩
theorem Own.keep {n e m : Nat} {H H' : Heap} {v : AV} {cs : List AV} (h : Own n H e v m cs) (k : Keep H.length H H') : Own n H' e v m cs := h.frame fun b hb => k.get b (h.at_lt hb).2

/-- append(x, a), in place or not. -/
theorem Own.push {n e m : Nat} {H : Heap} {cs ys : List AV} {x y : AV} {fl : Nat} {bytes : Nat} (he : 0 < e) (h : Own n H e x m cs) (hy : Sl H e y 1 ys) (hn : n ≤ H.length) (hfl : fl ≤ n) (hs : ys.all AV.scalar = true) (hlen : m + 1 ≤ 2 ^ 30) (hb : bytes ≤ 4096) :
    ∃ v H', appA fl true e bytes H x y = some (v, H') ∧ Own n H' e v (m + 1) (cs ++ ys) ∧ H.length ≤ H'.length ∧ (∀ b, b < H.length → ¬ At x b → H'[b]? = H[b]?) ∧ (∀ b, At v b → At x b ∨ H.length ≤ b) := by
  obtain ⟨c1, c2⟩ := sl_cells hy
  have hysl : ys.length = e := by
    rcases hy.out with ⟨rfl, h0, rfl⟩ | ⟨b, off, lim, k, rfl, h2, h3, h4, h5, h6⟩
    · omega
    · rw [h6, List.length_take, List.length_drop]; omega
  have hstart : appA fl true e bytes H x y = rappend fl true e bytes H x 1 ys := by
    show (match sliceLen y with | some k => (sliceCells H e k y).bind fun xs => rappend fl true e bytes H x k xs | none => none) = _
    rw [c1]; simp only [c2, Option.bind_some]
  rw [hstart]
  have hsz : (m + 1 + (m + 1) / 4 + 192) * bytes ≤ 2 ^ 48 := by
    have h1 : m + 1 + (m + 1) / 4 + 192 ≤ 2 ^ 31 := by omega
    calc (m + 1 + (m + 1) / 4 + 192) * bytes ≤ 2 ^ 31 * 4096 := Nat.mul_le_mul h1 hb
      _ ≤ 2 ^ 48 := by decide
  have hsz2 : 1 * bytes ≤ 2 ^ 48 := by omega
  have hm1 : (m + 1) * e = m * e + e := by rw [Nat.add_mul, Nat.one_mul]
  unfold rappend
  rw [if_neg (by decide)]
  rcases h.out with ⟨rfl, rfl, rfl⟩ | ⟨b, off, lim, k, rfl, h2, h3, h4, h5, h6, h7, ⟨q, h9⟩, h8⟩
  · simp only
    rw [if_pos ⟨hsz2, by omega⟩]
    refine ⟨_, _, rfl, ⟨by omega, .inr ⟨H.length, 0, none, { cells := ys, e }, rfl, hn, snoc_end _ _, rfl, rfl, by simp [hysl], ?_, ⟨1, by simp [hysl]⟩, fun c hc => by cases hc⟩⟩, by simp, fun b hb _ => List.getElem?_append_left hb, fun b hb => .inr (Nat.le_of_eq (at_slice.same hb))⟩
    rw [List.drop_zero, List.nil_append, List.take_of_length_le (by simp [hysl])]
  · simp only [act_live h3 h4]
    rw [if_pos ⟨h5, h6, hsz, by omega⟩, if_pos h4]
    have hbl := get_lt h3
    have hcsl : cs.length = m * e := by rw [h7, List.length_take, List.length_drop]; omega
    -- in place
    have inplace : off + m * e + e ≤ k.cells.length → ∃ v H', ((rput fl H b (off + m * e) ys).map fun H' => (AV.slice b off (m + 1) lim, H')) = some (v, H') ∧ ((∀ c, lim = some c → m + 1 ≤ c) → Own n H' e v (m + 1) (cs ++ ys)) ∧ H.length ≤ H'.length ∧ (∀ b', b' < H.length → ¬ At (AV.slice b off m lim) b' → H'[b']? = H[b']?) ∧ (∀ b', At v b' → At (AV.slice b off m lim) b' ∨ H.length ≤ b') := fun hfit => by
      refine ⟨.slice b off (m + 1) lim, H.set b { k with cells := splice k.cells (off + m * e) ys, clean := false }, ?_, fun hlim => ⟨by omega, .inr ⟨b, off, lim, { k with cells := splice k.cells (off + m * e) ys, clean := false }, rfl, h2, ?_, h4, h5, ?_, ?_, ⟨q, ?_⟩, ?_⟩⟩, by simp, fun b' hb' hne => ?_, fun b' hb' => .inl ?_⟩
      · unfold rput
        simp only [Heap.blk, h3, h4, if_true]
        rw [if_pos ⟨by omega, by rw [hysl]; omega, hs⟩]; rfl
      · rw [List.getElem?_set_self hbl]
      · simp only [splice, List.length_append, List.length_take, List.length_drop, hysl]; omega
      · simp only [splice]
        rw [List.append_assoc, List.drop_append_of_le_length (by rw [List.length_take]; omega), ← List.append_assoc, List.take_append_of_le_length (by rw [List.length_append, List.length_drop, List.length_take, hysl]; omega)]
        rw [List.drop_take, show off + m * e - off = m * e by omega, ← h7, List.take_of_length_le (by rw [List.length_append, hcsl, hysl]; omega)]
      · simp only [splice, List.length_append, List.length_take, List.length_drop, hysl]; omega
      · intro c hc
        refine ⟨hlim c hc, ?_⟩
        have := (h8 c hc).2
        simp only [splice, List.length_append, List.length_take, List.length_drop, hysl]; omega
      · have : b' ≠ b := fun e => hne (by rw [e]; exact at_slice)
        rw [List.getElem?_set_ne (Ne.symm this)]
      · have := at_slice.same hb'
        subst this; exact at_slice
    cases lim with
    | none =>
      simp only
      by_cases hend : off + m * e = k.cells.length
      · rw [if_pos hend]
        unfold rappendTop
        rw [if_pos ⟨by omega, hs⟩]
        have hlen' : (k.cells.drop off).length = m * e := by rw [List.length_drop]; omega
        refine ⟨_, _, rfl, ⟨by omega, .inr ⟨H.length, 0, none, { cells := k.cells.drop off ++ ys, e }, rfl, hn, ?_, rfl, rfl, ?_, ?_, ⟨m + 1, ?_⟩, fun c hc => by cases hc⟩⟩, by simp, fun b' hb' hne => ?_, fun b' hb' => .inr (Nat.le_of_eq (at_slice.same hb'))⟩
        · rw [List.getElem?_append_right (by simp)]; simp
        · simp [hysl, hlen', Nat.add_mul]
        · rw [List.drop_zero, h7, List.take_of_length_le (l := k.cells.drop off) (by omega), List.take_of_length_le]; simp [hysl, hlen', Nat.add_mul]
        · simp [hysl, hlen', Nat.add_mul]
        · have : b' ≠ b := fun e => hne (by rw [e]; exact at_slice)
          rw [List.getElem?_append_left (by simpa using hb'), List.getElem?_set_ne (Ne.symm this)]
      · rw [if_neg hend, if_pos trivial]
        have hq : m * e < q * e := by omega
        have hq2 : m < q := Nat.lt_of_mul_lt_mul_right hq
        have hq3 : (m + 1) * e ≤ q * e := Nat.mul_le_mul_right e hq2
        obtain ⟨v, H', a1, a2, a3⟩ := inplace (by omega)
        exact ⟨v, H', a1, a2 (fun c hc => by cases hc), a3⟩
    | some c =>
      obtain ⟨g1, g2⟩ := h8 c rfl
      simp only
      by_cases hc : m + 1 ≤ c
      · rw [if_pos hc, if_pos trivial]
        have hq3 : (m + 1) * e ≤ c * e := Nat.mul_le_mul_right e hc
        obtain ⟨v, H', a1, a2, a3⟩ := inplace (by omega)
        exact ⟨v, H', a1, a2 (fun c' hc' => by cases hc'; exact hc), a3⟩
      · rw [if_neg hc]
        refine ⟨_, _, rfl, ⟨by omega, .inr ⟨H.length, 0, none, { cells := (k.cells.drop off).take (m * e) ++ ys, e }, rfl, hn, snoc_end _ _, rfl, rfl, ?_, ?_, ⟨m + 1, ?_⟩, fun c hc => by cases hc⟩⟩, by simp, fun b' hb' hne => List.getElem?_append_left hb', fun b' hb' => .inr (Nat.le_of_eq (at_slice.same hb'))⟩
        · rw [← h7, Nat.zero_add, List.length_append, hcsl, hysl]; omega
        · rw [List.drop_zero, ← h7, List.take_of_length_le]; rw [List.length_append, hcsl, hysl]; omega
        · rw [← h7, List.length_append, hcsl, hysl]; omega

/-! ### Rows of structs -/

/-- Block b is a row of structs of e cells. -/
structure MRow (H : Heap) (b e : Nat) (css : List (List AV)) : Prop where
  out : ∃ k, H[b]? = some k ∧ k.live = true ∧ k.e = e ∧ k.cells = css.flatten
  lens : ∀ c ∈ css, c.length = e

theorem MRow.lt {H : Heap} {b e : Nat} {css : List (List AV)} (h : MRow H b e css) : b < H.length := by obtain ⟨k, h1, _⟩ := h.out; exact get_lt h1
theorem MRow.frame {H H' : Heap} {b e : Nat} {css : List (List AV)} (h : MRow H b e css) (hf : H'[b]? = H[b]?) : MRow H' b e css := by
  obtain ⟨k, h1, h2⟩ := h.out
  exact ⟨⟨k, by rw [hf]; exact h1, h2⟩, h.lens⟩
theorem MRow.keep {H H' : Heap} {b e : Nat} {css : List (List AV)} (h : MRow H b e css) (k : Keep H.length H H') : MRow H' b e css := h.frame (k.get b h.lt)
theorem MRow.load {H : Heap} {b e : Nat} {css : List (List AV)} (h : MRow H b e css) {i : Nat} {c : List AV} (hc : css[i]? = some c) {o : Nat} {x : AV} (hx : c[o]? = some x) : rload H none b (i * e + o) = some x := by
  obtain ⟨k, h1, h2, h3, h4⟩ := h.out
  unfold rload
  rw [act_live h1 h2]
  simp only
  have ho : o < e := by
    rw [← h.lens c (List.mem_of_getElem? hc)]
    rcases Nat.lt_or_ge o c.length with h | h
    · exact h
    · rw [List.getElem?_eq_none h] at hx; cases hx
  rw [h4, flat_get h.lens hc ho, hx]
theorem MRow.ptr {b e n i : Nat} (h : i < n) : ptrA e (.slice b 0 n (some n)) (i : Int) = some (b, i * e) := by
  show (if (0 : Int) ≤ i ∧ (i : Int) < n then some (b, 0 + (i : Int).toNat * e) else none) = _
  rw [if_pos (by omega), Int.toNat_natCast, Nat.zero_add]

theorem splice_len {l cs : List AV} {o : Nat} (h : o + cs.length ≤ l.length) : (splice l o cs).length = l.length := by
  simp only [splice, List.length_append, List.length_take, List.length_drop]; omega

theorem flat_splice {e : Nat} : ∀ {css : List (List AV)} (_ : ∀ c ∈ css, c.length = e) {i : Nat} {c : List AV} (_ : css[i]? = some c) {o : Nat} {ws : List AV} (_ : o + ws.length ≤ e), splice css.flatten (i * e + o) ws = (css.set i (splice c o ws)).flatten
  | [], _, i, c, hc, _, _, _ => by simp at hc
  | d :: css, hl, 0, c, hc, o, ws, ho => by
    simp only [List.getElem?_cons_zero, Option.some.injEq] at hc
    subst hc
    have hd := hl d (by simp)
    simp only [List.set_cons_zero, List.flatten_cons, splice, Nat.zero_mul, Nat.zero_add]
    rw [List.take_append_of_le_length (by omega), List.drop_append_of_le_length (by omega)]
    simp only [List.append_assoc]
  | d :: css, hl, i + 1, c, hc, o, ws, ho => by
    have hd := hl d (by simp)
    have ih := flat_splice (css := css) (fun x hx => hl x (by simp [hx])) (i := i) (c := c) (by simpa using hc) ho
    rw [List.set_cons_succ, List.flatten_cons, List.flatten_cons, ← ih]
    simp only [splice]
    have e1 : (i + 1) * e + o = d.length + (i * e + o) := by rw [Nat.succ_mul, hd]; omega
    have e2 : (i + 1) * e + o + ws.length = d.length + (i * e + o + ws.length) := by omega
    rw [e2, e1, List.take_length_add_append, List.drop_length_add_append]
    simp only [List.append_assoc]

theorem MRow.put {fl : Nat} {H : Heap} {b e : Nat} {css : List (List AV)} (h : MRow H b e css) {i : Nat} {c : List AV} (hc : css[i]? = some c) {o n : Nat} {v : AV} (hn : v.cells.length = n) (hon : o + n ≤ e) (hs : v.cells.all AV.scalar = true) (hfl : fl ≤ b) : ∃ H', putA fl H b (i * e + o) n v = some H' ∧ MRow H' b e (css.set i (splice c o v.cells)) ∧ KeepX b H H' := by
  obtain ⟨k, h1, h2, h3, h4⟩ := h.out
  have hcl := h.lens c (List.mem_of_getElem? hc)
  have hi : i < css.length := by
    rcases Nat.lt_or_ge i css.length with h | h
    · exact h
    · rw [List.getElem?_eq_none h] at hc; cases hc
  have hflen := flat_len h.lens
  have hm : i * e + e ≤ css.length * e := by
    have : (i + 1) * e ≤ css.length * e := Nat.mul_le_mul_right e hi
    rw [Nat.succ_mul] at this; omega
  refine ⟨H.set b { k with cells := splice k.cells (i * e + o) v.cells, clean := false }, ?_, ⟨⟨{ k with cells := splice k.cells (i * e + o) v.cells, clean := false }, ?_, h2, h3, ?_⟩, ?_⟩, ⟨by simp, fun b' hne => by rw [List.getElem?_set_ne (Ne.symm hne)]⟩⟩
  · unfold putA rput
    rw [if_pos hn]
    simp only [Heap.blk, h1, h2, if_true]
    rw [if_pos ⟨hfl, by rw [h4, hflen]; omega, hs⟩]
  · rw [List.getElem?_set_self (get_lt h1)]
  · simp only [h4]; exact flat_splice h.lens hc (by omega)
  · intro x hx
    rcases List.mem_or_eq_of_mem_set hx with hx | rfl
    · exact h.lens x hx
    · rw [splice_len (by omega)]; exact hcl

/-! ### slices.Delete -/

theorem rput_ok {fl : Nat} {H : Heap} {b o : Nat} {k : Blk} {ws : List AV} (h : H[b]? = some k) (hl : k.live = true) (hfl : fl ≤ b) (hf : o + ws.length ≤ k.cells.length) (hs : ws.all AV.scalar = true) :
    rput fl H b o ws = some (H.set b { k with cells := splice k.cells o ws, clean := false }) := by
  unfold rput
  simp only [Heap.blk, h, hl, if_true]
  rw [if_pos ⟨hfl, hf, hs⟩]

/-! ### A block of cells -/

structure Box (H : Heap) (b : Nat) (cs : List AV) : Prop where
  out : ∃ k, H[b]? = some k ∧ k.live = true ∧ k.cells = cs
theorem Box.lt {H : Heap} {b : Nat} {cs : List AV} (h : Box H b cs) : b < H.length := by obtain ⟨k, h1, _⟩ := h; exact get_lt h1
theorem Box.frame {H H' : Heap} {b : Nat} {cs : List AV} (h : Box H b cs) (hf : H'[b]? = H[b]?) : Box H' b cs := by
  obtain ⟨k, h1, h2⟩ := h
  exact ⟨k, by rw [hf]; exact h1, h2⟩
theorem NewB.box {H H' : Heap} {e b : Nat} {cs : List AV} (h : NewB H e cs b H') : Box H' b cs := ⟨_, h.get, rfl, rfl⟩
theorem Box.load {H : Heap} {b : Nat} {cs : List AV} (h : Box H b cs) {o : Nat} {x : AV} (hx : cs[o]? = some x) : rload H none b o = some x := by
  obtain ⟨k, h1, h2, h3⟩ := h
  unfold rload
  rw [act_live h1 h2]; simp only [h3, hx]
theorem Box.put {fl : Nat} {H : Heap} {b : Nat} {cs : List AV} (h : Box H b cs) {o n : Nat} {v : AV} (hn : v.cells.length = n) (hon : o + n ≤ cs.length) (hs : v.cells.all AV.scalar = true) (hfl : fl ≤ b) : ∃ H', putA fl H b o n v = some H' ∧ Box H' b (splice cs o v.cells) ∧ KeepX b H H' := by
  obtain ⟨k, h1, h2, h3⟩ := h
  refine ⟨H.set b { k with cells := splice k.cells o v.cells, clean := false }, ?_, ⟨{ k with cells := splice k.cells o v.cells, clean := false }, ?_, h2, by simp only [h3]⟩, ⟨?_, fun b' hne => ?_⟩⟩
  · unfold putA
    rw [if_pos hn, rput_ok h1 h2 hfl (by rw [h3, hn]; exact hon) hs]
  · rw [List.getElem?_set_self (get_lt h1)]
  · simp
  · rw [List.getElem?_set_ne (Ne.symm hne)]

end Go.RM

/-
  Owned slices of structs: an element's cells read and written, one taken out, one put in.
-/
namespace Go.RM
set_option linter.unusedVariables false
set_option linter.unusedSimpArgs false

/-- v[1:] -/
theorem Own.tail {n m e : Nat} {H : Heap} {cs : List AV} {v : AV} (he : 0 < e) (h : Own n H e v (m + 1) cs) : ∃ w, rslice H e v (some (.int .i64 1)) none none = some w ∧ Own n H e w m (cs.drop e) ∧ (∀ b, At w b → At v b) ∧ ((∀ b off k lim, v = .slice b off k lim → lim = none) → ∀ b off k lim, w = .slice b off k lim → lim = none) := by
  rcases h.out with ⟨_, h0, _⟩ | ⟨b, off, lim, k, rfl, h2, h3, h4, h5, h6, h7, ⟨q, h9⟩, h8⟩
  · omega
  have hm1 : (m + 1) * e = m * e + e := Nat.succ_mul _ _
  have hem : (H[b]?).map (·.e) = some e := by rw [h3]; simp [h5]
  have hml : m + 1 ≤ lim.getD (m + 1) := by cases lim with | none => exact Nat.le_refl _ | some c => exact (h8 c rfl).1
  refine ⟨.slice b (off + 1 * e) (m + 1 - 1) (if lim.isSome then some (lim.getD (m + 1) - 1) else none), ?_, ⟨by have := h.small; omega, .inr ⟨b, off + 1 * e, _, k, rfl, h2, h3, h4, h5, by omega, ?_, ?_, ?_⟩⟩, fun b' hb' => by have := at_slice.same hb'; subst this; exact at_slice, fun hn b' off' k' lim' hw => ?_⟩
  · simp only [rslice, bound_int (n := 1), show boundOf none (m + 1) = some (m + 1) from rfl, show boundOf none (lim.getD (m + 1)) = some (lim.getD (m + 1)) from rfl]
    have : boundOf (some (.int .i64 1)) 0 = some 1 := bound_int (n := 1) 0
    rw [this]
    simp only
    rw [if_pos ⟨by omega, .inl hml, Nat.le_refl _, .inr hem⟩]
    simp
  · rw [h7, List.drop_take, List.drop_drop, Nat.one_mul]; congr 1; omega
  · have hq : (m + 1) * e ≤ q * e := by omega
    have hq2 := Nat.le_of_mul_le_mul_right hq he
    exact ⟨q - 1, by rw [Nat.sub_mul, Nat.one_mul]; omega⟩
  · intro c hc
    cases lim with
    | none => simp at hc
    | some c0 =>
      obtain ⟨x1, x2⟩ := h8 c0 rfl
      simp at hc
      subst hc
      refine ⟨by omega, ?_⟩
      rw [Nat.sub_mul, Nat.one_mul]
      have : e ≤ c0 * e := by
        have := Nat.mul_le_mul_right e (show 1 ≤ c0 by omega)
        rwa [Nat.one_mul] at this
      omega
  · have := hn _ _ _ _ rfl
    subst this
    cases hw; rfl

/-- A slice whose capacity is not known. -/
abbrev NoLim (v : AV) : Prop := ∀ b off k lim, v = .slice b off k lim → lim = none

/-- slices.Insert of one element. -/
theorem Own.insert {n m e bytes i : Nat} {H H1 : Heap} {cs ys : List AV} {v : AV} {fl vb : Nat} (he : 0 < e) (h : Own n H e v m cs) (hl : NoLim v) (hy : NewB H e ys vb H1) (hyl : ys.length = e) (hys : ys.all AV.scalar = true) (hs : cs.all AV.scalar = true)
    (hn : n ≤ H.length) (hi : i ≤ m) (hfl : fl ≤ n) (hlen : m ≤ 2 ^ 20) (hb : bytes ≤ 4096) :
    ∃ w H', rinsert fl e bytes H1 v (i : Int) (.slice vb 0 1 (some 1)) = some (w, H') ∧ Own n H' e w (m + 1) (cs.take (i * e) ++ ys ++ cs.drop (i * e)) ∧ NoLim w ∧ H1.length ≤ H'.length ∧ (∀ b, b < H1.length → ¬ At v b → H'[b]? = H1[b]?) ∧ (∀ b, At w b → At v b ∨ H1.length ≤ b) := by
  have h1 := h.keep hy.keep
  have hvb : vb = H.length := hy.b_eq
  have hlt := hy.lt
  have hgv := hy.get
  have hblkv : H1.blk vb = some { cells := ys, e := e } := by simp [Heap.blk, hgv]
  have hcell : sliceCells H1 e 1 (.slice vb 0 1 (some 1)) = some ys := by
    show (if (1 : Nat) = 0 then some [] else if (1 : Nat) < 1 then none else match H1.act vb with | some k => if 0 + 1 * e ≤ k.cells.length then some ((k.cells.drop 0).take (1 * e)) else none | none => none) = _
    rw [if_neg (by decide), if_neg (by decide), act_live hgv rfl]
    simp only [Nat.one_mul, Nat.zero_add, List.drop_zero]
    rw [if_pos (by omega), List.take_of_length_le (by omega)]
  have hbig : (m + 1 + (m + 1) / 4 + 192) * bytes ≤ 2 ^ 46 := by
    have h1 : m + 1 + (m + 1) / 4 + 192 ≤ 2 ^ 22 := by omega
    calc _ ≤ 2 ^ 22 * 4096 := Nat.mul_le_mul h1 hb
      _ ≤ 2 ^ 46 := by decide
  unfold rinsert
  simp only [hcell, hblkv]
  rw [if_pos ⟨by decide, he, by omega⟩]
  have q1 : (m + 1) * e = m * e + e := Nat.succ_mul _ _
  have q0 : i * e ≤ m * e := Nat.mul_le_mul_right _ hi
  rcases h1.out with ⟨rfl, rfl, rfl⟩ | ⟨b, off, lim, k, rfl, h2, h3, h4, h5, h6, h7, ⟨q, h9⟩, h8⟩
  · have hi0 : i = 0 := by omega
    subst hi0
    simp only
    rw [if_pos ⟨rfl, by omega, by decide⟩]
    refine ⟨_, _, rfl, ⟨by omega, .inr ⟨H1.length, 0, none, { cells := ys, e := e }, rfl, Nat.le_trans hn hy.keep.len, snoc_end _ _, rfl, rfl, by simp [hyl], ?_, ⟨1, by simp [hyl]⟩, fun c hc => by cases hc⟩⟩, fun b off k lim hw => by cases hw; rfl, by simp, fun b hb _ => List.getElem?_append_left hb, fun b hb => .inr (Nat.le_of_eq (at_slice.same hb))⟩
    simp only [List.take_nil, List.drop_nil, List.nil_append, List.append_nil, List.drop_zero, Nat.zero_add, Nat.one_mul]
    rw [← hyl, List.take_length]
  · have := hl _ _ _ _ rfl
    subst this
    have hbv : b ≠ vb := by
      have := (h.at_lt (at_slice (b := b))).2
      omega
    have hblk : H1.blk b = some k := by simp [Heap.blk, h3, h4]
    have hbl := get_lt h3
    have hts : ((k.cells.drop (off + i * e)).take ((m - i) * e)).all AV.scalar = true := by
      rw [List.all_eq_true] at hs ⊢
      intro x hx
      refine hs x ?_
      rw [h7]
      have e1 : (k.cells.drop (off + i * e)).take ((m - i) * e) = ((k.cells.drop off).take (m * e)).drop (i * e) := by rw [List.drop_take, List.drop_drop, Nat.sub_mul]
      rw [e1] at hx
      exact List.mem_of_mem_drop hx
    simp only [hblk, Int.toNat_natCast]
    rw [if_pos ⟨by omega, hbv, h5, by omega, by omega, h6, hys, hts, hbig, by omega⟩]
    have hcsl : cs.length = m * e := by rw [h7, List.length_take, List.length_drop]; omega
    by_cases hfull : off + m * e = k.cells.length
    · rw [if_pos hfull]
      have hcs : cs = k.cells.drop off := by rw [h7, List.take_of_length_le]; rw [List.length_drop]; omega
      have hcd : k.cells.drop (off + i * e) = cs.drop (i * e) := by rw [hcs, List.drop_drop]
      refine ⟨_, _, rfl, ⟨by have := h.small; omega, .inr ⟨H1.length, 0, none, { cells := (k.cells.drop off).take (i * e) ++ ys ++ k.cells.drop (off + i * e), e := e }, rfl, Nat.le_trans hn hy.keep.len, ?_, rfl, rfl, ?_, ?_, ⟨m + 1, ?_⟩, fun c hc => by cases hc⟩⟩, fun b off k lim hw => by cases hw; rfl, by simp, fun b' hb' hne => ?_, fun b hb => .inr (Nat.le_of_eq (at_slice.same hb))⟩
      · rw [List.getElem?_append_right (by simp)]; simp
      · rw [hcd, ← hcs]; simp only [List.length_append, List.length_take, List.length_drop]; omega
      · rw [hcd, ← hcs, List.drop_zero]
        exact (List.take_of_length_le (by simp only [List.length_append, List.length_take, List.length_drop]; omega)).symm
      · rw [hcd, ← hcs]; simp only [List.length_append, List.length_take, List.length_drop]; omega
      · have : b' ≠ b := fun e => hne (by rw [e]; exact at_slice)
        rw [List.getElem?_append_left (by simpa using hb'), List.getElem?_set_ne (Ne.symm this)]
    · rw [if_neg hfull]
      have hq : m * e < q * e := by omega
      have hq2 : m < q := Nat.lt_of_mul_lt_mul_right hq
      have hq3 : (m + 1) * e ≤ q * e := Nat.mul_le_mul_right e hq2
      have q2 : (i + 1) * e = i * e + e := Nat.succ_mul _ _
      have q3 : (m - i) * e = m * e - i * e := Nat.sub_mul _ _ _
      generalize hT : (k.cells.drop (off + i * e)).take ((m - i) * e) = T at hts
      have hTl : T.length = m * e - i * e := by rw [← hT, List.length_take, List.length_drop]; omega
      have hq9 : (m + 1) * e ≤ k.cells.length - off := by omega
      have hf1 : off + (i + 1) * e + T.length ≤ k.cells.length := by rw [hTl, q2]; omega
      have p1 := rput_ok (fl := fl) (o := off + (i + 1) * e) (ws := T) h3 h4 (by omega) hf1 hts
      have hl1 : (splice k.cells (off + (i + 1) * e) T).length = k.cells.length := splice_len (by omega)
      have p2 := rput_ok (H := H1.set b { k with cells := splice k.cells (off + (i + 1) * e) T, clean := false }) (fl := fl) (b := b) (o := off + i * e) (k := { k with cells := splice k.cells (off + (i + 1) * e) T, clean := false }) (ws := ys) (List.getElem?_set_self hbl) h4 (by omega) (by show _ ≤ (splice k.cells (off + (i + 1) * e) T).length; omega) hys
      rw [p1]
      simp only [Option.bind_some]
      rw [p2]
      simp only [Option.map_some, List.set_set]
      have hfin : (splice (splice k.cells (off + (i + 1) * e) T) (off + i * e) ys).length = k.cells.length := by rw [splice_len (by omega)]; exact hl1
      refine ⟨_, _, rfl, ⟨by have := h.small; omega, .inr ⟨b, off, none, _, rfl, h2, List.getElem?_set_self hbl, h4, h5, ?_, ?_, ⟨q, ?_⟩, fun c hc => by cases hc⟩⟩, fun b off k lim hw => by cases hw; rfl, by simp, fun b' hb' hne => ?_, fun b' hb' => .inl ?_⟩
      · show _ ≤ (splice (splice k.cells (off + (i + 1) * e) T) (off + i * e) ys).length
        omega
      · show _ = ((splice (splice k.cells (off + (i + 1) * e) T) (off + i * e) ys).drop off).take ((m + 1) * e)
        have hTd : cs.drop (i * e) = T := by rw [← hT, h7, List.drop_take, List.drop_drop, Nat.sub_mul]
        rw [hTd]
        apply List.ext_getElem?
        intro j
        by_cases hj : j < (m + 1) * e
        · rw [List.getElem?_take_of_lt hj, List.getElem?_drop, splice_get (by omega), splice_get (by omega)]
          by_cases h1 : j < i * e
          · rw [if_neg (by omega), if_neg (by omega), List.append_assoc, List.getElem?_append_left (by rw [List.length_take]; omega), List.getElem?_take_of_lt h1, h7, List.getElem?_take_of_lt (by omega), List.getElem?_drop]
          · by_cases h2 : j < i * e + e
            · rw [if_pos (by omega), List.getElem?_append_left (by rw [List.length_append, List.length_take]; omega), List.getElem?_append_right (by rw [List.length_take]; omega)]
              congr 1; rw [List.length_take]; omega
            · rw [if_neg (by omega), if_pos (by omega), List.getElem?_append_right (by rw [List.length_append, List.length_take]; omega)]
              congr 1; rw [List.length_append, List.length_take]; omega
        · rw [List.getElem?_eq_none (by simp only [List.length_append, List.length_take]; omega), List.getElem?_eq_none (by rw [List.length_take]; omega)]
      · show (splice (splice k.cells (off + (i + 1) * e) T) (off + i * e) ys).length = _
        omega
      · have : b' ≠ b := fun e => hne (by rw [e]; exact at_slice)
        rw [List.getElem?_set_ne (Ne.symm this)]
      · have := at_slice.same hb'
        subst this; exact at_slice

end Go.RM
namespace Go.RM
set_option linter.unusedVariables false

/-- An element's cells, read and written. -/
theorem Own.elem {n m e : Nat} {H : Heap} {cs : List AV} {v : AV} (h : Own n H e v m cs) {i : Nat} (hi : i < m) :
    ∃ b o, ptrA e v (i : Int) = some (b, o) ∧ At v b ∧ n ≤ b ∧
      (∀ o' x, o' < e → cs[i * e + o']? = some x → rload H none b (o + o') = some x) ∧
      (∀ fl o' k w, fl ≤ n → w.cells.length = k → o' + k ≤ e → w.cells.all AV.scalar = true → ∃ H', putA fl H b (o + o') k w = some H' ∧ Own n H' e v m (splice cs (i * e + o') w.cells) ∧ KeepX b H H') := by
  rcases h.out with ⟨_, h0, _⟩ | ⟨b, off, lim, k, rfl, h2, h3, h4, h5, h6, h7, ⟨q, h9⟩, h8⟩
  · omega
  have m1 : (i + 1) * e = i * e + e := Nat.succ_mul _ _
  have m3 : (i + 1) * e ≤ m * e := Nat.mul_le_mul_right _ hi
  refine ⟨b, off + i * e, ?_, at_slice, h2, fun o' x ho hx => ?_, fun fl o' kk w hfl hk hok hs => ?_⟩
  · show (if (0 : Int) ≤ i ∧ (i : Int) < m then some (b, off + (i : Int).toNat * e) else none) = _
    rw [if_pos (by omega), Int.toNat_natCast]
  · unfold rload
    rw [act_live h3 h4]
    simp only
    rw [h7, List.getElem?_take_of_lt (by omega), List.getElem?_drop] at hx
    rw [← hx, Nat.add_assoc]
  · have hput := rput_ok (fl := fl) (o := off + i * e + o') (ws := w.cells) h3 h4 (by omega) (by omega) hs
    refine ⟨H.set b { k with cells := splice k.cells (off + i * e + o') w.cells, clean := false }, by unfold putA; rw [if_pos hk, hput], ⟨h.small, .inr ⟨b, off, lim, { k with cells := splice k.cells (off + i * e + o') w.cells, clean := false }, rfl, h2, List.getElem?_set_self (get_lt h3), h4, h5, ?_, ?_, ⟨q, ?_⟩, fun c hc => ?_⟩⟩, ⟨by simp, fun b' hne => by rw [List.getElem?_set_ne (Ne.symm hne)]⟩⟩
    · show _ ≤ (splice k.cells (off + i * e + o') w.cells).length
      rw [splice_len (by omega)]; exact h6
    · show _ = ((splice k.cells (off + i * e + o') w.cells).drop off).take (m * e)
      have hcl : cs.length = m * e := by rw [h7, List.length_take, List.length_drop]; omega
      apply List.ext_getElem?
      intro j
      by_cases hj : j < m * e
      · rw [List.getElem?_take_of_lt hj, List.getElem?_drop, splice_get (by omega), splice_get (by omega)]
        by_cases h1 : i * e + o' ≤ j ∧ j < i * e + o' + w.cells.length
        · rw [if_pos h1, if_pos (by omega)]; congr 1; omega
        · rw [if_neg h1, if_neg (by omega), h7, List.getElem?_take_of_lt hj, List.getElem?_drop]
      · rw [List.getElem?_eq_none (by rw [splice_len (by omega)]; omega), List.getElem?_eq_none (by rw [List.length_take]; omega)]
    · show (splice k.cells (off + i * e + o') w.cells).length = _
      rw [splice_len (by omega)]; exact h9
    · obtain ⟨x1, x2⟩ := h8 c hc
      refine ⟨x1, ?_⟩
      show _ ≤ (splice k.cells (off + i * e + o') w.cells).length
      rw [splice_len (by omega)]; exact x2

end Go.RM

/-
  deadline: operations, and when they and the scripts are faulty; as contracts.
-/
namespace Go.RM
set_option linter.unusedSimpArgs false
set_option linter.unusedVariables false
namespace De

structure Op where
  k : Int
  c : Int
  v : Int
  w : Int
  cs : List Int
  deriving DecidableEq, Inhabited

def badC (n : Int) (c : Int) : Bool := !(decide (0 ≤ c) && decide (c < n))

/-- The error code of an operation. -/
def codeE (o : Op) (n : Int) : Int :=
  if o.k < 1 ∨ o.k > 4 then 4
  else if o.k < 3 then
    if o.w ≠ 0 ∨ 0 < o.cs.length ∨ (o.k = 2 ∧ o.v ≠ 0) then 5
    else if ¬(0 ≤ o.c ∧ o.c < n) ∨ o.v < 0 ∨ o.v > 1000000000 then 3 else 0
  else if o.k = 3 then
    if o.c ≠ 0 ∨ o.v ≠ 0 then 5
    else if o.w < -1 ∨ o.w > 60 ∨ o.cs.any (badC n) = true then 3
    else if o.cs.length > 4 then 2 else 0
  else if o.c ≠ 0 ∨ o.v ≠ 0 ∨ 0 < o.cs.length then 5
  else if o.w < 0 ∨ o.w > 60 then 3 else 0

/-- The first fault of a script's operations; of the scripts. -/
def opsE (n i : Int) : List Op → Int × Int
  | [] => (0, 0)
  | o :: l => if codeE o n = 0 then opsE n i l else (codeE o n, i)
def scrE (n : Int) : Int → List (List Op) → Int × Int
  | _, [] => (0, 0)
  | i, l :: r => if l.length > 8 then (2, i) else if opsE n i l = (0, 0) then scrE n (i + 1) r else opsE n i l
def capE : Int → List Int → Int × Int
  | _, [] => (0, 0)
  | i, c :: l => if c < 1 ∨ c > 4 then (3, -3 - i) else capE (i + 1) l
def valE (caps : List Int) (s : List (List Op)) : Int × Int :=
  if caps.length > 4 then (2, -1)
  else if s.length > 5 then (2, -2)
  else if capE 0 caps = (0, 0) then scrE caps.length 0 s
  else capE 0 caps

theorem opsE_pair {n i : Int} : ∀ {l : List Op}, (opsE n i l).1 = 0 → opsE n i l = (0, 0)
  | [], _ => rfl
  | o :: l, h => by
    rw [opsE] at h ⊢
    split
    · rename_i h1; rw [if_pos h1] at h; exact opsE_pair h
    · rename_i h1; rw [if_neg h1] at h; exact absurd h h1

abbrev opC (v : AV) (x : Op) : List AV := [i64 x.k, i64 x.c, i64 x.v, i64 x.w, v]
def tOp : Ty Op where
  e := 5
  rel H c x := ∃ v, c = opC v x ∧ Ints H v x.cs
  pos := by decide
  len h := by obtain ⟨v, rfl, _⟩ := h; rfl
  scal h := by
    obtain ⟨v, rfl, h⟩ := h
    show (true && (true && (true && (true && (v.scalar && true))))) = true
    rw [h.scal.2]; rfl
  keep k h := by obtain ⟨v, rfl, h⟩ := h; exact ⟨v, rfl, h.keep k⟩

/-- An element that is read. -/
theorem op_get {H : Heap} {v : AV} {l : List Op} (h : Arr tOp H v l) {i : Nat} (hi : i < l.length) : ∃ w, getA H 5 (some 5) v (i : Int) 0 = some (.agg (opC w l[i])) ∧ Ints H w l[i].cs := by
  obtain ⟨c, ⟨w, rfl, h1⟩, h2, _⟩ := h.get hi
  exact ⟨w, h2, h1⟩

variable {F : Nat → Option RFunc}

abbrev CodeC (F : Nat → Option RFunc) (f : Nat) : Prop := ∀ {fl H Q w} {o : Op} {n : Int}, Ints H w o.cs → fl ≤ H.length → (∀ H', Keep H.length H H' → Q (i64 (codeE o n)) H') → Ret F fl f [.agg (opC w o), i64 n] H Q

theorem opCode_c {f n1 n2 n3 : Nat} (hF : F f = some (rf_deadline_opCode n1 n2 n3)) (h1 : F n1 = some rf_deadline_opCodex1) (h2 : F n2 = some rf_deadline_opCodex2) (h3 : ContainsFuncIC F n3) : CodeC F f := fun {fl H Q w o n} hw hfl hq => by
  refine v_deadline_opCode hF _ _ _ _ _ _ ?_
  intro H6 d6 b7 H8 n8 b9 H10 n10
  have k6 := d6.keep
  have c8 : Cell H8 b7 (i64 n) := n8.cell
  have c10 : Cell H10 b9 .nilfunc := n10.cell
  have k10 := (k6.call n8.keep).call n10.keep
  have hn : b7 < b9 := by rw [n10.b_eq]; exact c8.lt
  obtain ⟨H11, p1, p2, p3⟩ := c10.put (fl := fl) (w := .func n1 [.ptr b7 0]) (by rw [n10.b_eq]; exact Nat.le_trans hfl (k6.call n8.keep).len) ⟨rfl, rfl⟩
  refine ⟨H11, p1, ?_⟩
  have hl8 : H.length ≤ H8.length := (k6.call n8.keep).len
  have k11 : Keep H.length H H11 := k10.tr (p3.keep (by rw [n10.b_eq]; exact hl8) k10.len)
  have c7 : Cell H11 b7 (i64 n) := p3.cell (c8.keep n10.keep) (by omega)
  have hw11 := hw.keep k11
  refine ⟨fun b => b = (decide (o.k = 1) || decide (o.k = 2)), ⟨fun h => ?_, fun h => ?_⟩, ?_⟩
  · rw [h]; rfl
  · rw [decide_eq_false h, Bool.false_or]
    show (o.k == 2) = decide (o.k = 2)
    rw [Bool.eq_iff_iff]; simp
  · rintro _ rfl
    unfold codeE at hq
    refine ⟨fun h12 => ⟨_, hw11.len, fun hbad => ?_, fun hok => ?_⟩, fun hn12 => ?_⟩
    · simp only [Bool.or_eq_true, decide_eq_true_eq] at h12
      have := hq H11 k11
      rw [if_neg (by omega), if_pos (by omega), if_pos (by omega)] at this
      exact this
    · simp only [Bool.or_eq_true, decide_eq_true_eq] at h12
      rw [if_neg (by omega), if_pos (by omega), if_neg (by omega)] at hq
      refine ⟨_, p2.load, n1, [.ptr b7 0], rfl, ?_⟩
      refine v_deadline_opCodex1 h1 _ _ ?_
      refine ⟨fun hge => ⟨b7, 0, rfl, n, c7.load, _, rfl, fun hb => ?_, fun hg => ?_⟩, fun hlt => ⟨_, rfl, fun hb => ?_, fun hg => absurd (.inl (.inl (by decide))) hg⟩⟩
      · have := hq H11 k11
        rw [if_pos (by simp only [decide_eq_true_eq] at hb; omega)] at this
        exact this
      · have := hq H11 k11
        rw [if_neg (by simp only [decide_eq_true_eq] at hg; omega)] at this
        exact this
      · have := hq H11 k11
        rw [if_pos (by omega)] at this
        exact this
    · simp only [Bool.or_eq_true, decide_eq_true_eq] at hn12
      refine ⟨fun h3' => ⟨fun hbad => ?_, fun hok => ⟨fun hbad2 => ?_, fun hok2 => ?_⟩⟩, fun hn3 => ⟨fun h4 => ⟨_, hw11.len, fun hbad => ?_, fun hok => ⟨fun hb2 => ?_, fun hg2 => ?_⟩⟩, fun hn4 => ?_⟩⟩
      · have := hq H11 k11
        rw [if_neg (by omega), if_neg (by omega), if_pos h3', if_pos hbad] at this
        exact this
      · have := hq H11 k11
        rw [if_neg (by omega), if_neg (by omega), if_pos h3', if_neg hok, if_pos (by omega)] at this
        exact this
      · refine h3 (p := badC n) hw11 (fun c a H' _ hk hr => ?_) fun H' hk => ⟨_, rfl, fun hb => ?_, fun hg => ⟨_, (hw11.keep hk).len, fun hgt => ?_, fun hle => ?_⟩⟩
        · have hr : c = i64 a := by
            have : ([c] : List AV) = [i64 a] := hr
            simpa using this
          subst hr
          refine v_deadline_opCodex2 h2 _ _ ?_
          refine ⟨b9, 0, rfl, _, (p2.keep hk).load, n1, [.ptr b7 0], rfl, ?_⟩
          refine v_deadline_opCodex1 h1 _ _ ?_
          refine ⟨fun hge => ⟨b7, 0, rfl, n, (c7.keep hk).load, _, rfl, ?_, Keep.refl _⟩, fun hlt => ⟨_, rfl, ?_, Keep.refl _⟩⟩
          · unfold badC
            rw [decide_eq_true (show 0 ≤ a by omega), Bool.true_and]
          · unfold badC
            rw [decide_eq_false (show ¬ 0 ≤ a by omega), Bool.false_and]
        · have := hq H' (k11.call hk)
          rw [if_neg (by omega), if_neg (by omega), if_pos h3', if_neg hok, if_pos (.inr (.inr hb))] at this
          exact this
        · have := hq H' (k11.call hk)
          rw [if_neg (by omega), if_neg (by omega), if_pos h3', if_neg hok, if_neg (fun h => h.elim (fun a => hok2 (.inl a)) fun h => h.elim (fun a => hok2 (.inr a)) hg), if_pos (by omega)] at this
          exact this
        · have := hq H' (k11.call hk)
          rw [if_neg (by omega), if_neg (by omega), if_pos h3', if_neg hok, if_neg (fun h => h.elim (fun a => hok2 (.inl a)) fun h => h.elim (fun a => hok2 (.inr a)) hg), if_neg (by omega)] at this
          exact this
      · have := hq H11 k11
        rw [if_neg (by omega), if_neg (by omega), if_neg hn3, if_pos (by omega)] at this
        exact this
      · have := hq H11 k11
        rw [if_neg (by omega), if_neg (by omega), if_neg hn3, if_neg (by omega), if_pos hb2] at this
        exact this
      · have := hq H11 k11
        rw [if_neg (by omega), if_neg (by omega), if_neg hn3, if_neg (by omega), if_neg hg2] at this
        exact this
      · have := hq H11 k11
        rw [if_pos (by omega)] at this
        exact this

end De
end Go.RM

/-
  deadline: faults of channels and scripts, the program's and the reference's.
-/
namespace Go.RM
set_option linter.unusedSimpArgs false
set_option linter.unusedVariables false
namespace De
variable {F : Nat → Option RFunc}

theorem any_drop {p : Int → Bool} {l : List Int} {i : Nat} (h : i < l.length) : (l.drop i).any p = (p l[i] || (l.drop (i + 1)).any p) := by
  rw [List.drop_eq_getElem_cons h, List.any_cons]

theorem fOpCode_c {f : Nat} (hF : F f = some rf_FOpCode) : CodeC F f := fun {fl H Q w o n} hw hfl hq => by
  refine v_FOpCode hF _ _ _ _ _ _ ?_
  intro H6 d6
  have k6 := d6.keep
  have hw6 := hw.keep k6
  have hq6 := hq H6 k6
  unfold codeE at hq6
  refine ⟨fun hk => ?_, fun hk => ⟨_, hw6.len, fun hbad => ?_, fun hok => ⟨fun hr => ?_, fun hnr => ?_⟩⟩⟩
  · rw [if_pos hk] at hq6; exact hq6
  · rw [if_neg hk] at hq6
    by_cases h3 : o.k < 3
    · rw [if_pos h3, if_pos (by omega)] at hq6; exact hq6
    · rw [if_neg h3] at hq6
      by_cases h4 : o.k = 3
      · rw [if_pos h4, if_pos (by omega)] at hq6; exact hq6
      · rw [if_neg h4, if_pos (by omega)] at hq6; exact hq6
  · rw [if_neg hk] at hq6
    by_cases h3 : o.k < 3
    · rw [if_pos h3, if_neg (by omega), if_pos (by omega)] at hq6; exact hq6
    · rw [if_neg h3] at hq6
      by_cases h4 : o.k = 3
      · rw [if_pos h4, if_neg (by omega), if_pos (by omega)] at hq6; exact hq6
      · rw [if_neg h4, if_neg (by omega), if_pos (by omega)] at hq6; exact hq6
  · have hc : o.k ≠ 3 → o.cs = [] := fun h => List.eq_nil_of_length_eq_zero (by omega)
    refine ⟨fun m i => ∃ j : Nat, i = j ∧ j + m = o.cs.length ∧ o.cs.any (badC n) = (o.cs.drop j).any (badC n), o.cs.length, ⟨0, rfl, by omega, by rw [List.drop_zero]⟩, ?_⟩
    rintro m _ ⟨j, rfl, hm, he⟩
    refine ⟨_, hw6.len, fun hlt => ?_, fun hge => ⟨_, hw6.len, fun hgt => ?_, fun hle => ?_⟩⟩
    · have hj : j < o.cs.length := by omega
      have h3 : o.k = 3 := Classical.byContradiction fun h => by rw [hc h] at hj; simp at hj
      rw [any_drop hj] at he
      have hbad : badC n o.cs[j] = true → Q (.int .i64 3) H6 := fun hb => by
        rw [hb, Bool.true_or] at he
        rw [if_neg hk, if_neg (by omega), if_pos h3, if_neg (by omega), if_pos (.inr (.inr he))] at hq6
        exact hq6
      refine ⟨_, hw6.int hj, fun hneg => hbad (by simp [badC]; omega), fun hnn => ⟨_, hw6.int hj, fun hbig => hbad (by simp [badC]; omega), fun hsm => ⟨m - 1, by omega, j + 1, wsucc hj hw6.small, by omega, ?_⟩⟩⟩
      have : badC n o.cs[j] = false := by simp [badC]; omega
      rw [this, Bool.false_or] at he; exact he
    · have h3 : o.k = 3 := Classical.byContradiction fun h => by rw [hc h] at hgt; simp at hgt
      rw [List.drop_eq_nil_of_le (by omega)] at he
      rw [if_neg hk, if_neg (by omega), if_pos h3, if_neg (by omega), if_neg (by rw [he]; simp; omega), if_pos (by omega)] at hq6
      exact hq6
    · rw [List.drop_eq_nil_of_le (by omega)] at he
      rw [if_neg hk] at hq6
      by_cases h3 : o.k < 3
      · rw [if_pos h3, if_neg (by omega), if_neg (by omega)] at hq6; exact hq6
      · rw [if_neg h3] at hq6
        by_cases h4 : o.k = 3
        · rw [if_pos h4, if_neg (by omega), if_neg (by rw [he]; simp; omega), if_neg (by omega)] at hq6; exact hq6
        · rw [if_neg h4, if_neg (by omega), if_neg (by omega)] at hq6; exact hq6

abbrev Scr (H : Heap) (v : AV) (s : List (List Op)) : Prop := Arr (tArr tOp) H v s

abbrev ValC (F : Nat → Option RFunc) (f : Nat) : Prop := ∀ {fl H Q v w} {caps : List Int} {s : List (List Op)}, Ints H v caps → Scr H w s → fl ≤ H.length → (∀ H', Keep H.length H H' → Q (flt (valE caps s).1 (valE caps s).2) H') → Ret F fl f [v, w] H Q

theorem scrE_step {n : Int} {s : List (List Op)} {j : Nat} (h : j < s.length) : scrE n j (s.drop j) = if (s[j]).length > 8 then (2, (j : Int)) else if opsE n j s[j] = (0, 0) then scrE n ((j + 1 : Nat) : Int) (s.drop (j + 1)) else opsE n j s[j] := by
  rw [List.drop_eq_getElem_cons h, scrE]
  rfl

theorem validate_c {f n1 : Nat} (hF : F f = some (rf_deadline_Validate n1)) (h1 : CodeC F n1) : ValC F f := fun {fl H Q v w caps s} hv hw hfl hq => by
  refine v_deadline_Validate hF _ _ ?_
  intro H2 d2
  have k2 := d2.keep
  unfold valE at hq
  refine ⟨_, hv.len, fun hgt => ?_, fun hle => ⟨_, hw.len, fun hgt => ?_, fun hle2 => ⟨_, hv.len, ?_⟩⟩⟩
  · have := hq H2 k2
    rw [if_pos (by omega)] at this; exact this
  · have := hq H2 k2
    rw [if_neg (by omega), if_pos (by omega)] at this; exact this
  rw [if_neg (by omega), if_neg (by omega)] at hq
  refine ⟨fun m _ _ i => ∃ j : Nat, i = j ∧ j + m = caps.length ∧ capE 0 caps = capE j (caps.drop j), caps.length, ⟨0, rfl, by omega, by rw [List.drop_zero]; rfl⟩, ?_⟩
  rintro m _ _ _ ⟨j, rfl, hm, he⟩
  refine ⟨fun hlt => ?_, fun hge => ⟨_, hw.len, ?_⟩⟩
  · have hj : j < caps.length := by omega
    rw [List.drop_eq_getElem_cons hj, capE] at he
    refine ⟨_, (hv.keep k2).int hj, fun hbad => ?_, fun hgood => ⟨m - 1, by omega, j + 1, wsucc hj hv.small, by omega, ?_⟩⟩
    · have := hq H2 k2
      rw [if_pos hbad] at he
      rw [he, if_neg (by simp)] at this
      rw [wrap64 (by omega) (by omega)]
      exact this
    · rw [if_neg hgood] at he; rw [he]; rfl
  · have hc : capE 0 caps = (0, 0) := by rw [he, List.drop_eq_nil_of_le (by omega), capE]
    rw [if_pos hc] at hq
    refine ⟨fun m _ _ i H' => ∃ j : Nat, i = j ∧ j + m = s.length ∧ Keep H.length H H' ∧ scrE caps.length 0 s = scrE caps.length j (s.drop j), s.length, ⟨0, rfl, by omega, k2, by rw [List.drop_zero]; rfl⟩, ?_⟩
    rintro m _ _ _ H37 ⟨j, rfl, hm, hk, he⟩
    refine ⟨fun hlt => ?_, fun hge => ?_⟩
    · have hj : j < s.length := by omega
      obtain ⟨e, g1, g2⟩ := (hw.keep hk).arr hj
      rw [scrE_step hj] at he
      refine ⟨e, g1, _, g2.len, fun hgt => ?_, fun hle => ⟨_, g2.len, ?_⟩⟩
      · have := hq H37 hk
        rw [he, if_pos (by omega)] at this; exact this
      · rw [if_neg (by omega)] at he
        refine ⟨fun q _ _ i H' => ∃ k : Nat, i = k ∧ k + q = (s[j]).length ∧ Keep H37.length H37 H' ∧ opsE caps.length j s[j] = opsE caps.length j ((s[j]).drop k), (s[j]).length, ⟨0, rfl, by omega, Keep.refl _, by rw [List.drop_zero]⟩, ?_⟩
        rintro q _ _ _ H52 ⟨k, rfl, hq2, hk2, he2⟩
        refine ⟨fun hlt => ?_, fun hge => ?_⟩
        · have hkl : k < (s[j]).length := by omega
          obtain ⟨w2, t1, t2⟩ := op_get (g2.keep hk2) hkl
          refine ⟨_, _, _, _, w2, t1, ?_⟩
          intro H59 d59
          rw [List.drop_eq_getElem_cons hkl, opsE] at he2
          have k59 := hk2.call d59.keep
          refine ⟨t2.scal, _, hv.len, h1 (o := (s[j])[k]) (t2.keep d59.keep) (Nat.le_trans hfl (hk.call k59).len) fun H63 k63 => ⟨_, rfl, fun hne => ?_, fun h0 => ⟨q - 1, by omega, k + 1, wsucc hkl g2.small, by omega, k59.call k63, ?_⟩⟩⟩
          · rw [if_neg hne] at he2
            have := hq H63 ((hk.call k59).call k63)
            rw [he, he2, if_neg (fun e => hne (Prod.mk.inj e).1)] at this
            exact this
          · rw [if_pos (Classical.not_not.1 h0)] at he2; exact he2
        · rw [List.drop_eq_nil_of_le (by omega), opsE] at he2
          rw [if_pos he2] at he
          exact ⟨m - 1, by omega, j + 1, wsucc hj hw.small, by omega, hk.call hk2, he⟩
    · rw [List.drop_eq_nil_of_le (by omega), scrE] at he
      have := hq H37 hk
      rw [he] at this; exact this

theorem procFault_c {f n1 n2 : Nat} (hF : F f = some (rf_FProcessesFault n1 n2)) (h0 : FFaultC F n1) (h1 : CodeC F n2) : ValC F f := fun {fl H Q v w caps s} hv hw hfl hq => by
  refine v_FProcessesFault hF _ _ ?_
  intro H2 d2
  have k2 := d2.keep
  unfold valE at hq
  refine ⟨_, hv.len, fun hgt => h0 fun H6 k6 => ⟨_, _, rfl, ?_⟩, fun hle => ⟨_, hw.len, fun hgt => h0 fun H6 k6 => ⟨_, _, rfl, ?_⟩, fun hle2 => ?_⟩⟩
  · have := hq H6 (k2.call k6)
    rw [if_pos (by omega)] at this; exact this
  · have := hq H6 (k2.call k6)
    rw [if_neg (by omega), if_pos (by omega)] at this; exact this
  rw [if_neg (by omega), if_neg (by omega)] at hq
  refine ⟨fun m _ _ i H' => ∃ j : Nat, i = j ∧ j + m = caps.length ∧ Keep H.length H H' ∧ capE 0 caps = capE j (caps.drop j), caps.length, ⟨0, rfl, by omega, k2, by rw [List.drop_zero]; rfl⟩, ?_⟩
  rintro m _ _ _ H21 ⟨j, rfl, hm, k21, he⟩
  refine ⟨_, hv.len, fun hlt => ?_, fun hge => ?_⟩
  · have hj : j < caps.length := by omega
    rw [List.drop_eq_getElem_cons hj, capE] at he
    have ew : IntKind.wrap .i64 (-3 - (j : Int)) = -3 - (j : Int) := by rw [wrap64 (by omega) (by omega)]
    rw [ew]
    have bad : (caps[j] < 1 ∨ caps[j] > 4) → ∀ H', Keep H.length H H' → Q (flt 3 (-3 - (j : Int))) H' := fun hb H' k => by
      have := hq H' k
      rw [if_pos hb] at he
      rw [he, if_neg (by simp)] at this
      exact this
    refine ⟨_, (hv.keep k21).int hj, fun hb => h0 fun H6 k6 => ⟨_, _, rfl, bad (.inl hb) H6 (k21.call k6)⟩, fun hg => ⟨_, (hv.keep k21).int hj, fun hb => h0 fun H6 k6 => ⟨_, _, rfl, bad (.inr hb) H6 (k21.call k6)⟩, fun hg2 => ⟨m - 1, by omega, j + 1, wsucc hj hv.small, by omega, k21, ?_⟩⟩⟩
    rw [if_neg (by omega)] at he; rw [he]; rfl
  · have hc : capE 0 caps = (0, 0) := by rw [he, List.drop_eq_nil_of_le (by omega), capE]
    rw [if_pos hc] at hq
    refine ⟨fun m _ _ i H' => ∃ j : Nat, i = j ∧ j + m = s.length ∧ Keep H.length H H' ∧ scrE caps.length 0 s = scrE caps.length j (s.drop j), s.length, ⟨0, rfl, by omega, k21, by rw [List.drop_zero]; rfl⟩, ?_⟩
    rintro m _ _ _ H37 ⟨j, rfl, hm, hk, he⟩
    refine ⟨_, hw.len, fun hlt => ?_, fun hge => ?_⟩
    · have hj : j < s.length := by omega
      obtain ⟨e, g1, g2⟩ := (hw.keep hk).arr hj
      rw [scrE_step hj] at he
      refine ⟨e, g1, _, g2.len, fun hgt => h0 fun H6 k6 => ⟨_, _, rfl, ?_⟩, fun hle => ?_⟩
      · have := hq H6 (hk.call k6)
        rw [he, if_pos (by omega)] at this; exact this
      · rw [if_neg (by omega)] at he
        refine ⟨fun q _ _ i H' => ∃ k : Nat, i = k ∧ k + q = (s[j]).length ∧ Keep H37.length H37 H' ∧ opsE caps.length j s[j] = opsE caps.length j ((s[j]).drop k), (s[j]).length, ⟨0, rfl, by omega, Keep.refl _, by rw [List.drop_zero]⟩, ?_⟩
        rintro q _ _ _ H52 ⟨k, rfl, hq2, hk2, he2⟩
        have kall := hk.call hk2
        obtain ⟨e', g1', g2'⟩ := (hw.keep kall).arr hj
        refine ⟨e', g1', _, g2'.len, fun hlt => ⟨e', g1', ?_⟩, fun hge => ?_⟩
        · have hkl : k < (s[j]).length := by omega
          obtain ⟨w2, t1, t2⟩ := op_get g2' hkl
          refine ⟨_, _, _, _, w2, t1, _, hv.len, ?_⟩
          rw [List.drop_eq_getElem_cons hkl, opsE] at he2
          refine h1 (o := (s[j])[k]) t2 (Nat.le_trans hfl kall.len) fun H63 k63 => ⟨_, rfl, fun hne => ?_, fun h0' => ⟨q - 1, by omega, k + 1, wsucc hkl g2'.small, by omega, hk2.call k63, ?_⟩⟩
          · obtain ⟨e3, g3, g4⟩ := (hw.keep (kall.call k63)).arr hj
            obtain ⟨w3, t3, t4⟩ := op_get g4 hkl
            refine ⟨e3, g3, _, _, _, _, w3, t3, _, hv.len, ?_⟩
            refine h1 (o := (s[j])[k]) t4 (Nat.le_trans hfl (kall.call k63).len) fun H90 k90 => ⟨_, rfl, h0 fun H6 k6 => ⟨_, _, rfl, ?_⟩⟩
            rw [if_neg hne] at he2
            have := hq H6 (((kall.call k63).call k90).call k6)
            rw [he, he2, if_neg (fun e => hne (Prod.mk.inj e).1)] at this
            exact this
          · rw [if_pos (Classical.not_not.1 h0')] at he2; exact he2
        · rw [List.drop_eq_nil_of_le (by omega), opsE] at he2
          rw [if_pos he2] at he
          exact ⟨m - 1, by omega, j + 1, wsucc hj hw.small, by omega, kall, he⟩
    · rw [List.drop_eq_nil_of_le (by omega), scrE] at he
      refine h0 fun H6 k6 => ⟨_, _, rfl, ?_⟩
      have := hq H6 (hk.call k6)
      rw [he] at this; exact this

end De
end Go.RM

/-
  A simulation, as the program does it, in plain terms.
-/
namespace Go.RM
set_option linter.unusedSimpArgs false
set_option linter.unusedVariables false
namespace De

structure Res where
  t : Int
  p : Int
  c : Int
  v : Int
  deriving DecidableEq, Inhabited

structure Sys where
  buf : List (List Int)
  ops : List (List Op)
  since : List Int
  tick : Int
  res : List Res

def recvP (buf : List (List Int)) (c : Int) : Option (Int × List (List Int)) :=
  match buf[c.toNat]? with
  | some (v :: b) => some (v, buf.set c.toNat b)
  | _ => none

def firstP (buf : List (List Int)) : List Int → Option (Int × Int × List (List Int))
  | [] => none
  | c :: l => match recvP buf c with
    | some (v, b) => some (c, v, b)
    | none => firstP buf l

def tryP (caps : List Int) (buf : List (List Int)) (o : Op) (waited : Int) : (Int × Int × Bool) × List (List Int) :=
  if o.k = 1 then
    if (((buf.getD o.c.toNat []).length : Nat) : Int) = caps.getD o.c.toNat 0 then ((0, 0, false), buf)
    else ((o.c, o.v, true), buf.set o.c.toNat (buf.getD o.c.toNat [] ++ [o.v]))
  else if o.k = 2 then
    match recvP buf o.c with
    | some (v, b) => ((o.c, v, true), b)
    | none => ((0, 0, false), buf)
  else if o.k = 3 then
    match firstP buf o.cs with
    | some (c, v, b) => ((c, v, true), b)
    | none => ((-1, 0, decide (o.w ≥ 0) && decide (waited ≥ o.w)), buf)
  else ((-1, 0, decide (waited ≥ o.w)), buf)

/-- Does a process do something, or wait for a time? -/
def liveP (o : Op) (done : Bool) : Bool := (done || o.k == 4) || (o.k == 3 && decide (o.w ≥ 0))

/-- A process's turn in a tick. -/
def turnP (caps : List Int) (s : Sys) (p : Nat) : Sys × Bool :=
  match s.ops.getD p [] with
  | [] => (s, false)
  | o :: r =>
    let x := tryP caps s.buf o (s.tick - s.since.getD p 0)
    if x.1.2.2 then
      ({ buf := x.2, ops := s.ops.set p r, since := s.since.set p (s.tick + 1), tick := s.tick, res := s.res ++ [⟨s.tick, p, x.1.1, x.1.2.1⟩] }, true)
    else (s, liveP o false)

def turnsP (caps : List Int) : List Nat → Sys → Bool → Sys × Bool
  | [], s, b => (s, b)
  | p :: l, s, b => turnsP caps l (turnP caps s p).1 (b || (turnP caps s p).2)

/-- One more is put in its place. -/
def insP (key : Nat → Int) (x : Nat) : List Nat → List Nat
  | [] => [x]
  | y :: l => if key x < key y then x :: y :: l else y :: insP key x l
def sortP (key : Nat → Int) (l : List Nat) : List Nat := l.foldl (fun acc x => insP key x acc) []

def stepP (caps : List Int) (s : Sys) : Sys × Bool :=
  let x := turnsP caps (sortP (fun p => s.since.getD p 0) (List.range s.ops.length)) s false
  ({ x.1 with tick := x.1.tick + 1 }, x.2)

def startP (caps : List Int) (scr : List (List Op)) : Sys := ⟨caps.map fun _ => [], scr, scr.map fun _ => 0, 0, []⟩
def runP (caps : List Int) : Nat → Sys → Sys
  | 0, s => s
  | n + 1, s => runP caps n (stepP caps s).1

end De
end Go.RM

/-
  append([]T(nil), l...) gives a list of one's own.
-/
namespace Go.RM
set_option linter.unusedVariables false
set_option linter.unusedSimpArgs false

end Go.RM

/-
  Slices that are built and read from the front: their first element is dropped, one is appended in a block of its own.
-/
namespace Go.RM
set_option linter.unusedVariables false
set_option linter.unusedSimpArgs false

theorem Gr.frame {n e m : Nat} {H H' : Heap} {v : AV} {cs : List AV} (h : Gr n H e v m cs) (hf : ∀ b, At v b → H'[b]? = H[b]?) : Gr n H' e v m cs := by
  rcases h.out with g | ⟨b, off, lim, k, rfl, h2, h3, h4⟩
  · exact ⟨h.small, .inl g⟩
  · exact ⟨h.small, .inr ⟨b, off, lim, k, rfl, h2, by rw [hf b at_slice]; exact h3, h4⟩⟩
theorem Gr.at_lt {n e m : Nat} {H : Heap} {v : AV} {cs : List AV} {b : Nat} (h : Gr n H e v m cs) (ha : At v b) : n ≤ b ∧ b < H.length := by
  rcases h.out with ⟨rfl, _⟩ | ⟨b', off, lim, k, rfl, h2, h3, h4⟩
  · exact absurd ha at_empty
  · have := ha.same at_slice
    subst this
    exact ⟨h2, get_lt h3⟩
theorem Gr.nil {n e : Nat} {H : Heap} : Gr n H e .empty 0 [] := ⟨Nat.zero_le _, .inl ⟨rfl, rfl, rfl⟩⟩

/-- The rest of a slice. -/
theorem Gr.tail {n m e : Nat} {H : Heap} {cs : List AV} {v : AV} (he : 0 < e) (h : Gr n H e v (m + 1) cs) : ∃ w, rslice H e v (some (.int .i64 1)) none none = some w ∧ Gr n H e w m (cs.drop e) ∧ (∀ b, At w b → At v b) := by
  rcases h.out with ⟨_, h0, _⟩ | ⟨b, off, lim, k, rfl, h2, h3, h4, h5, h6, h7, h8⟩
  · omega
  have m1 : (m + 1) * e = m * e + e := Nat.succ_mul _ _
  refine ⟨.slice b (off + 1 * e) (m + 1 - 1) (if lim.isSome then some (lim.getD (m + 1) - 1) else none), ?_, ⟨by have := h.small; omega, .inr ⟨b, off + 1 * e, _, k, rfl, h2, h3, h4, h5, by omega, ?_, ?_⟩⟩, fun b' hb => ?_⟩
  · have hc : 1 ≤ m + 1 ∧ (m + 1 ≤ lim.getD (m + 1) ∨ upB H e b off (m + 1) (some (.int .i64 1)) none none lim = true) ∧ lim.getD (m + 1) ≤ lim.getD (m + 1) ∧ (1 = 0 ∨ (H[b]?).map (·.e) = some e) := by
      refine ⟨by omega, .inl ?_, Nat.le_refl _, .inr (by rw [h3]; simp [h5])⟩
      rcases h8 with ⟨rfl, _⟩ | rfl <;> exact Nat.le_refl _
    show (if 1 ≤ m + 1 ∧ (m + 1 ≤ lim.getD (m + 1) ∨ upB H e b off (m + 1) (some (.int .i64 1)) none none lim = true) ∧ lim.getD (m + 1) ≤ lim.getD (m + 1) ∧ (1 = 0 ∨ (H[b]?).map (·.e) = some e) then some (AV.slice b (off + 1 * e) (m + 1 - 1) (if false || lim.isSome then some (lim.getD (m + 1) - 1) else none)) else none) = _
    rw [if_pos hc]; rfl
  · rw [h7, List.drop_take, List.drop_drop]
    congr 1
    · omega
    · congr 1; omega
  · rcases h8 with ⟨rfl, h8⟩ | rfl
    · exact .inl ⟨rfl, by omega⟩
    · exact .inr rfl
  · obtain ⟨_, _, _, hh⟩ := hb
    cases hh
    exact at_slice

/-- append(x, a): always in a block of its own. -/
theorem Gr.pushB {n e m : Nat} {H : Heap} {cs ys : List AV} {x y : AV} {fl : Nat} {free : Bool} {bytes : Nat} (h : Gr n H e x m cs) (hy : Sl H e y 1 ys) (hn : n ≤ H.length) (hfl : fl ≤ n) (hs : ys.all AV.scalar = true) (hlen : m + 1 ≤ 2 ^ 30) (hb : bytes ≤ 4096) :
    ∃ v H', appA fl free e bytes H x y = some (v, H') ∧ Gr n H' e v (m + 1) (cs ++ ys) ∧ H.length ≤ H'.length ∧ (∀ b, b < H.length → ¬ At x b → H'[b]? = H[b]?) ∧ (∀ b, At v b → H.length ≤ b) := by
  obtain ⟨v, H', a1, a2, a3, a4⟩ := h.append (j := 1) (fl := fl) (free := free) (bytes := bytes) hy hn hfl hs hlen hb
  refine ⟨v, H', a1, a2, a3.len, fun b hb hne => a4 b hb fun off k lim e => hne ⟨off, k, lim, e⟩, fun b hb' => ?_⟩
  obtain ⟨c1, c2⟩ := sl_cells hy
  have hstart : appA fl free e bytes H x y = rappend fl free e bytes H x 1 ys := by
    show (match sliceLen y with | some k => (sliceCells H e k y).bind fun xs => rappend fl free e bytes H x k xs | none => none) = _
    rw [c1]; simp only [c2, Option.bind_some]
  rw [hstart] at a1
  unfold rappend at a1
  rw [if_neg (by decide)] at a1
  have fin : ∀ {q : Nat} {H2 : Heap}, some (AV.slice H.length 0 q none, H2) = some (v, H') → H.length ≤ b := fun hh => by
    simp only [Option.some.injEq, Prod.mk.injEq] at hh
    obtain ⟨rfl, _⟩ := hh
    exact Nat.le_of_eq (at_slice.same hb')
  rcases h.out with ⟨rfl, rfl, rfl⟩ | ⟨b0, off, lim, k, rfl, h2, h3, h4, h5, h6, h7, h8⟩
  · simp only at a1
    split at a1
    · exact fin a1
    · simp at a1
  · simp only [act_live h3 h4] at a1
    split at a1
    · rcases h8 with ⟨rfl, h8⟩ | rfl
      · simp only at a1
        rw [if_pos h8] at a1
        unfold rappendTop at a1
        split at a1
        · exact fin a1
        · simp at a1
      · simp only at a1
        rw [if_neg (by omega)] at a1
        exact fin a1
    · simp at a1

end Go.RM

/-
  A simulation in the heap: the system's block, its buffers, processes and results. Which block is whose is kept beside.
-/
namespace Go.RM
set_option linter.unusedSimpArgs false
set_option linter.unusedVariables false
namespace De

inductive Who where
  | sys | bufs | procs | proc (i : Nat) | buf (i : Nat) | res | ord
  deriving DecidableEq

abbrev ints (l : List Int) : List AV := l.map fun x => i64 x
abbrev resC (x : Res) : List AV := [i64 x.t, i64 x.p, i64 x.c, i64 x.v]

structure St (H0 : Heap) (caps : List Int) (own : Nat → Option Who) (H : Heap) (sb bb : Nat) (cv pv rv : AV) (bvs : List AV) (pbs : List Nat) (ovs : List AV) (s : Sys) : Prop where
  k : Keep H0.length H0 H
  sys : Box H sb [cv, .slice bb 0 bvs.length (some bvs.length), pv, rv, i64 s.tick]
  cap : Ints H0 cv caps
  clen : bvs.length = caps.length
  bufs : Box H bb bvs
  blen : s.buf.length = bvs.length
  small : bvs.length ≤ 4
  buf : ∀ (i : Nat) v l, bvs[i]? = some v → s.buf[i]? = some l → Gr H0.length H 1 v l.length (ints l)
  procs : Own H0.length H 1 pv pbs.length (pbs.map fun b => .ptr b 0)
  plen : s.ops.length = pbs.length ∧ s.since.length = pbs.length ∧ ovs.length = pbs.length
  proc : ∀ (i : Nat) b x l v, pbs[i]? = some b → s.since[i]? = some x → s.ops[i]? = some l → ovs[i]? = some v → Box H b [i64 i, i64 x, v] ∧ Arr tOp H0 v l
  res : Own H0.length H 4 rv s.res.length (s.res.map resC).flatten
  oSys : own sb = some .sys ∧ H0.length ≤ sb
  oBufs : own bb = some .bufs ∧ H0.length ≤ bb
  oProc : ∀ (i : Nat) b, pbs[i]? = some b → own b = some (.proc i) ∧ H0.length ≤ b
  oBuf : ∀ (i : Nat) v b, bvs[i]? = some v → At v b → own b = some (.buf i)
  oRes : ∀ b, At rv b → own b = some .res
  oProcs : ∀ b, At pv b → own b = some .procs

section
variable {H0 : Heap} {caps : List Int} {own : Nat → Option Who} {H : Heap} {sb bb : Nat} {cv pv rv : AV} {bvs : List AV} {pbs : List Nat} {ovs : List AV} {s : Sys}

/-- What is owned stays. -/
theorem St.frame {H' : Heap} (h : St H0 caps own H sb bb cv pv rv bvs pbs ovs s) (hk : Keep H0.length H0 H') (hf : ∀ b, own b ≠ none → b < H.length → H'[b]? = H[b]?) : St H0 caps own H' sb bb cv pv rv bvs pbs ovs s where
  k := hk
  sys := h.sys.frame (hf _ (by rw [h.oSys.1]; simp) h.sys.lt)
  cap := h.cap
  clen := h.clen
  bufs := h.bufs.frame (hf _ (by rw [h.oBufs.1]; simp) h.bufs.lt)
  blen := h.blen
  small := h.small
  buf := fun i v l h1 h2 => (h.buf i v l h1 h2).frame fun b hb => hf b (by rw [h.oBuf i v b h1 hb]; simp) ((h.buf i v l h1 h2).at_lt hb).2
  procs := h.procs.frame fun b hb => hf b (by rw [h.oProcs b hb]; simp) (h.procs.at_lt hb).2
  plen := h.plen
  proc := fun i b x l v h1 h2 h3 h4 => ⟨(h.proc i b x l v h1 h2 h3 h4).1.frame (hf b (by rw [(h.oProc i b h1).1]; simp) (h.proc i b x l v h1 h2 h3 h4).1.lt), (h.proc i b x l v h1 h2 h3 h4).2⟩
  res := h.res.frame fun b hb => hf b (by rw [h.oRes b hb]; simp) (h.res.at_lt hb).2
  oSys := h.oSys
  oBufs := h.oBufs
  oProc := h.oProc
  oBuf := h.oBuf
  oRes := h.oRes
  oProcs := h.oProcs

theorem St.keep {H' : Heap} (h : St H0 caps own H sb bb cv pv rv bvs pbs ovs s) (hk : Keep H.length H H') : St H0 caps own H' sb bb cv pv rv bvs pbs ovs s :=
  h.frame (h.k.call hk) fun b _ hb => hk.get b hb

end
end De
end Go.RM

/-
  Buffers: a value is received, an operation is tried.
-/
namespace Go.RM
set_option linter.unusedSimpArgs false
set_option linter.unusedVariables false
namespace De
variable {F : Nat → Option RFunc}

/-- Only blocks of some owners are changed. -/
structure Only (W : Who → Prop) (own : Nat → Option Who) (H H' : Heap) : Prop where
  len : H.length ≤ H'.length
  get : ∀ x, x < H.length → (∀ w, own x = some w → ¬ W w) → H'[x]? = H[x]?

def bufW (w : Who) : Prop := w = .bufs ∨ ∃ i, w = .buf i

theorem box_get {H : Heap} {b : Nat} {vs : List AV} (h : Box H b vs) {i : Nat} {v : AV} (hv : vs[i]? = some v) : getA H 1 none (.slice b 0 vs.length (some vs.length)) (i : Int) 0 = some v := by
  have hi := (List.getElem?_eq_some_iff.1 hv).1
  show (if (0 : Int) ≤ i ∧ (i : Int) < (vs.length : Nat) then rload H none b (0 + (i : Int).toNat * 1 + 0) else none) = _
  rw [if_pos (by omega), Int.toNat_natCast, Nat.mul_one, Nat.add_zero, Nat.zero_add]
  exact h.load hv
theorem box_ptr {b : Nat} {n : Nat} {i : Nat} (hi : i < n) : ptrA 1 (.slice b 0 n (some n)) (i : Int) = some (b, i) := by
  show (if (0 : Int) ≤ i ∧ (i : Int) < (n : Nat) then some (b, 0 + (i : Int).toNat * 1) else none) = _
  rw [if_pos (by omega), Int.toNat_natCast, Nat.mul_one, Nat.zero_add]

theorem splice_one {l : List AV} {i : Nat} {v : AV} (h : i < l.length) : splice l i [v] = l.set i v := by
  apply List.ext_getElem?
  intro j
  rw [splice_get (by simp; omega)]
  by_cases e : j = i
  · subst e
    rw [if_pos (by simp), List.getElem?_set_self h]; simp
  · rw [if_neg (by simp; omega), List.getElem?_set_ne (Ne.symm e)]

section
variable {H0 : Heap} {caps : List Int} {own : Nat → Option Who} {H : Heap} {sb bb : Nat} {cv pv rv : AV} {bvs : List AV} {pbs : List Nat} {ovs : List AV} {s : Sys}

/-- A buffer is another one. -/
theorem St.setBuf {H1 H' : Heap} {own' : Nat → Option Who} (h : St H0 caps own H sb bb cv pv rv bvs pbs ovs s) {c : Nat} {w : AV} {l : List Int} (hc : c < bvs.length)
    (hown : ∀ x, x < H.length → own' x = own x) (hw : ∀ b, At w b → own' b = some (.buf c)) (hg : Gr H0.length H1 1 w l.length (ints l))
    (hk1 : Keep H0.length H0 H1) (hf1 : ∀ x, x < H.length → (∀ v, bvs[c]? = some v → ¬ At v x) → H1[x]? = H[x]?)
    (hb : Box H' bb (bvs.set c w)) (hx : KeepX bb H1 H') : St H0 caps own' H' sb bb cv pv rv (bvs.set c w) pbs ovs { s with buf := s.buf.set c l } := by
  have hkx : Keep H0.length H0 H' := hk1.tr (hx.keep h.oBufs.2 (Nat.le_trans hk1.low hk1.len))
  -- what is not of buffer c and not the buffers' block is as it was
  have hfr : ∀ x, x < H.length → own x ≠ some (.buf c) → x ≠ bb → H'[x]? = H[x]? := fun x hxl ho hne => by
    rw [hx.get x hne]
    exact hf1 x hxl fun v hv ha => ho (h.oBuf c v x hv ha)
  have sl := h.sys.lt
  have oS : own' sb = some .sys := by rw [hown sb sl]; exact h.oSys.1
  have bl := h.bufs.lt
  have nsb : sb ≠ bb := fun e => by have := h.oSys.1; rw [e, h.oBufs.1] at this; cases this
  refine ⟨hkx, ?_, h.cap, by simpa using h.clen, hb, by simp [h.blen], by simpa using h.small, fun i v l' h1 h2 => ?_, ?_, h.plen, fun i b x l' v h1 h2 h3 h4 => ?_, ?_, ⟨oS, h.oSys.2⟩, ⟨by rw [hown bb bl]; exact h.oBufs.1, h.oBufs.2⟩, fun i b h1 => ?_, fun i v b h1 h2 => ?_, fun b hb => ?_, fun b hb => ?_⟩
  · have := h.sys.frame (hfr sb sl (by rw [h.oSys.1]; simp) nsb)
    simpa using this
  · by_cases e : i = c
    · subst e
      rw [List.getElem?_set_self hc] at h1
      rw [List.getElem?_set_self (by rw [h.blen]; exact hc)] at h2
      cases h1; cases h2
      exact hg.frame fun b hb' => hx.get b fun e => by
        have := hw b hb'
        rw [e, hown bb bl, h.oBufs.1] at this; cases this
    · rw [List.getElem?_set_ne (Ne.symm e)] at h1 h2
      have hgr := h.buf i v l' h1 h2
      exact hgr.frame fun b hb' => hfr b (hgr.at_lt hb').2 (by rw [h.oBuf i v b h1 hb']; simp [e]) fun e' => by
        have := h.oBuf i v b h1 hb'
        rw [e', h.oBufs.1] at this; cases this
  · exact h.procs.frame fun b hb' => hfr b (h.procs.at_lt hb').2 (by rw [h.oProcs b hb']; simp) fun e' => by
      have := h.oProcs b hb'
      rw [e', h.oBufs.1] at this; cases this
  · obtain ⟨q1, q2⟩ := h.proc i b x l' v h1 h2 h3 h4
    exact ⟨q1.frame (hfr b q1.lt (by rw [(h.oProc i b h1).1]; simp) fun e' => by
      have := (h.oProc i b h1).1
      rw [e', h.oBufs.1] at this; cases this), q2⟩
  · exact h.res.frame fun b hb' => hfr b (h.res.at_lt hb').2 (by rw [h.oRes b hb']; simp) fun e' => by
      have := h.oRes b hb'
      rw [e', h.oBufs.1] at this; cases this
  · refine ⟨?_, (h.oProc i b h1).2⟩
    have hpl : i < pbs.length := (List.getElem?_eq_some_iff.1 h1).1
    obtain ⟨p1, p2, p3⟩ := h.plen
    obtain ⟨q1, _⟩ := h.proc i b (s.since[i]'(by omega)) (s.ops[i]'(by omega)) (ovs[i]'(by omega)) h1 (List.getElem?_eq_getElem _) (List.getElem?_eq_getElem _) (List.getElem?_eq_getElem _)
    rw [hown b q1.lt]; exact (h.oProc i b h1).1
  · by_cases e : i = c
    · subst e
      rw [List.getElem?_set_self hc] at h1
      cases h1
      exact hw b h2
    · rw [List.getElem?_set_ne (Ne.symm e)] at h1
      have hil : i < bvs.length := (List.getElem?_eq_some_iff.1 h1).1
      have hgr := h.buf i v (s.buf[i]'(by rw [h.blen]; exact hil)) h1 (List.getElem?_eq_getElem _)
      rw [hown b (hgr.at_lt h2).2]; exact h.oBuf i v b h1 h2
  · rw [hown b (h.res.at_lt hb).2]; exact h.oRes b hb
  · rw [hown b (h.procs.at_lt hb).2]; exact h.oProcs b hb

end

abbrev RecvC (F : Nat → Option RFunc) (f : Nat) : Prop := ∀ {fl H0 caps own H sb bb cv pv rv bvs pbs ovs s Q} {c : Nat}, St H0 caps own H sb bb cv pv rv bvs pbs ovs s → fl ≤ H0.length → c < bvs.length →
  (recvP s.buf c = none → Q (.tuple [i64 0, i64 0, .bool false]) H) →
  (∀ v b H' bvs', recvP s.buf c = some (v, b) → St H0 caps own H' sb bb cv pv rv bvs' pbs ovs { s with buf := b } → Only bufW own H H' → Q (.tuple [i64 c, i64 v, .bool true]) H') → Ret F fl f [.ptr sb 0, i64 c] H Q
theorem recv_c {f : Nat} (hF : F f = some rf_deadline_system_receive) : RecvC F f := fun {fl H0 caps own H sb bb cv pv rv bvs pbs ovs s Q c} h hfl hc hq1 hq2 => by
  refine v_deadline_system_receive hF _ _ _ ?_
  have hv : bvs[c]? = some bvs[c] := List.getElem?_eq_getElem hc
  have hcb : c < s.buf.length := by rw [h.blen]; exact hc
  have hl : s.buf[c]? = some s.buf[c] := List.getElem?_eq_getElem hcb
  have hgr := h.buf c _ _ hv hl
  have e3 := h.sys.load (o := 1) (x := .slice bb 0 bvs.length (some bvs.length)) rfl
  have e4 := box_get h.bufs hv
  refine ⟨_, e3, _, e4, _, hgr.sl.len, fun h0 => ?_, fun hne => ⟨_, e3, ?_⟩⟩
  · refine hq1 ?_
    unfold recvP
    rw [Int.toNat_natCast, hl, List.eq_nil_of_length_eq_zero (show s.buf[c].length = 0 by omega)]
  · cases hb : s.buf[c] with
    | nil => rw [hb] at hne; exact absurd rfl hne
    | cons x l =>
      rw [hb] at hgr
      obtain ⟨w, w1, w2, w3⟩ := Gr.tail (m := l.length) (by decide) hgr
      obtain ⟨H11, p1, p2, p3⟩ := h.bufs.put (fl := fl) (v := w) (n := 1) (o := c) (by rw [w2.sl.scal.1]; rfl) (by omega) (by rw [w2.sl.scal.1, List.all_cons, w2.sl.scal.2]; rfl) (Nat.le_trans hfl h.oBufs.2)
      rw [w2.sl.scal.1, splice_one hc] at p2
      have hrp : recvP s.buf c = some (x, s.buf.set c l) := by
        unfold recvP
        rw [Int.toNat_natCast, hl, hb]
      have hnb : ∀ b, At bvs[c] b → b ≠ bb := fun b hb' e => by
        have := h.oBuf c _ b hv hb'
        rw [e, h.oBufs.1] at this; cases this
      refine ⟨w, w1, bb, c, box_ptr hc, H11, p1, x, ?_, ?_⟩
      · have hg2 := hgr.frame (H' := H11) fun b hb' => p3.get b (hnb b hb')
        have := hg2.sl.cell (i := 0) (o := 0) (by simp) (by decide) (x := i64 x) (by simp [ints])
        exact this
      · refine hq2 x (s.buf.set c l) H11 (bvs.set c w) hrp (h.setBuf (H1 := H) (own' := own) (l := l) hc (fun _ _ => rfl) (fun b hb' => h.oBuf c _ b hv (w3 b hb')) ?_ h.k (fun _ _ _ => rfl) p2 p3) ⟨by rw [p3.len]; exact Nat.le_refl _, fun y hy hn => p3.get y fun e => ?_⟩
        · have : (ints (x :: l)).drop 1 = ints l := rfl
          rw [this] at w2; exact w2
        · subst e
          exact hn .bufs h.oBufs.1 (.inl rfl)

end De
end Go.RM

/-
  An operation is tried.
-/
namespace Go.RM
set_option linter.unusedSimpArgs false
set_option linter.unusedVariables false
namespace De
variable {F : Nat → Option RFunc}

theorem code_ok {o : Op} {n : Int} (h : codeE o n = 0) : (1 ≤ o.k ∧ o.k ≤ 4) ∧ (o.k < 3 → 0 ≤ o.c ∧ o.c < n) ∧ (o.k = 3 → (∀ c ∈ o.cs, 0 ≤ c ∧ c < n) ∧ o.cs.length ≤ 4 ∧ -1 ≤ o.w ∧ o.w ≤ 60) ∧ (o.k = 4 → 0 ≤ o.w ∧ o.w ≤ 60) := by
  unfold codeE at h
  split at h
  · simp at h
  · rename_i h1
    split at h
    · rename_i h2
      split at h
      · simp at h
      · split at h
        · simp at h
        · rename_i h3
          exact ⟨by omega, fun _ => by omega, fun _ => by omega, fun _ => by omega⟩
    · rename_i h2
      split at h
      · rename_i h3
        split at h
        · simp at h
        · split at h
          · simp at h
          · rename_i h4
            split at h
            · simp at h
            · refine ⟨by omega, fun _ => by omega, fun _ => ⟨fun c hc => ?_, by omega, by omega, by omega⟩, fun _ => by omega⟩
              have : ¬ o.cs.any (badC n) = true := fun h => h4 (.inr (.inr h))
              rw [List.any_eq_true] at this
              have hb : badC n c ≠ true := fun hb => this ⟨c, hc, hb⟩
              exact Classical.byContradiction fun hne => hb (by
                unfold badC
                cases h1 : decide (0 ≤ c) <;> cases h2 : decide (c < n) <;> simp only [decide_eq_true_eq, decide_eq_false_iff_not] at h1 h2 <;> first | rfl | omega)
      · rename_i h3
        split at h
        · simp at h
        · split at h
          · simp at h
          · exact ⟨by omega, fun _ => by omega, fun _ => by omega, fun _ => by omega⟩

theorem Only.trans {W : Who → Prop} {own : Nat → Option Who} {H H1 H2 : Heap} (a : Keep H.length H H1) (b : Only W own H1 H2) : Only W own H H2 :=
  ⟨Nat.le_trans a.len b.len, fun x hx hn => by rw [b.get x (Nat.lt_of_lt_of_le hx a.len) hn, a.get x hx]⟩
theorem Only.of {W : Who → Prop} {own : Nat → Option Who} {H H1 : Heap} (a : Keep H.length H H1) : Only W own H H1 := ⟨a.len, fun x hx _ => a.get x hx⟩

abbrev TryC (F : Nat → Option RFunc) (f : Nat) : Prop := ∀ {fl H0 caps own H sb bb cv pv rv bvs pbs ovs s Q} {o : Op} {w : AV} {waited : Int}, St H0 caps own H sb bb cv pv rv bvs pbs ovs s → fl ≤ H0.length → Ints H0 w o.cs → codeE o bvs.length = 0 → (∀ l ∈ s.buf, l.length ≤ 4) →
  (∀ own' H' bvs', (∀ x, x < H.length → own' x = own x) → St H0 caps own' H' sb bb cv pv rv bvs' pbs ovs { s with buf := (tryP caps s.buf o waited).2 } → Only bufW own H H' →
    Q (.tuple [i64 (tryP caps s.buf o waited).1.1, i64 (tryP caps s.buf o waited).1.2.1, .bool (tryP caps s.buf o waited).1.2.2]) H') → Ret F fl f [.ptr sb 0, .agg (opC w o), i64 waited] H Q
theorem try_c {f n1 : Nat} (hF : F f = some (rf_deadline_system_try n1)) (h1 : RecvC F n1) : TryC F f := fun {fl H0 caps own H sb bb cv pv rv bvs pbs ovs s Q o w waited} h hfl hw hcode hsm hq => by
  obtain ⟨⟨k1, k2⟩, c1, c2, c3⟩ := code_ok hcode
  refine v_deadline_system_try hF _ _ _ _ _ _ _ _ ?_
  intro H8 d8
  have k8 := d8.keep
  have h8 := h.keep k8
  have same : (tryP caps s.buf o waited).2 = s.buf → ∀ H', Keep H8.length H8 H' → Q (.tuple [i64 (tryP caps s.buf o waited).1.1, i64 (tryP caps s.buf o waited).1.2.1, .bool (tryP caps s.buf o waited).1.2.2]) H' := fun e H' k => by
    refine hq own H' bvs (fun _ _ => rfl) ?_ (Only.of (k8.call k))
    rw [e]; exact h8.keep k
  refine ⟨fun e1 => ?_, fun n1' => ⟨fun e2 => ?_, fun n2 => ⟨fun e3 => ?_, fun n3 => ?_⟩⟩⟩
  · -- send
    obtain ⟨b0, b1⟩ := c1 (by omega)
    obtain ⟨c, hc⟩ := Int.eq_ofNat_of_zero_le b0
    have hcl : c < bvs.length := by omega
    have hcc : c < caps.length := by rw [← h.clen]; exact hcl
    have hv : bvs[c]? = some bvs[c] := List.getElem?_eq_getElem hcl
    have hcb : c < s.buf.length := by rw [h.blen]; exact hcl
    have hl : s.buf[c]? = some s.buf[c] := List.getElem?_eq_getElem hcb
    have hgr := h8.buf c _ _ hv hl
    have l3 := h8.sys.load (o := 1) (x := .slice bb 0 bvs.length (some bvs.length)) rfl
    have l4 := h8.sys.load (o := 0) (x := cv) rfl
    have g4 := box_get h8.bufs hv
    have cap := (h.cap.keep h8.k).int hcc
    have gb : s.buf.getD o.c.toNat [] = s.buf[c] := by rw [hc, Int.toNat_natCast, List.getD_eq_getElem?_getD, hl]; rfl
    have gc : caps.getD o.c.toNat 0 = caps[c] := by rw [hc, Int.toNat_natCast, List.getD_eq_getElem?_getD, List.getElem?_eq_getElem hcc]; rfl
    rw [hc]
    refine ⟨_, l3, _, g4, _, hgr.sl.len, _, l4, _, cap, fun hfull => ?_, fun hroom => ⟨_, l3, _, l3, _, g4, ?_⟩⟩
    · have e : tryP caps s.buf o waited = ((0, 0, false), s.buf) := by unfold tryP; rw [if_pos e1, gb, gc, if_pos hfull]
      have := same (by rw [e]) H8 (Keep.refl _)
      rw [e] at this; exact this
    · have e : tryP caps s.buf o waited = ((o.c, o.v, true), s.buf.set c (s.buf[c] ++ [o.v])) := by unfold tryP; rw [if_pos e1, gb, gc, if_neg hroom, hc, Int.toNat_natCast]
      intro b20 H21 n20
      have k21 := n20.keep
      have h21 := h8.keep k21
      have hgr21 := h21.buf c _ _ hv hl
      have hl4 : s.buf[c].length ≤ 4 := hsm _ (List.getElem_mem hcb)
      obtain ⟨a22, H23, p1, p2, p3, p4, p5⟩ := Gr.pushB (fl := fl) (free := false) (bytes := 8) hgr21 (n20.sl (n := 1) rfl) (Nat.le_trans h21.k.low h21.k.len) hfl rfl (by omega) (by decide)
      refine ⟨a22, H23, p1, bb, c, box_ptr hcl, ?_⟩
      have hnb : ∀ b, At bvs[c] b → b ≠ bb := fun b hb' e => by
        have := h.oBuf c _ b hv hb'
        rw [e, h.oBufs.1] at this; cases this
      have hbx : Box H23 bb bvs := h21.bufs.frame (p4 bb h21.bufs.lt fun ha => hnb bb ha rfl)
      obtain ⟨H26, q1, q2, q3⟩ := hbx.put (fl := fl) (v := a22) (n := 1) (o := c) (by rw [p2.sl.scal.1]; rfl) (by omega) (by rw [p2.sl.scal.1, List.all_cons, p2.sl.scal.2]; rfl) (Nat.le_trans hfl h.oBufs.2)
      rw [p2.sl.scal.1, splice_one hcl] at q2
      refine ⟨H26, q1, ?_⟩
      have kH : ∀ x, x < H.length → H21[x]? = H[x]? := fun x hx => by rw [k21.get x (Nat.lt_of_lt_of_le hx k8.len), k8.get x hx]
      have hlen21 : H.length ≤ H21.length := Nat.le_trans k8.len k21.len
      have key := h21.setBuf (H1 := H23) (H' := H26) (own' := fun x => if x < H21.length then own x else some (.buf c)) (c := c) (w := a22) (l := s.buf[c] ++ [o.v]) hcl (fun x hx => if_pos hx) (fun b hb' => if_neg (by have := p5 b hb'; omega)) (by simpa [ints] using p2)
        ⟨h.k.low, Nat.le_trans (Nat.le_trans h.k.len hlen21) p3, fun x hx => by
          have hxH : x < H.length := Nat.lt_of_lt_of_le hx h.k.len
          rw [p4 x (Nat.lt_of_lt_of_le hxH hlen21) fun ha => by have := (hgr21.at_lt ha).1; omega, kH x hxH, h.k.get x hx]⟩
        (fun x hx hn => p4 x hx (hn _ hv)) q2 q3
      have := hq (fun x => if x < H21.length then own x else some (.buf c)) H26 (bvs.set c a22) (fun x hx => if_pos (Nat.lt_of_lt_of_le hx hlen21)) (by rw [e]; exact key) ⟨by rw [q3.len]; omega, fun x hx hn => by
        rw [q3.get x fun e' => hn .bufs (by rw [e']; exact h.oBufs.1) (.inl rfl), p4 x (Nat.lt_of_lt_of_le hx hlen21) fun ha => hn _ (h.oBuf c _ x hv ha) (.inr ⟨c, rfl⟩), kH x hx]⟩
      rw [e, hc] at this
      exact this
  · -- receive
    obtain ⟨b0, b1⟩ := c1 (by omega)
    obtain ⟨c, hc⟩ := Int.eq_ofNat_of_zero_le b0
    have hcl : c < bvs.length := by omega
    rw [hc]
    refine h1 (c := c) h8 hfl hcl (fun hn => ⟨_, _, _, rfl, ?_⟩) (fun v b H' bvs' hs st on => ⟨_, _, _, rfl, ?_⟩)
    · have e : tryP caps s.buf o waited = ((0, 0, false), s.buf) := by unfold tryP; rw [if_neg n1', if_pos e2, hc, hn]
      have := same (by rw [e]) H8 (Keep.refl _)
      rw [e] at this; exact this
    · have e : tryP caps s.buf o waited = ((o.c, v, true), b) := by unfold tryP; rw [if_neg n1', if_pos e2]; simp only [hc, hs]
      have := hq own H' bvs' (fun _ _ => rfl) (by rw [e]; exact st) (on.trans k8)
      rw [e, hc] at this; exact this
  · -- select
    obtain ⟨c20, c21, c22, c23⟩ := c2 e3
    have hw8 := hw.keep h8.k
    refine ⟨_, hw8.len, fun m v H' => ∃ j : Nat, v = j ∧ j + m = o.cs.length ∧ Keep H8.length H8 H' ∧ firstP s.buf o.cs = firstP s.buf (o.cs.drop j), o.cs.length, ⟨0, rfl, by omega, Keep.refl _, by rw [List.drop_zero]⟩, ?_⟩
    rintro m _ H46 ⟨j, rfl, hm, hk, he⟩
    refine ⟨fun hlt => ?_, fun hge => ?_⟩
    · have hj : j < o.cs.length := by omega
      rw [List.drop_eq_getElem_cons hj, firstP] at he
      obtain ⟨b0, b1⟩ := c20 _ (List.getElem_mem hj)
      obtain ⟨c, hc⟩ := Int.eq_ofNat_of_zero_le b0
      have hcl : c < bvs.length := by omega
      refine ⟨_, (hw8.keep hk).int hj, ?_⟩
      rw [hc] at he ⊢
      refine h1 (c := c) (h8.keep hk) hfl hcl (fun hn => ⟨_, _, _, rfl, fun h => (by cases h), fun _ => ⟨m - 1, by omega, j + 1, wsucc hj hw.small, by omega, hk, ?_⟩⟩) (fun v b H' bvs' hs st on => ⟨_, _, _, rfl, fun _ => ?_, fun h => absurd rfl h⟩)
      · rw [he, hn]
      · rw [hs] at he
        have e : tryP caps s.buf o waited = (((c : Int), v, true), b) := by unfold tryP; rw [if_neg n1', if_neg n2, if_pos e3, he]
        have := hq own H' bvs' (fun _ _ => rfl) (by rw [e]; exact st) (on.trans (k8.call hk))
        rw [e] at this; exact this
    · rw [List.drop_eq_nil_of_le (by omega), firstP] at he
      have e : tryP caps s.buf o waited = ((-1, 0, decide (o.w ≥ 0) && decide (waited ≥ o.w)), s.buf) := by unfold tryP; rw [if_neg n1', if_neg n2, if_pos e3, he]
      have := same (by rw [e]) H46 hk
      rw [e] at this; exact this
  · have e : tryP caps s.buf o waited = ((-1, 0, decide (waited ≥ o.w)), s.buf) := by unfold tryP; rw [if_neg n1', if_neg n2, if_neg n3]
    have := same (by rw [e]) H8 (Keep.refl _)
    rw [e] at this; exact this

end De
end Go.RM

/-
  The order of a tick: a stable sort of pointers.
-/
namespace Go.RM
set_option linter.unusedSimpArgs false
set_option linter.unusedVariables false
namespace De
variable {F : Nat → Option RFunc}

/-! ### Insertion, in plain terms -/

def Srt (key : Nat → Int) : List Nat → Prop
  | [] => True
  | x :: l => (∀ y ∈ l, key x ≤ key y) ∧ Srt key l

theorem insP_mem {key : Nat → Int} {x y : Nat} {l : List Nat} : y ∈ insP key x l ↔ y = x ∨ y ∈ l := by
  induction l with
  | nil => simp [insP]
  | cons z l ih =>
    rw [insP]
    split
    · simp
    · simp only [List.mem_cons, ih]
      constructor
      · rintro (h | h | h)
        · exact .inr (.inl h)
        · exact .inl h
        · exact .inr (.inr h)
      · rintro (h | h | h)
        · exact .inr (.inl h)
        · exact .inl h
        · exact .inr (.inr h)

theorem insP_srt {key : Nat → Int} {x : Nat} {l : List Nat} (h : Srt key l) : Srt key (insP key x l) := by
  induction l with
  | nil => exact ⟨fun y hy => (by cases hy), trivial⟩
  | cons z l ih =>
    rw [insP]
    split
    · rename_i hlt
      refine ⟨fun y hy => ?_, h⟩
      rcases List.mem_cons.1 hy with rfl | hy
      · omega
      · have := h.1 y hy; omega
    · rename_i hge
      refine ⟨fun y hy => ?_, ih h.2⟩
      rcases insP_mem.1 hy with rfl | hy
      · omega
      · exact h.1 y hy

theorem insP_len {key : Nat → Int} {x : Nat} {l : List Nat} : (insP key x l).length = l.length + 1 := by
  induction l with
  | nil => rfl
  | cons z l ih => rw [insP]; split <;> simp [ih]

/-- Where it is put. -/
theorem insP_at {key : Nat → Int} {x : Nat} : ∀ {l : List Nat} {p : Nat}, p ≤ l.length → (∀ y ∈ l.take p, ¬ key x < key y) → (∀ y ∈ l.drop p, key x < key y) → insP key x l = l.take p ++ x :: l.drop p
  | [], p, _, _, _ => by simp [insP]
  | z :: l, 0, _, _, h2 => by
    rw [insP, if_pos (h2 z (by simp))]; rfl
  | z :: l, p + 1, hp, h1, h2 => by
    rw [insP, if_neg (h1 z (by simp)), insP_at (p := p) (by simpa using hp) (fun y hy => h1 y (by simp [hy])) (fun y hy => h2 y (by simpa using hy))]
    rfl

theorem sort_snoc {key : Nat → Int} {l : List Nat} {x : Nat} : sortP key (l ++ [x]) = insP key x (sortP key l) := by
  unfold sortP; rw [List.foldl_append]; rfl

theorem sortP_all {key : Nat → Int} (l : List Nat) : Srt key (sortP key l) ∧ (sortP key l).length = l.length ∧ ∀ y, y ∈ sortP key l ↔ y ∈ l := by
  have : ∀ n, n ≤ l.length → Srt key (sortP key (l.take n)) ∧ (sortP key (l.take n)).length = n ∧ ∀ y, y ∈ sortP key (l.take n) ↔ y ∈ l.take n := by
    intro n
    induction n with
    | zero => intro _; exact ⟨trivial, rfl, fun y => by simp [sortP]⟩
    | succ n ih =>
      intro hn
      obtain ⟨a, b, c⟩ := ih (by omega)
      rw [List.take_succ_eq_append_getElem (by omega), sort_snoc]
      refine ⟨insP_srt a, by rw [insP_len, b], fun y => ?_⟩
      rw [insP_mem, c, List.mem_append, List.mem_singleton, or_comm]
  have h := this l.length (Nat.le_refl _)
  rw [List.take_length] at h
  exact h

theorem srt_take {key : Nat → Int} : ∀ {l : List Nat} {p : Nat} {b : Int}, Srt key l → (h : p < l.length) → ¬ b < key l[p] → ∀ y ∈ l.take (p + 1), ¬ b < key y
  | [], _, _, _, h, _ => by simp at h
  | z :: l, 0, b, _, _, hb => fun y hy => by
    simp at hy; subst hy; exact hb
  | z :: l, p + 1, b, hs, h, hb => fun y hy => by
    have hp : p < l.length := by simpa using h
    rw [List.take_succ_cons] at hy
    rcases List.mem_cons.1 hy with e | hy
    · have h1 := hs.1 l[p] (List.getElem_mem hp)
      have h2 : ¬ b < key l[p] := hb
      rw [e]; omega
    · exact srt_take hs.2 hp hb y hy

/-! ### Comparisons -/

abbrev CmpC (F : Nat → Option RFunc) (f : Nat) : Prop := ∀ {fl H Q x y}, (∀ r : Int, (r < 0 ↔ x < y) → Q (i64 r) H) → Ret F fl f [i64 x, i64 y] H Q
theorem compare_c {f n1 : Nat} (hF : F f = some (rf_cmp_Compare_int n1)) (h1 : F n1 = some rf_cmp_isNaN_int) : CmpC F f := fun {fl H Q x y} hq => by
  refine v_cmp_Compare_int hF _ _ ?_
  refine v_cmp_isNaN_int h1 _ ?_
  refine ⟨_, rfl, ?_⟩
  refine v_cmp_isNaN_int h1 _ ?_
  refine ⟨_, rfl, fun h => by simp at h, fun _ => ⟨fun h => by simp at h, fun _ => ⟨fun h => hq _ (by omega), fun h => ⟨fun h2 => hq _ (by omega), fun h2 => hq _ (by omega)⟩⟩⟩⟩

end De
end Go.RM

