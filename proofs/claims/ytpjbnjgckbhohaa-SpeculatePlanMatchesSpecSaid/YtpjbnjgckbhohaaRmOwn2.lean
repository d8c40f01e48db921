import Derived.Test.YtpjbnjgckbhohaaSlcW
/-
  Owned slices of structs: an element's cells read and written, one taken out, one put in.
-/
namespace Go.RM
set_option linter.unusedVariables false
set_option linter.unusedSimpArgs false

/-- v[1:] -/
theorem Own.tail {n m e : Nat} {H : Heap} {cs : List AV} {v : AV} (he : 0 < e) (h : Own n H e v (m + 1) cs) : ∃ w, rslice H e v (some (.int .i64 1)) none none = some w ∧ Own n H e w m (cs.drop e) ∧ (∀ b, At w b → At v b) ∧ ((∀ b off k lim, v = .slice b off k lim → lim = none) → ∀ b off k lim, w = .slice b off k lim → lim = none) := by
  rcases h.out with ⟨_, h0, _⟩ | ⟨b, off, lim, k, rfl, h2, h3, h4, h5, h6, h7, ⟨q, h9⟩, h8⟩
  · omega
  have hm1 : (m + 1) * e = m * e + e := Nat.succ_mul _ _
  have hem : (H[b]?).map (·.e) = some e := by rw [h3]; simp [h5]
  have hml : m + 1 ≤ lim.getD (m + 1) := by cases lim with | none => exact Nat.le_refl _ | some c => exact (h8 c rfl).1
  refine ⟨.slice b (off + 1 * e) (m + 1 - 1) (if lim.isSome then some (lim.getD (m + 1) - 1) else none), ?_, ⟨by have := h.small; omega, .inr ⟨b, off + 1 * e, _, k, rfl, h2, h3, h4, h5, by omega, ?_, ?_, ?_⟩⟩, fun b' hb' => by have := at_slice.same hb'; subst this; exact at_slice, fun hn b' off' k' lim' hw => ?_⟩
  · simp only [rslice, bound_int (n := 1), show boundOf none (m + 1) = some (m + 1) from rfl, show boundOf none (lim.getD (m + 1)) = some (lim.getD (m + 1)) from rfl]
    have : boundOf (some (.int .i64 1)) 0 = some 1 := bound_int (n := 1) 0
    rw [this]
    simp only
    rw [if_pos ⟨by omega, .inl hml, Nat.le_refl _, .inr hem⟩]
    simp
  · rw [h7, List.drop_take, List.drop_drop, Nat.one_mul]; congr 1; omega
  · have hq : (m + 1) * e ≤ q * e := by omega
    have hq2 := Nat.le_of_mul_le_mul_right hq he
    exact ⟨q - 1, by rw [Nat.sub_mul, Nat.one_mul]; omega⟩
  · intro c hc
    cases lim with
    | none => simp at hc
    | some c0 =>
      obtain ⟨x1, x2⟩ := h8 c0 rfl
      simp at hc
      subst hc
      refine ⟨by omega, ?_⟩
      rw [Nat.sub_mul, Nat.one_mul]
      have : e ≤ c0 * e := by
        have := Nat.mul_le_mul_right e (show 1 ≤ c0 by omega)
        rwa [Nat.one_mul] at this
      omega
  · have := hn _ _ _ _ rfl
    subst this
    cases hw; rfl

/-- A slice whose capacity is not known. -/
abbrev NoLim (v : AV) : Prop := ∀ b off k lim, v = .slice b off k lim → lim = none

/-- slices.Insert of one element. -/
theorem Own.insert {n m e bytes i : Nat} {H H1 : Heap} {cs ys : List AV} {v : AV} {fl vb : Nat} (he : 0 < e) (h : Own n H e v m cs) (hl : NoLim v) (hy : NewB H e ys vb H1) (hyl : ys.length = e) (hys : ys.all AV.scalar = true) (hs : cs.all AV.scalar = true)
    (hn : n ≤ H.length) (hi : i ≤ m) (hfl : fl ≤ n) (hlen : m ≤ 2 ^ 20) (hb : bytes ≤ 4096) :
    ∃ w H', rinsert fl e bytes H1 v (i : Int) (.slice vb 0 1 (some 1)) = some (w, H') ∧ Own n H' e w (m + 1) (cs.take (i * e) ++ ys ++ cs.drop (i * e)) ∧ NoLim w ∧ H1.length ≤ H'.length ∧ (∀ b, b < H1.length → ¬ At v b → H'[b]? = H1[b]?) ∧ (∀ b, At w b → At v b ∨ H1.length ≤ b) := by
  have h1 := h.keep hy.keep
  have hvb : vb = H.length := hy.b_eq
  have hlt := hy.lt
  have hgv := hy.get
  have hblkv : H1.blk vb = some { cells := ys, e := e } := by simp [Heap.blk, hgv]
  have hcell : sliceCells H1 e 1 (.slice vb 0 1 (some 1)) = some ys := by
    show (if (1 : Nat) = 0 then some [] else if (1 : Nat) < 1 then none else match H1.act vb with | some k => if 0 + 1 * e ≤ k.cells.length then some ((k.cells.drop 0).take (1 * e)) else none | none => none) = _
    rw [if_neg (by decide), if_neg (by decide), act_live hgv rfl]
    simp only [Nat.one_mul, Nat.zero_add, List.drop_zero]
    rw [if_pos (by omega), List.take_of_length_le (by omega)]
  have hbig : (m + 1 + (m + 1) / 4 + 192) * bytes ≤ 2 ^ 46 := by
    have h1 : m + 1 + (m + 1) / 4 + 192 ≤ 2 ^ 22 := by omega
    calc _ ≤ 2 ^ 22 * 4096 := Nat.mul_le_mul h1 hb
      _ ≤ 2 ^ 46 := by decide
  unfold rinsert
  simp only [hcell, hblkv]
  rw [if_pos ⟨by decide, he, by omega⟩]
  have q1 : (m + 1) * e = m * e + e := Nat.succ_mul _ _
  have q0 : i * e ≤ m * e := Nat.mul_le_mul_right _ hi
  rcases h1.out with ⟨rfl, rfl, rfl⟩ | ⟨b, off, lim, k, rfl, h2, h3, h4, h5, h6, h7, ⟨q, h9⟩, h8⟩
  · have hi0 : i = 0 := by omega
    subst hi0
    simp only
    rw [if_pos ⟨rfl, by omega, by decide⟩]
    refine ⟨_, _, rfl, ⟨by omega, .inr ⟨H1.length, 0, none, { cells := ys, e := e }, rfl, Nat.le_trans hn hy.keep.len, snoc_end _ _, rfl, rfl, by simp [hyl], ?_, ⟨1, by simp [hyl]⟩, fun c hc => by cases hc⟩⟩, fun b off k lim hw => by cases hw; rfl, by simp, fun b hb _ => List.getElem?_append_left hb, fun b hb => .inr (Nat.le_of_eq (at_slice.same hb))⟩
    simp only [List.take_nil, List.drop_nil, List.nil_append, List.append_nil, List.drop_zero, Nat.zero_add, Nat.one_mul]
    rw [← hyl, List.take_length]
  · have := hl _ _ _ _ rfl
    subst this
    have hbv : b ≠ vb := by
      have := (h.at_lt (at_slice (b := b))).2
      omega
    have hblk : H1.blk b = some k := by simp [Heap.blk, h3, h4]
    have hbl := get_lt h3
    have hts : ((k.cells.drop (off + i * e)).take ((m - i) * e)).all AV.scalar = true := by
      rw [List.all_eq_true] at hs ⊢
      intro x hx
      refine hs x ?_
      rw [h7]
      have e1 : (k.cells.drop (off + i * e)).take ((m - i) * e) = ((k.cells.drop off).take (m * e)).drop (i * e) := by rw [List.drop_take, List.drop_drop, Nat.sub_mul]
      rw [e1] at hx
      exact List.mem_of_mem_drop hx
    simp only [hblk, Int.toNat_natCast]
    rw [if_pos ⟨by omega, hbv, h5, by omega, by omega, h6, hys, hts, hbig, by omega⟩]
    have hcsl : cs.length = m * e := by rw [h7, List.length_take, List.length_drop]; omega
    by_cases hfull : off + m * e = k.cells.length
    · rw [if_pos hfull]
      have hcs : cs = k.cells.drop off := by rw [h7, List.take_of_length_le]; rw [List.length_drop]; omega
      have hcd : k.cells.drop (off + i * e) = cs.drop (i * e) := by rw [hcs, List.drop_drop]
      refine ⟨_, _, rfl, ⟨by have := h.small; omega, .inr ⟨H1.length, 0, none, { cells := (k.cells.drop off).take (i * e) ++ ys ++ k.cells.drop (off + i * e), e := e }, rfl, Nat.le_trans hn hy.keep.len, ?_, rfl, rfl, ?_, ?_, ⟨m + 1, ?_⟩, fun c hc => by cases hc⟩⟩, fun b off k lim hw => by cases hw; rfl, by simp, fun b' hb' hne => ?_, fun b hb => .inr (Nat.le_of_eq (at_slice.same hb))⟩
      · rw [List.getElem?_append_right (by simp)]; simp
      · rw [hcd, ← hcs]; simp only [List.length_append, List.length_take, List.length_drop]; omega
      · rw [hcd, ← hcs, List.drop_zero]
        exact (List.take_of_length_le (by simp only [List.length_append, List.length_take, List.length_drop]; omega)).symm
      · rw [hcd, ← hcs]; simp only [List.length_append, List.length_take, List.length_drop]; omega
      · have : b' ≠ b := fun e => hne (by rw [e]; exact at_slice)
        rw [List.getElem?_append_left (by simpa using hb'), List.getElem?_set_ne (Ne.symm this)]
    · rw [if_neg hfull]
      have hq : m * e < q * e := by omega
      have hq2 : m < q := Nat.lt_of_mul_lt_mul_right hq
      have hq3 : (m + 1) * e ≤ q * e := Nat.mul_le_mul_right e hq2
      have q2 : (i + 1) * e = i * e + e := Nat.succ_mul _ _
      have q3 : (m - i) * e = m * e - i * e := Nat.sub_mul _ _ _
      generalize hT : (k.cells.drop (off + i * e)).take ((m - i) * e) = T at hts
      have hTl : T.length = m * e - i * e := by rw [← hT, List.length_take, List.length_drop]; omega
      have hq9 : (m + 1) * e ≤ k.cells.length - off := by omega
      have hf1 : off + (i + 1) * e + T.length ≤ k.cells.length := by rw [hTl, q2]; omega
      have p1 := rput_ok (fl := fl) (o := off + (i + 1) * e) (ws := T) h3 h4 (by omega) hf1 hts
      have hl1 : (splice k.cells (off + (i + 1) * e) T).length = k.cells.length := splice_len (by omega)
      have p2 := rput_ok (H := H1.set b { k with cells := splice k.cells (off + (i + 1) * e) T, clean := false }) (fl := fl) (b := b) (o := off + i * e) (k := { k with cells := splice k.cells (off + (i + 1) * e) T, clean := false }) (ws := ys) (List.getElem?_set_self hbl) h4 (by omega) (by show _ ≤ (splice k.cells (off + (i + 1) * e) T).length; omega) hys
      rw [p1]
      simp only [Option.bind_some]
      rw [p2]
      simp only [Option.map_some, List.set_set]
      have hfin : (splice (splice k.cells (off + (i + 1) * e) T) (off + i * e) ys).length = k.cells.length := by rw [splice_len (by omega)]; exact hl1
      refine ⟨_, _, rfl, ⟨by have := h.small; omega, .inr ⟨b, off, none, _, rfl, h2, List.getElem?_set_self hbl, h4, h5, ?_, ?_, ⟨q, ?_⟩, fun c hc => by cases hc⟩⟩, fun b off k lim hw => by cases hw; rfl, by simp, fun b' hb' hne => ?_, fun b' hb' => .inl ?_⟩
      · show _ ≤ (splice (splice k.cells (off + (i + 1) * e) T) (off + i * e) ys).length
        omega
      · show _ = ((splice (splice k.cells (off + (i + 1) * e) T) (off + i * e) ys).drop off).take ((m + 1) * e)
        have hTd : cs.drop (i * e) = T := by rw [← hT, h7, List.drop_take, List.drop_drop, Nat.sub_mul]
        rw [hTd]
        apply List.ext_getElem?
        intro j
        by_cases hj : j < (m + 1) * e
        · rw [List.getElem?_take_of_lt hj, List.getElem?_drop, splice_get (by omega), splice_get (by omega)]
          by_cases h1 : j < i * e
          · rw [if_neg (by omega), if_neg (by omega), List.append_assoc, List.getElem?_append_left (by rw [List.length_take]; omega), List.getElem?_take_of_lt h1, h7, List.getElem?_take_of_lt (by omega), List.getElem?_drop]
          · by_cases h2 : j < i * e + e
            · rw [if_pos (by omega), List.getElem?_append_left (by rw [List.length_append, List.length_take]; omega), List.getElem?_append_right (by rw [List.length_take]; omega)]
              congr 1; rw [List.length_take]; omega
            · rw [if_neg (by omega), if_pos (by omega), List.getElem?_append_right (by rw [List.length_append, List.length_take]; omega)]
              congr 1; rw [List.length_append, List.length_take]; omega
        · rw [List.getElem?_eq_none (by simp only [List.length_append, List.length_take]; omega), List.getElem?_eq_none (by rw [List.length_take]; omega)]
      · show (splice (splice k.cells (off + (i + 1) * e) T) (off + i * e) ys).length = _
        omega
      · have : b' ≠ b := fun e => hne (by rw [e]; exact at_slice)
        rw [List.getElem?_set_ne (Ne.symm this)]
      · have := at_slice.same hb'
        subst this; exact at_slice

end Go.RM
namespace Go.RM
set_option linter.unusedVariables false

/-- An element's cells, read and written. -/
theorem Own.elem {n m e : Nat} {H : Heap} {cs : List AV} {v : AV} (h : Own n H e v m cs) {i : Nat} (hi : i < m) :
    ∃ b o, ptrA e v (i : Int) = some (b, o) ∧ At v b ∧ n ≤ b ∧
      (∀ o' x, o' < e → cs[i * e + o']? = some x → rload H none b (o + o') = some x) ∧
      (∀ fl o' k w, fl ≤ n → w.cells.length = k → o' + k ≤ e → w.cells.all AV.scalar = true → ∃ H', putA fl H b (o + o') k w = some H' ∧ Own n H' e v m (splice cs (i * e + o') w.cells) ∧ KeepX b H H') := by
  rcases h.out with ⟨_, h0, _⟩ | ⟨b, off, lim, k, rfl, h2, h3, h4, h5, h6, h7, ⟨q, h9⟩, h8⟩
  · omega
  have m1 : (i + 1) * e = i * e + e := Nat.succ_mul _ _
  have m3 : (i + 1) * e ≤ m * e := Nat.mul_le_mul_right _ hi
  refine ⟨b, off + i * e, ?_, at_slice, h2, fun o' x ho hx => ?_, fun fl o' kk w hfl hk hok hs => ?_⟩
  · show (if (0 : Int) ≤ i ∧ (i : Int) < m then some (b, off + (i : Int).toNat * e) else none) = _
    rw [if_pos (by omega), Int.toNat_natCast]
  · unfold rload
    rw [act_live h3 h4]
    simp only
    rw [h7, List.getElem?_take_of_lt (by omega), List.getElem?_drop] at hx
    rw [← hx, Nat.add_assoc]
  · have hput := rput_ok (fl := fl) (o := off + i * e + o') (ws := w.cells) h3 h4 (by omega) (by omega) hs
    refine ⟨H.set b { k with cells := splice k.cells (off + i * e + o') w.cells, clean := false }, by unfold putA; rw [if_pos hk, hput], ⟨h.small, .inr ⟨b, off, lim, { k with cells := splice k.cells (off + i * e + o') w.cells, clean := false }, rfl, h2, List.getElem?_set_self (get_lt h3), h4, h5, ?_, ?_, ⟨q, ?_⟩, fun c hc => ?_⟩⟩, ⟨by simp, fun b' hne => by rw [List.getElem?_set_ne (Ne.symm hne)]⟩⟩
    · show _ ≤ (splice k.cells (off + i * e + o') w.cells).length
      rw [splice_len (by omega)]; exact h6
    · show _ = ((splice k.cells (off + i * e + o') w.cells).drop off).take (m * e)
      have hcl : cs.length = m * e := by rw [h7, List.length_take, List.length_drop]; omega
      apply List.ext_getElem?
      intro j
      by_cases hj : j < m * e
      · rw [List.getElem?_take_of_lt hj, List.getElem?_drop, splice_get (by omega), splice_get (by omega)]
        by_cases h1 : i * e + o' ≤ j ∧ j < i * e + o' + w.cells.length
        · rw [if_pos h1, if_pos (by omega)]; congr 1; omega
        · rw [if_neg h1, if_neg (by omega), h7, List.getElem?_take_of_lt hj, List.getElem?_drop]
      · rw [List.getElem?_eq_none (by rw [splice_len (by omega)]; omega), List.getElem?_eq_none (by rw [List.length_take]; omega)]
    · show (splice k.cells (off + i * e + o') w.cells).length = _
      rw [splice_len (by omega)]; exact h9
    · obtain ⟨x1, x2⟩ := h8 c hc
      refine ⟨x1, ?_⟩
      show _ ≤ (splice k.cells (off + i * e + o') w.cells).length
      rw [splice_len (by omega)]; exact x2

/-- The same of a list of structs. -/
theorem Own.elemR {n m e : Nat} {H : Heap} {css : List (List AV)} {v : AV} (h : Own n H e v m css.flatten) (hl : ∀ c ∈ css, c.length = e) (hm : css.length = m) {i : Nat} (hi : i < css.length) :
    ∃ b o, ptrA e v (i : Int) = some (b, o) ∧ At v b ∧ n ≤ b ∧
      (∀ o' x, (css[i])[o']? = some x → rload H none b (o + o') = some x) ∧
      (∀ fl o' k w, fl ≤ n → w.cells.length = k → o' + k ≤ e → w.cells.all AV.scalar = true → ∃ H', putA fl H b (o + o') k w = some H' ∧ Own n H' e v m (css.set i (splice css[i] o' w.cells)).flatten ∧ KeepX b H H') := by
  obtain ⟨b, o, h1, h2, h3, h4, h5⟩ := h.elem (i := i) (by omega)
  have hc : css[i]? = some css[i] := List.getElem?_eq_getElem hi
  refine ⟨b, o, h1, h2, h3, fun o' x hx => ?_, fun fl o' k w hfl hk hok hs => ?_⟩
  · have ho : o' < e := by
      rw [← hl css[i] (List.getElem_mem hi)]
      rcases Nat.lt_or_ge o' css[i].length with h | h
      · exact h
      · rw [List.getElem?_eq_none h] at hx; cases hx
    exact h4 o' x ho (by rw [flat_get hl hc ho]; exact hx)
  · obtain ⟨H', a1, a2, a3⟩ := h5 fl o' k w hfl hk hok hs
    refine ⟨H', a1, ?_, a3⟩
    rw [flat_splice hl hc (by omega)] at a2
    exact a2

end Go.RM

/-
  append([]T(nil), l...) gives a list of one's own.
-/
namespace Go.RM
set_option linter.unusedVariables false
set_option linter.unusedSimpArgs false

end Go.RM

/-
  Slices that are built and read from the front: their first element is dropped, one is appended in a block of its own.
-/
namespace Go.RM
set_option linter.unusedVariables false
set_option linter.unusedSimpArgs false

theorem Gr.frame {n e m : Nat} {H H' : Heap} {v : AV} {cs : List AV} (h : Gr n H e v m cs) (hf : ∀ b, At v b → H'[b]? = H[b]?) : Gr n H' e v m cs := by
  rcases h.out with g | ⟨b, off, lim, k, rfl, h2, h3, h4⟩
  · exact ⟨h.small, .inl g⟩
  · exact ⟨h.small, .inr ⟨b, off, lim, k, rfl, h2, by rw [hf b at_slice]; exact h3, h4⟩⟩
theorem Gr.at_lt {n e m : Nat} {H : Heap} {v : AV} {cs : List AV} {b : Nat} (h : Gr n H e v m cs) (ha : At v b) : n ≤ b ∧ b < H.length := by
  rcases h.out with ⟨rfl, _⟩ | ⟨b', off, lim, k, rfl, h2, h3, h4⟩
  · exact absurd ha at_empty
  · have := ha.same at_slice
    subst this
    exact ⟨h2, get_lt h3⟩
theorem Gr.nil {n e : Nat} {H : Heap} : Gr n H e .empty 0 [] := ⟨Nat.zero_le _, .inl ⟨rfl, rfl, rfl⟩⟩

/-- The rest of a slice. -/
theorem Gr.tail {n m e : Nat} {H : Heap} {cs : List AV} {v : AV} (he : 0 < e) (h : Gr n H e v (m + 1) cs) : ∃ w, rslice H e v (some (.int .i64 1)) none none = some w ∧ Gr n H e w m (cs.drop e) ∧ (∀ b, At w b → At v b) := by
  rcases h.out with ⟨_, h0, _⟩ | ⟨b, off, lim, k, rfl, h2, h3, h4, h5, h6, h7, h8⟩
  · omega
  have m1 : (m + 1) * e = m * e + e := Nat.succ_mul _ _
  refine ⟨.slice b (off + 1 * e) (m + 1 - 1) (if lim.isSome then some (lim.getD (m + 1) - 1) else none), ?_, ⟨by have := h.small; omega, .inr ⟨b, off + 1 * e, _, k, rfl, h2, h3, h4, h5, by omega, ?_, ?_⟩⟩, fun b' hb => ?_⟩
  · have hc : 1 ≤ m + 1 ∧ (m + 1 ≤ lim.getD (m + 1) ∨ upB H e b off (m + 1) (some (.int .i64 1)) none none lim = true) ∧ lim.getD (m + 1) ≤ lim.getD (m + 1) ∧ (1 = 0 ∨ (H[b]?).map (·.e) = some e) := by
      refine ⟨by omega, .inl ?_, Nat.le_refl _, .inr (by rw [h3]; simp [h5])⟩
      rcases h8 with ⟨rfl, _⟩ | rfl <;> exact Nat.le_refl _
    show (if 1 ≤ m + 1 ∧ (m + 1 ≤ lim.getD (m + 1) ∨ upB H e b off (m + 1) (some (.int .i64 1)) none none lim = true) ∧ lim.getD (m + 1) ≤ lim.getD (m + 1) ∧ (1 = 0 ∨ (H[b]?).map (·.e) = some e) then some (AV.slice b (off + 1 * e) (m + 1 - 1) (if false || lim.isSome then some (lim.getD (m + 1) - 1) else none)) else none) = _
    rw [if_pos hc]; rfl
  · rw [h7, List.drop_take, List.drop_drop]
    congr 1
    · omega
    · congr 1; omega
  · rcases h8 with ⟨rfl, h8⟩ | rfl
    · exact .inl ⟨rfl, by omega⟩
    · exact .inr rfl
  · obtain ⟨_, _, _, hh⟩ := hb
    cases hh
    exact at_slice

end Go.RM

