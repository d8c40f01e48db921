import Derived.Test.YtlofiiepmehhbaaRmLib
import Derived.Test.YtlofiiepmehhbaaRmWp
import Derived.Test.YtlofiiepmehhbaaMqW
/-
  Owned slices of structs: an element's cells read and written, one taken out, one put in.
-/
namespace Go.RM
set_option linter.unusedVariables false
set_option linter.unusedSimpArgs false

theorem del_listE {l x : List AV} {off M I E : Nat} (hi : I + E ≤ M) (hm : off + M ≤ l.length) (hx : x.length = E) :
    ((splice (splice l (off + I) ((l.drop (off + (I + E))).take (M - (I + E)))) (off + (M - E)) x).drop off).take (M - E) = ((l.drop off).take M).take I ++ ((l.drop off).take M).drop (I + E) := by
  have hysl : ((l.drop (off + (I + E))).take (M - (I + E))).length = M - (I + E) := by rw [List.length_take, List.length_drop]; omega
  have e2 : ((l.drop off).take M).drop (I + E) = (l.drop (off + (I + E))).take (M - (I + E)) := by rw [List.drop_take, List.drop_drop]
  have e1 : ((l.drop off).take M).take I = (l.take (off + I)).drop off := by
    rw [List.take_take, List.drop_take, Nat.min_eq_left (by omega), show off + I - off = I by omega]
  rw [e1, e2]
  generalize hys : (l.drop (off + (I + E))).take (M - (I + E)) = ys at hysl
  have h1 : (l.take (off + I)).length = off + I := by rw [List.length_take]; omega
  have h2 : (l.take (off + I) ++ ys).length = off + (M - E) := by rw [List.length_append, h1, hysl]; omega
  simp only [splice]
  rw [List.take_append_of_le_length (l₁ := l.take (off + I) ++ ys) (by omega), List.take_of_length_le (l := l.take (off + I) ++ ys) (by omega), List.append_assoc (l.take (off + I) ++ ys), List.drop_append_of_le_length (by omega), List.drop_append_of_le_length (l₁ := l.take (off + I)) (by omega)]
  rw [List.take_append_of_le_length (by rw [List.length_append, List.length_drop]; omega), List.take_of_length_le (by rw [List.length_append, List.length_drop]; omega)]

/-- What slices.Delete(v, k, k+1) does, of elements of e cells. -/
theorem Own.delE {n m e bytes : Nat} {H : Heap} {cs z : List AV} {v : AV} {fl i : Nat} (he : 0 < e) (h : Own n H e v m cs) (hi : i < m) (hfl : fl ≤ n) (hlen : m ≤ 2 ^ 30) (hb : bytes ≤ 4096) (hs : cs.all AV.scalar = true) (hz : z.length = e) (hzs : z.all AV.scalar = true) :
    lenA v = some m ∧ (∃ s, rslice H e v (some (.int .i64 i)) (some (.int .i64 ((i + 1 : Nat) : Int))) (some (.int .i64 (m : Int))) = some s) ∧
    ∃ s6 s7, rslice H e v none (some (.int .i64 i)) none = some s6 ∧ rslice H e v (some (.int .i64 ((i + 1 : Nat) : Int))) none none = some s7 ∧
    ∃ w H9 s11 H12, appA fl true e bytes H s6 s7 = some (w, H9) ∧ lenA w = some (m - 1) ∧ rslice H9 e w (some (.int .i64 ((m - 1 : Nat) : Int))) (some (.int .i64 (m : Int))) none = some s11 ∧
      clearA fl e z H9 s11 = some (.undef, H12) ∧ Own n H12 e w (m - 1) (cs.take (i * e) ++ cs.drop ((i + 1) * e)) ∧ H12.length = H.length ∧ (∀ b, ¬ At v b → H12[b]? = H[b]?) ∧ (∀ b, At w b → At v b) ∧ (∀ b off k lim, w = .slice b off k lim → ∃ off k, v = .slice b off k lim) := by
  rcases h.out with ⟨_, h0, _⟩ | ⟨b, off, lim, k, rfl, h2, h3, h4, h5, h6, h7, ⟨q, h9⟩, h8⟩
  · omega
  have hbl := get_lt h3
  have hcl : (k.cells.drop off).length = k.cells.length - off := List.length_drop
  have hml : m ≤ lim.getD m := by cases lim with | none => exact Nat.le_refl _ | some c => exact (h8 c rfl).1
  have hlc : off + lim.getD m * e ≤ k.cells.length := by
    cases lim with
    | none => simpa using h6
    | some c => have := (h8 c rfl).2; simpa using this
  have hem : (H[b]?).map (·.e) = some e := by rw [h3]; simp [h5]
  have b1 : ∀ (x d : Nat), boundOf (some (.int .i64 (x : Int))) d = some x := fun x d => bound_int d
  have hlim : (if lim.isSome then some (lim.getD m) else none) = lim := by cases lim <;> rfl
  have m1 : (i + 1) * e = i * e + e := Nat.succ_mul _ _
  have m2 : (m - 1) * e = m * e - e := by rw [Nat.sub_mul, Nat.one_mul]
  have m3 : (i + 1) * e ≤ m * e := Nat.mul_le_mul_right _ hi
  have m4 : (m - (i + 1)) * e = m * e - (i * e + e) := by rw [Nat.sub_mul, m1]
  have m5 : (m - 1) * e + e = m * e := by omega
  refine ⟨rfl, ⟨.slice b (off + i * e) (i + 1 - i) (some (m - i)), ?_⟩, .slice b off i lim, .slice b (off + (i + 1) * e) (m - (i + 1)) (if lim.isSome then some (lim.getD m - (i + 1)) else none), ?_, ?_, ?_⟩
  · simp only [rslice, b1]
    rw [if_pos ⟨by omega, .inl (by omega), hml, .inr hem⟩]
    simp
  · simp only [rslice, b1]
    show (if 0 ≤ i ∧ (i ≤ lim.getD m ∨ _) ∧ lim.getD m ≤ lim.getD m ∧ ((0 : Nat) = 0 ∨ _) then some (AV.slice b (off + 0 * e) (i - 0) (if false || lim.isSome then some (lim.getD m - 0) else none)) else none) = _
    rw [if_pos ⟨by omega, .inl (by omega), Nat.le_refl _, .inl rfl⟩]
    simp only [Bool.false_or, Nat.sub_zero, hlim, Nat.zero_mul, Nat.add_zero]
  · simp only [rslice, b1]
    show (if i + 1 ≤ m ∧ (m ≤ lim.getD m ∨ _) ∧ lim.getD m ≤ lim.getD m ∧ (i + 1 = 0 ∨ _) then some (AV.slice b (off + (i + 1) * e) (m - (i + 1)) (if false || lim.isSome then some (lim.getD m - (i + 1)) else none)) else none) = _
    rw [if_pos ⟨by omega, .inl hml, Nat.le_refl _, .inr hem⟩]
    simp only [Bool.false_or]
  -- the append
  have hscal : ((k.cells.drop (off + (i * e + e))).take ((m - (i + 1)) * e)).all AV.scalar = true := by
    rw [List.all_eq_true] at hs ⊢
    intro x hx
    refine hs x ?_
    rw [h7]
    have e1 : (k.cells.drop (off + (i * e + e))).take ((m - (i + 1)) * e) = ((k.cells.drop off).take (m * e)).drop (i * e + e) := by
      rw [List.drop_take, List.drop_drop, m4]
    rw [e1] at hx
    exact List.mem_of_mem_drop hx
  have hysl : ((k.cells.drop (off + (i * e + e))).take ((m - (i + 1)) * e)).length = m * e - (i * e + e) := by rw [List.length_take, List.length_drop]; omega
  have happ : ∃ (k9 : Blk) (H9 : Heap), (H9[b]? = some k9 ∧ H9.length = H.length ∧ ∀ b', b' ≠ b → H9[b']? = H[b']?) ∧ k9.cells = splice k.cells (off + i * e) ((k.cells.drop (off + (i * e + e))).take ((m - (i + 1)) * e)) ∧ k9.live = true ∧ k9.e = e ∧
      appA fl true e bytes H (.slice b off i lim) (.slice b (off + (i + 1) * e) (m - (i + 1)) (if lim.isSome then some (lim.getD m - (i + 1)) else none)) = some (.slice b off (m - 1) lim, H9) := by
    have hcell : sliceCells H e (m - (i + 1)) (.slice b (off + (i + 1) * e) (m - (i + 1)) (if lim.isSome then some (lim.getD m - (i + 1)) else none)) = some ((k.cells.drop (off + (i * e + e))).take ((m - (i + 1)) * e)) := by
      show (if m - (i + 1) = 0 then some [] else if m - (i + 1) < m - (i + 1) then none else match H.act b with | some k => if off + (i + 1) * e + (m - (i + 1)) * e ≤ k.cells.length then some ((k.cells.drop (off + (i + 1) * e)).take ((m - (i + 1)) * e)) else none | none => none) = _
      by_cases hj0 : m - (i + 1) = 0
      · rw [if_pos hj0, hj0]; simp
      · rw [if_neg hj0, if_neg (Nat.lt_irrefl _), act_live h3 h4]
        simp only [m1]
        rw [if_pos (by omega)]
    have hstart : ∀ r, rappend fl true e bytes H (.slice b off i lim) (m - (i + 1)) ((k.cells.drop (off + (i * e + e))).take ((m - (i + 1)) * e)) = r → appA fl true e bytes H (.slice b off i lim) (.slice b (off + (i + 1) * e) (m - (i + 1)) (if lim.isSome then some (lim.getD m - (i + 1)) else none)) = r := fun r hr => by
      show (match some (m - (i + 1)) with | some k' => (sliceCells H e k' (.slice b (off + (i + 1) * e) (m - (i + 1)) (if lim.isSome then some (lim.getD m - (i + 1)) else none))).bind fun xs => rappend fl true e bytes H (.slice b off i lim) k' xs | none => none) = _
      simp only [hcell, Option.bind_some]; exact hr
    by_cases hj : m - (i + 1) = 0
    · refine ⟨k, H, ⟨h3, rfl, fun _ _ => rfl⟩, ?_, h4, h5, hstart _ ?_⟩
      · rw [hj]; simp [splice]
      · unfold rappend
        rw [if_pos hj, show i = m - 1 by omega]
    · refine ⟨{ k with cells := splice k.cells (off + i * e) ((k.cells.drop (off + (i * e + e))).take ((m - (i + 1)) * e)), clean := false }, H.set b { k with cells := splice k.cells (off + i * e) ((k.cells.drop (off + (i * e + e))).take ((m - (i + 1)) * e)), clean := false }, ⟨?_, ?_, ?_⟩, rfl, h4, h5, hstart _ ?_⟩
      · rw [List.getElem?_set_self hbl]
      · simp
      · intro b' hne; rw [List.getElem?_set_ne (Ne.symm hne)]
      · have hput := rput_ok (fl := fl) (o := off + i * e) (ws := (k.cells.drop (off + (i * e + e))).take ((m - (i + 1)) * e)) h3 h4 (by omega) (by rw [hysl]; omega) hscal
        have hm1 : i + (m - (i + 1)) = m - 1 := by omega
        have hsz : (i + (m - (i + 1)) + (i + (m - (i + 1))) / 4 + 192) * bytes ≤ 2 ^ 48 := by
          have h1 : i + (m - (i + 1)) + (i + (m - (i + 1))) / 4 + 192 ≤ 2 ^ 31 := by omega
          calc _ ≤ 2 ^ 31 * 4096 := Nat.mul_le_mul h1 hb
            _ ≤ 2 ^ 48 := by decide
        unfold rappend
        rw [if_neg hj]
        simp only [act_live h3 h4]
        rw [if_pos ⟨h5, by omega, hsz, by omega⟩, if_pos h4]
        cases lim with
        | none =>
          simp only
          rw [if_neg (by omega), if_pos trivial, hput, hm1]; rfl
        | some c =>
          have := (h8 c rfl).1
          simp only
          rw [if_pos (by omega), if_pos trivial, hput, hm1]; rfl
  obtain ⟨k9, H9, ⟨g1, g2, g3⟩, g4, g5, g6, g7⟩ := happ
  have g8 : k9.cells.length = k.cells.length := by rw [g4, splice_len (by rw [hysl]; omega)]
  refine ⟨.slice b off (m - 1) lim, H9, .slice b (off + (m - 1) * e) 1 (if lim.isSome then some (lim.getD (m - 1) - (m - 1)) else none), H9.set b { k9 with cells := splice k9.cells (off + (m - 1) * e) z, clean := false }, g7, rfl, ?_, ?_, ?_, ?_, ?_, ?_, ?_⟩
  · have hup : m ≤ lim.getD (m - 1) ∨ upB H9 e b off m (some (.int .i64 ((m - 1 : Nat) : Int))) (some (.int .i64 (m : Int))) none lim = true := by
      cases lim with
      | none =>
        right
        unfold upB
        simp only [act_live g1 g5, Option.isSome_some, Option.isNone_none, Bool.true_and, Bool.and_true]
        rw [decide_eq_true g6, decide_eq_true he, decide_eq_true (by omega)]; rfl
      | some c => left; exact (h8 c rfl).1
    simp only [rslice, b1]
    show (if m - 1 ≤ m ∧ (m ≤ lim.getD (m - 1) ∨ _) ∧ lim.getD (m - 1) ≤ lim.getD (m - 1) ∧ (m - 1 = 0 ∨ _) then some (AV.slice b (off + (m - 1) * e) (m - (m - 1)) (if false || lim.isSome then some (lim.getD (m - 1) - (m - 1)) else none)) else none) = _
    rw [if_pos ⟨by omega, hup, Nat.le_refl _, .inr (by rw [g1]; simp [g6])⟩]
    simp only [Bool.false_or]
    rw [show m - (m - 1) = 1 by omega]
  · have hput := rput_ok (fl := fl) (o := off + (m - 1) * e) (ws := z) g1 g5 (by omega) (by rw [g8, hz]; omega) hzs
    show (if (1 : Nat) = 0 then some (AV.undef, H9) else (rput fl H9 b (off + (m - 1) * e) (zeros 1 z)).map fun H' => (AV.undef, H')) = _
    rw [if_neg (by decide), show zeros 1 z = z by simp [zeros], hput]; rfl
  · refine ⟨by have := h.small; omega, .inr ⟨b, off, lim, { k9 with cells := splice k9.cells (off + (m - 1) * e) z, clean := false }, rfl, h2, ?_, g5, g6, ?_, ?_, ⟨q, ?_⟩, ?_⟩⟩
    · rw [List.getElem?_set_self (by rw [g2]; exact hbl)]
    · show _ ≤ (splice k9.cells (off + (m - 1) * e) z).length
      rw [splice_len (by rw [hz]; omega)]; omega
    · show _ = ((splice k9.cells (off + (m - 1) * e) z).drop off).take ((m - 1) * e)
      rw [g4, h7, m1, m2, m4]
      exact (del_listE (by omega) h6 hz).symm
    · show (splice k9.cells (off + (m - 1) * e) z).length = _
      rw [splice_len (by rw [hz]; omega), g8, h9]
    · intro c hc
      obtain ⟨x1, x2⟩ := h8 c hc
      refine ⟨by omega, ?_⟩
      show _ ≤ (splice k9.cells (off + (m - 1) * e) z).length
      rw [splice_len (by rw [hz]; omega), g8]; exact x2
  · rw [List.length_set, g2]
  · intro b' hne
    have : b' ≠ b := fun e => hne (by rw [e]; exact at_slice)
    rw [List.getElem?_set_ne (Ne.symm this), g3 b' this]
  · intro b' hb'
    have := at_slice.same hb'
    subst this; exact at_slice
  · intro b' off' k' lim' hw
    cases hw
    exact ⟨_, _, rfl⟩

/-- v[1:] -/
theorem Own.tail {n m e : Nat} {H : Heap} {cs : List AV} {v : AV} (he : 0 < e) (h : Own n H e v (m + 1) cs) : ∃ w, rslice H e v (some (.int .i64 1)) none none = some w ∧ Own n H e w m (cs.drop e) ∧ (∀ b, At w b → At v b) ∧ ((∀ b off k lim, v = .slice b off k lim → lim = none) → ∀ b off k lim, w = .slice b off k lim → lim = none) := by
  rcases h.out with ⟨_, h0, _⟩ | ⟨b, off, lim, k, rfl, h2, h3, h4, h5, h6, h7, ⟨q, h9⟩, h8⟩
  · omega
  have hm1 : (m + 1) * e = m * e + e := Nat.succ_mul _ _
  have hem : (H[b]?).map (·.e) = some e := by rw [h3]; simp [h5]
  have hml : m + 1 ≤ lim.getD (m + 1) := by cases lim with | none => exact Nat.le_refl _ | some c => exact (h8 c rfl).1
  refine ⟨.slice b (off + 1 * e) (m + 1 - 1) (if lim.isSome then some (lim.getD (m + 1) - 1) else none), ?_, ⟨by have := h.small; omega, .inr ⟨b, off + 1 * e, _, k, rfl, h2, h3, h4, h5, by omega, ?_, ?_, ?_⟩⟩, fun b' hb' => by have := at_slice.same hb'; subst this; exact at_slice, fun hn b' off' k' lim' hw => ?_⟩
  · simp only [rslice, bound_int (n := 1), show boundOf none (m + 1) = some (m + 1) from rfl, show boundOf none (lim.getD (m + 1)) = some (lim.getD (m + 1)) from rfl]
    have : boundOf (some (.int .i64 1)) 0 = some 1 := bound_int (n := 1) 0
    rw [this]
    simp only
    rw [if_pos ⟨by omega, .inl hml, Nat.le_refl _, .inr hem⟩]
    simp
  · rw [h7, List.drop_take, List.drop_drop, Nat.one_mul]; congr 1; omega
  · have hq : (m + 1) * e ≤ q * e := by omega
    have hq2 := Nat.le_of_mul_le_mul_right hq he
    exact ⟨q - 1, by rw [Nat.sub_mul, Nat.one_mul]; omega⟩
  · intro c hc
    cases lim with
    | none => simp at hc
    | some c0 =>
      obtain ⟨x1, x2⟩ := h8 c0 rfl
      simp at hc
      subst hc
      refine ⟨by omega, ?_⟩
      rw [Nat.sub_mul, Nat.one_mul]
      have : e ≤ c0 * e := by
        have := Nat.mul_le_mul_right e (show 1 ≤ c0 by omega)
        rwa [Nat.one_mul] at this
      omega
  · have := hn _ _ _ _ rfl
    subst this
    cases hw; rfl

/-- A slice whose capacity is not known. -/
abbrev NoLim (v : AV) : Prop := ∀ b off k lim, v = .slice b off k lim → lim = none

/-- slices.Insert of one element. -/
theorem Own.insert {n m e bytes i : Nat} {H H1 : Heap} {cs ys : List AV} {v : AV} {fl vb : Nat} (he : 0 < e) (h : Own n H e v m cs) (hl : NoLim v) (hy : NewB H e ys vb H1) (hyl : ys.length = e) (hys : ys.all AV.scalar = true) (hs : cs.all AV.scalar = true)
    (hn : n ≤ H.length) (hi : i ≤ m) (hfl : fl ≤ n) (hlen : m ≤ 2 ^ 20) (hb : bytes ≤ 4096) :
    ∃ w H', rinsert fl e bytes H1 v (i : Int) (.slice vb 0 1 (some 1)) = some (w, H') ∧ Own n H' e w (m + 1) (cs.take (i * e) ++ ys ++ cs.drop (i * e)) ∧ NoLim w ∧ H1.length ≤ H'.length ∧ (∀ b, b < H1.length → ¬ At v b → H'[b]? = H1[b]?) ∧ (∀ b, At w b → At v b ∨ H1.length ≤ b) := by
  have h1 := h.keep hy.keep
  have hvb : vb = H.length := hy.b_eq
  have hlt := hy.lt
  have hgv := hy.get
  have hblkv : H1.blk vb = some { cells := ys, e := e } := by simp [Heap.blk, hgv]
  have hcell : sliceCells H1 e 1 (.slice vb 0 1 (some 1)) = some ys := by
    show (if (1 : Nat) = 0 then some [] else if (1 : Nat) < 1 then none else match H1.act vb with | some k => if 0 + 1 * e ≤ k.cells.length then some ((k.cells.drop 0).take (1 * e)) else none | none => none) = _
    rw [if_neg (by decide), if_neg (by decide), act_live hgv rfl]
    simp only [Nat.one_mul, Nat.zero_add, List.drop_zero]
    rw [if_pos (by omega), List.take_of_length_le (by omega)]
  have hbig : (m + 1 + (m + 1) / 4 + 192) * bytes ≤ 2 ^ 46 := by
    have h1 : m + 1 + (m + 1) / 4 + 192 ≤ 2 ^ 22 := by omega
    calc _ ≤ 2 ^ 22 * 4096 := Nat.mul_le_mul h1 hb
      _ ≤ 2 ^ 46 := by decide
  unfold rinsert
  simp only [hcell, hblkv]
  rw [if_pos ⟨by decide, he, by omega⟩]
  have q1 : (m + 1) * e = m * e + e := Nat.succ_mul _ _
  have q0 : i * e ≤ m * e := Nat.mul_le_mul_right _ hi
  rcases h1.out with ⟨rfl, rfl, rfl⟩ | ⟨b, off, lim, k, rfl, h2, h3, h4, h5, h6, h7, ⟨q, h9⟩, h8⟩
  · have hi0 : i = 0 := by omega
    subst hi0
    simp only
    rw [if_pos ⟨rfl, by omega, by decide⟩]
    refine ⟨_, _, rfl, ⟨by omega, .inr ⟨H1.length, 0, none, { cells := ys, e := e }, rfl, Nat.le_trans hn hy.keep.len, snoc_end _ _, rfl, rfl, by simp [hyl], ?_, ⟨1, by simp [hyl]⟩, fun c hc => by cases hc⟩⟩, fun b off k lim hw => by cases hw; rfl, by simp, fun b hb _ => List.getElem?_append_left hb, fun b hb => .inr (Nat.le_of_eq (at_slice.same hb))⟩
    simp only [List.take_nil, List.drop_nil, List.nil_append, List.append_nil, List.drop_zero, Nat.zero_add, Nat.one_mul]
    rw [← hyl, List.take_length]
  · have := hl _ _ _ _ rfl
    subst this
    have hbv : b ≠ vb := by
      have := (h.at_lt (at_slice (b := b))).2
      omega
    have hblk : H1.blk b = some k := by simp [Heap.blk, h3, h4]
    have hbl := get_lt h3
    have hts : ((k.cells.drop (off + i * e)).take ((m - i) * e)).all AV.scalar = true := by
      rw [List.all_eq_true] at hs ⊢
      intro x hx
      refine hs x ?_
      rw [h7]
      have e1 : (k.cells.drop (off + i * e)).take ((m - i) * e) = ((k.cells.drop off).take (m * e)).drop (i * e) := by rw [List.drop_take, List.drop_drop, Nat.sub_mul]
      rw [e1] at hx
      exact List.mem_of_mem_drop hx
    simp only [hblk, Int.toNat_natCast]
    rw [if_pos ⟨by omega, hbv, h5, by omega, by omega, h6, hys, hts, hbig, by omega⟩]
    have hcsl : cs.length = m * e := by rw [h7, List.length_take, List.length_drop]; omega
    by_cases hfull : off + m * e = k.cells.length
    · rw [if_pos hfull]
      have hcs : cs = k.cells.drop off := by rw [h7, List.take_of_length_le]; rw [List.length_drop]; omega
      have hcd : k.cells.drop (off + i * e) = cs.drop (i * e) := by rw [hcs, List.drop_drop]
      refine ⟨_, _, rfl, ⟨by have := h.small; omega, .inr ⟨H1.length, 0, none, { cells := (k.cells.drop off).take (i * e) ++ ys ++ k.cells.drop (off + i * e), e := e }, rfl, Nat.le_trans hn hy.keep.len, ?_, rfl, rfl, ?_, ?_, ⟨m + 1, ?_⟩, fun c hc => by cases hc⟩⟩, fun b off k lim hw => by cases hw; rfl, by simp, fun b' hb' hne => ?_, fun b hb => .inr (Nat.le_of_eq (at_slice.same hb))⟩
      · rw [List.getElem?_append_right (by simp)]; simp
      · rw [hcd, ← hcs]; simp only [List.length_append, List.length_take, List.length_drop]; omega
      · rw [hcd, ← hcs, List.drop_zero]
        exact (List.take_of_length_le (by simp only [List.length_append, List.length_take, List.length_drop]; omega)).symm
      · rw [hcd, ← hcs]; simp only [List.length_append, List.length_take, List.length_drop]; omega
      · have : b' ≠ b := fun e => hne (by rw [e]; exact at_slice)
        rw [List.getElem?_append_left (by simpa using hb'), List.getElem?_set_ne (Ne.symm this)]
    · rw [if_neg hfull]
      have hq : m * e < q * e := by omega
      have hq2 : m < q := Nat.lt_of_mul_lt_mul_right hq
      have hq3 : (m + 1) * e ≤ q * e := Nat.mul_le_mul_right e hq2
      have q2 : (i + 1) * e = i * e + e := Nat.succ_mul _ _
      have q3 : (m - i) * e = m * e - i * e := Nat.sub_mul _ _ _
      generalize hT : (k.cells.drop (off + i * e)).take ((m - i) * e) = T at hts
      have hTl : T.length = m * e - i * e := by rw [← hT, List.length_take, List.length_drop]; omega
      have hq9 : (m + 1) * e ≤ k.cells.length - off := by omega
      have hf1 : off + (i + 1) * e + T.length ≤ k.cells.length := by rw [hTl, q2]; omega
      have p1 := rput_ok (fl := fl) (o := off + (i + 1) * e) (ws := T) h3 h4 (by omega) hf1 hts
      have hl1 : (splice k.cells (off + (i + 1) * e) T).length = k.cells.length := splice_len (by omega)
      have p2 := rput_ok (H := H1.set b { k with cells := splice k.cells (off + (i + 1) * e) T, clean := false }) (fl := fl) (b := b) (o := off + i * e) (k := { k with cells := splice k.cells (off + (i + 1) * e) T, clean := false }) (ws := ys) (List.getElem?_set_self hbl) h4 (by omega) (by show _ ≤ (splice k.cells (off + (i + 1) * e) T).length; omega) hys
      rw [p1]
      simp only [Option.bind_some]
      rw [p2]
      simp only [Option.map_some, List.set_set]
      have hfin : (splice (splice k.cells (off + (i + 1) * e) T) (off + i * e) ys).length = k.cells.length := by rw [splice_len (by omega)]; exact hl1
      refine ⟨_, _, rfl, ⟨by have := h.small; omega, .inr ⟨b, off, none, _, rfl, h2, List.getElem?_set_self hbl, h4, h5, ?_, ?_, ⟨q, ?_⟩, fun c hc => by cases hc⟩⟩, fun b off k lim hw => by cases hw; rfl, by simp, fun b' hb' hne => ?_, fun b' hb' => .inl ?_⟩
      · show _ ≤ (splice (splice k.cells (off + (i + 1) * e) T) (off + i * e) ys).length
        omega
      · show _ = ((splice (splice k.cells (off + (i + 1) * e) T) (off + i * e) ys).drop off).take ((m + 1) * e)
        have hTd : cs.drop (i * e) = T := by rw [← hT, h7, List.drop_take, List.drop_drop, Nat.sub_mul]
        rw [hTd]
        apply List.ext_getElem?
        intro j
        by_cases hj : j < (m + 1) * e
        · rw [List.getElem?_take_of_lt hj, List.getElem?_drop, splice_get (by omega), splice_get (by omega)]
          by_cases h1 : j < i * e
          · rw [if_neg (by omega), if_neg (by omega), List.append_assoc, List.getElem?_append_left (by rw [List.length_take]; omega), List.getElem?_take_of_lt h1, h7, List.getElem?_take_of_lt (by omega), List.getElem?_drop]
          · by_cases h2 : j < i * e + e
            · rw [if_pos (by omega), List.getElem?_append_left (by rw [List.length_append, List.length_take]; omega), List.getElem?_append_right (by rw [List.length_take]; omega)]
              congr 1; rw [List.length_take]; omega
            · rw [if_neg (by omega), if_pos (by omega), List.getElem?_append_right (by rw [List.length_append, List.length_take]; omega)]
              congr 1; rw [List.length_append, List.length_take]; omega
        · rw [List.getElem?_eq_none (by simp only [List.length_append, List.length_take]; omega), List.getElem?_eq_none (by rw [List.length_take]; omega)]
      · show (splice (splice k.cells (off + (i + 1) * e) T) (off + i * e) ys).length = _
        omega
      · have : b' ≠ b := fun e => hne (by rw [e]; exact at_slice)
        rw [List.getElem?_set_ne (Ne.symm this)]
      · have := at_slice.same hb'
        subst this; exact at_slice

end Go.RM
namespace Go.RM
set_option linter.unusedVariables false

/-- An element's cells, read and written. -/
theorem Own.elem {n m e : Nat} {H : Heap} {cs : List AV} {v : AV} (h : Own n H e v m cs) {i : Nat} (hi : i < m) :
    ∃ b o, ptrA e v (i : Int) = some (b, o) ∧ At v b ∧ n ≤ b ∧
      (∀ o' x, o' < e → cs[i * e + o']? = some x → rload H none b (o + o') = some x) ∧
      (∀ fl o' k w, fl ≤ n → w.cells.length = k → o' + k ≤ e → w.cells.all AV.scalar = true → ∃ H', putA fl H b (o + o') k w = some H' ∧ Own n H' e v m (splice cs (i * e + o') w.cells) ∧ KeepX b H H') := by
  rcases h.out with ⟨_, h0, _⟩ | ⟨b, off, lim, k, rfl, h2, h3, h4, h5, h6, h7, ⟨q, h9⟩, h8⟩
  · omega
  have m1 : (i + 1) * e = i * e + e := Nat.succ_mul _ _
  have m3 : (i + 1) * e ≤ m * e := Nat.mul_le_mul_right _ hi
  refine ⟨b, off + i * e, ?_, at_slice, h2, fun o' x ho hx => ?_, fun fl o' kk w hfl hk hok hs => ?_⟩
  · show (if (0 : Int) ≤ i ∧ (i : Int) < m then some (b, off + (i : Int).toNat * e) else none) = _
    rw [if_pos (by omega), Int.toNat_natCast]
  · unfold rload
    rw [act_live h3 h4]
    simp only
    rw [h7, List.getElem?_take_of_lt (by omega), List.getElem?_drop] at hx
    rw [← hx, Nat.add_assoc]
  · have hput := rput_ok (fl := fl) (o := off + i * e + o') (ws := w.cells) h3 h4 (by omega) (by omega) hs
    refine ⟨H.set b { k with cells := splice k.cells (off + i * e + o') w.cells, clean := false }, by unfold putA; rw [if_pos hk, hput], ⟨h.small, .inr ⟨b, off, lim, { k with cells := splice k.cells (off + i * e + o') w.cells, clean := false }, rfl, h2, List.getElem?_set_self (get_lt h3), h4, h5, ?_, ?_, ⟨q, ?_⟩, fun c hc => ?_⟩⟩, ⟨by simp, fun b' hne => by rw [List.getElem?_set_ne (Ne.symm hne)]⟩⟩
    · show _ ≤ (splice k.cells (off + i * e + o') w.cells).length
      rw [splice_len (by omega)]; exact h6
    · show _ = ((splice k.cells (off + i * e + o') w.cells).drop off).take (m * e)
      have hcl : cs.length = m * e := by rw [h7, List.length_take, List.length_drop]; omega
      apply List.ext_getElem?
      intro j
      by_cases hj : j < m * e
      · rw [List.getElem?_take_of_lt hj, List.getElem?_drop, splice_get (by omega), splice_get (by omega)]
        by_cases h1 : i * e + o' ≤ j ∧ j < i * e + o' + w.cells.length
        · rw [if_pos h1, if_pos (by omega)]; congr 1; omega
        · rw [if_neg h1, if_neg (by omega), h7, List.getElem?_take_of_lt hj, List.getElem?_drop]
      · rw [List.getElem?_eq_none (by rw [splice_len (by omega)]; omega), List.getElem?_eq_none (by rw [List.length_take]; omega)]
    · show (splice k.cells (off + i * e + o') w.cells).length = _
      rw [splice_len (by omega)]; exact h9
    · obtain ⟨x1, x2⟩ := h8 c hc
      refine ⟨x1, ?_⟩
      show _ ≤ (splice k.cells (off + i * e + o') w.cells).length
      rw [splice_len (by omega)]; exact x2

/-- The same of a list of structs. -/
theorem Own.elemR {n m e : Nat} {H : Heap} {css : List (List AV)} {v : AV} (h : Own n H e v m css.flatten) (hl : ∀ c ∈ css, c.length = e) (hm : css.length = m) {i : Nat} (hi : i < css.length) :
    ∃ b o, ptrA e v (i : Int) = some (b, o) ∧ At v b ∧ n ≤ b ∧
      (∀ o' x, (css[i])[o']? = some x → rload H none b (o + o') = some x) ∧
      (∀ fl o' k w, fl ≤ n → w.cells.length = k → o' + k ≤ e → w.cells.all AV.scalar = true → ∃ H', putA fl H b (o + o') k w = some H' ∧ Own n H' e v m (css.set i (splice css[i] o' w.cells)).flatten ∧ KeepX b H H') := by
  obtain ⟨b, o, h1, h2, h3, h4, h5⟩ := h.elem (i := i) (by omega)
  have hc : css[i]? = some css[i] := List.getElem?_eq_getElem hi
  refine ⟨b, o, h1, h2, h3, fun o' x hx => ?_, fun fl o' k w hfl hk hok hs => ?_⟩
  · have ho : o' < e := by
      rw [← hl css[i] (List.getElem_mem hi)]
      rcases Nat.lt_or_ge o' css[i].length with h | h
      · exact h
      · rw [List.getElem?_eq_none h] at hx; cases hx
    exact h4 o' x ho (by rw [flat_get hl hc ho]; exact hx)
  · obtain ⟨H', a1, a2, a3⟩ := h5 fl o' k w hfl hk hok hs
    refine ⟨H', a1, ?_, a3⟩
    rw [flat_splice hl hc (by omega)] at a2
    exact a2

end Go.RM

/-
  Functions of the program as the abstract machine runs them, and what must be shown of a run: printed by RmPrint.
-/
namespace Go.RM
set_option linter.unusedVariables false
set_option maxRecDepth 4000
end Go.RM

/-
  Functions of the program as the abstract machine runs them, and what must be shown of a run: printed by RmPrint.
-/
namespace Go.RM
set_option linter.unusedVariables false
set_option maxRecDepth 4000
end Go.RM

/-
  Functions of the program as the abstract machine runs them, and what must be shown of a run: printed by RmPrint.
-/
namespace Go.RM
set_option linter.unusedVariables false
set_option maxRecDepth 4000
def rf_FEqualInts : RFunc := ⟨2, 7, [.var 2],
 ((.seq (.ops [⟨.move (.k (.bool false)), none, (some 2), true⟩])
 ((.seq ((.seq (.ops [⟨.move (.var 0), none, none, true⟩, ⟨.len (.loc 0), none, none, true⟩, ⟨.move (.var 1), none, none, true⟩, ⟨.len (.loc 2), none, none, true⟩, ⟨.bin .neq .no (.loc 1) (.loc 3), none, (some 3), true⟩])
 (.cond (.var 3) ((.seq (.ops [⟨.move (.k (.bool false)), none, (some 2), true⟩])
 (.ret))) (.skip))))
 ((.seq ((.seq (.ops [⟨.move (.k (.int .i64 0)), none, (some 4), true⟩])
 (.block 0 (.loop ((.seq ((.seq (.ops [⟨.move (.var 4), none, none, true⟩, ⟨.move (.var 0), none, none, true⟩, ⟨.len (.loc 1), none, none, true⟩, ⟨.bin .lss .no (.loc 0) (.loc 2), none, (some 5), true⟩])
 (.cond (.var 5) (.skip) (.exit 0))))
 ((.seq (.block 1 ((.seq (.ops [⟨.move (.var 0), none, none, false⟩, ⟨.move (.var 4), none, none, false⟩, ⟨.indexAddr 1 (.loc 0) (.loc 1), none, none, false⟩, ⟨.load none (.loc 2), none, none, false⟩, ⟨.move (.var 1), none, none, false⟩, ⟨.move (.var 4), none, none, false⟩, ⟨.indexAddr 1 (.loc 4) (.loc 5), none, none, false⟩, ⟨.load none (.loc 6), none, none, false⟩, ⟨.bin .neq .no (.loc 3) (.loc 7), none, (some 6), true⟩])
 (.cond (.var 6) ((.seq (.ops [⟨.move (.k (.bool false)), none, (some 2), true⟩])
 (.ret))) (.skip)))))
 (.ops [⟨.move (.var 4), none, none, true⟩, ⟨.bin .add .no (.loc 0) (.k (.int .i64 1)), none, none, true⟩, ⟨.move (.loc 1), none, (some 4), true⟩])))))))))
 ((.seq (.ops [⟨.move (.k (.bool true)), none, (some 2), true⟩])
 (.ret))))))))), none⟩
theorem v_FEqualInts {F : Nat → Option RFunc} {me : Nat} (hF : F me = some (rf_FEqualInts )) {fl : Nat} {H : Heap} {Q : AV → Heap → Prop} (a0 : AV) (b1 : AV)
  (h : ∃ len2 : Nat, lenA a0 = some len2 ∧ ∃ len3 : Nat, lenA b1 = some len3 ∧ (((len2 : Int) ≠ (len3 : Int)) → Q (.bool false) H) ∧ (¬((len2 : Int) ≠ (len3 : Int)) → ∃ (J4 : Nat → Int → Prop) (k5 : Nat), J4 k5 0 ∧ (∀ (m6 : Nat) (i8 : Int), J4 m6 i8 → ∃ len11 : Nat, lenA a0 = some len11 ∧ ((i8 < (len11 : Int)) → ∃ (e12 : Int), getA H 1 none a0 i8 0 = some (.int .i64 e12) ∧ ∃ (e14 : Int), getA H 1 none b1 i8 0 = some (.int .i64 e14) ∧ ((e12 ≠ e14) → Q (.bool false) H) ∧ (¬(e12 ≠ e14) → ∃ m16 : Nat, m16 < m6 ∧ J4 m16 (IntKind.wrap .i64 (i8 + 1)))) ∧ (¬(i8 < (len11 : Int)) → Q (.bool true) H)))) : Ret F fl me [a0, b1] H Q := by
  refine ret_intro hF rfl ?_
  refine w_seq ?_
  refine w_run [0] ?_
  refine t_done [a0, b1, (.bool false), .undef, .undef, .undef, .undef] H (by kernel_rfl) ?_
  refine then_norm ?_
  refine w_seq ?_
  refine w_seq ?_
  refine w_run [0, 1, 0, 1, 0] ?_
  obtain ⟨len2, hl, h⟩ := h
  refine t_len true a0 len2 H (by kernel_rfl) hl ?_
  obtain ⟨len3, hl, h⟩ := h
  refine t_len true b1 len3 H (by kernel_rfl) hl ?_
  refine t_done [a0, b1, (.bool false), (.bool ((len2 : Int) != (len3 : Int))), .undef, .undef, .undef] H (by kernel_rfl) ?_
  refine then_norm ?_
  refine w_cond (t := ((len2 : Int) != (len3 : Int))) rfl (fun hc => ?_) (fun hc => ?_)
  · replace h := h.1 (is_ne.t hc)
    refine w_seq ?_
    refine w_run [0] ?_
    refine t_done [a0, b1, (.bool false), (.bool ((len2 : Int) != (len3 : Int))), .undef, .undef, .undef] H (by kernel_rfl) ?_
    refine then_norm ?_
    refine w_ret ?_
    refine then_ret ?_
    exact body_ret (vs := [(.bool false)]) _ (by kernel_rfl) rfl h
  · replace h := h.2 (is_ne.f hc)
    refine w_skip ?_
    refine then_norm ?_
    refine w_seq ?_
    refine w_seq ?_
    refine w_run [0] ?_
    refine t_done [a0, b1, (.bool false), (.bool ((len2 : Int) != (len3 : Int))), (.int .i64 0), .undef, .undef] H (by kernel_rfl) ?_
    refine then_norm ?_
    refine w_block ?_
    obtain ⟨J4, k5, h0, h⟩ := h
    refine w_loop (I := fun mI EI HI => ∃ (d7 : AV) (i8 : Int) (d9 : AV) (d10 : AV), EI = [a0, b1, d7, (.bool ((len2 : Int) != (len3 : Int))), (.int .i64 i8), d9, d10] ∧ H = HI ∧ J4 mI i8) ?_ k5 ⟨_, _, _, _, rfl, rfl, h0⟩
    clear h0
    rintro m6 EI HI ⟨d7, i8, d9, d10, rfl, rfl, hJ⟩
    replace h := h m6 i8  hJ
    clear hJ
    refine w_seq ?_
    refine w_seq ?_
    refine w_run [0, 0, 1, 0] ?_
    obtain ⟨len11, hl, h⟩ := h
    refine t_len true a0 len11 H (by kernel_rfl) hl ?_
    refine t_done [a0, b1, d7, (.bool ((len2 : Int) != (len3 : Int))), (.int .i64 i8), (.bool (decide (i8 < (len11 : Int)))), d10] H (by kernel_rfl) ?_
    refine then_norm ?_
    refine w_cond (t := (decide (i8 < (len11 : Int)))) rfl (fun hc => ?_) (fun hc => ?_)
    · replace h := h.1 (is_dec.t hc)
      refine w_skip ?_
      refine then_norm ?_
      refine w_seq ?_
      refine w_block ?_
      refine w_seq ?_
      refine w_run [0, 0, 1, 1, 0, 0, 1, 1, 0] ?_
      obtain ⟨e12, hg13, h⟩ := h
      refine t_idxG false 1 a0 .i64 i8 H (by kernel_rfl) hg13 ?_
      refine t_loadG false none 1 a0 i8 0 (.int .i64 e12) H (by kernel_rfl) hg13 ?_
      obtain ⟨e14, hg15, h⟩ := h
      refine t_idxG false 1 b1 .i64 i8 H (by kernel_rfl) hg15 ?_
      refine t_loadG false none 1 b1 i8 0 (.int .i64 e14) H (by kernel_rfl) hg15 ?_
      refine t_done [a0, b1, d7, (.bool ((len2 : Int) != (len3 : Int))), (.int .i64 i8), (.bool (decide (i8 < (len11 : Int)))), (.bool (e12 != e14))] H (by kernel_rfl) ?_
      refine then_norm ?_
      refine w_cond (t := (e12 != e14)) rfl (fun hc => ?_) (fun hc => ?_)
      · replace h := h.1 (is_ne.t hc)
        refine w_seq ?_
        refine w_run [0] ?_
        refine t_done [a0, b1, (.bool false), (.bool ((len2 : Int) != (len3 : Int))), (.int .i64 i8), (.bool (decide (i8 < (len11 : Int)))), (.bool (e12 != e14))] H (by kernel_rfl) ?_
        refine then_norm ?_
        refine w_ret ?_
        refine block_ret ?_
        refine then_ret ?_
        refine loop_ret ?_
        refine block_ret ?_
        refine then_ret ?_
        exact body_ret (vs := [(.bool false)]) _ (by kernel_rfl) rfl h
      · replace h := h.2 (is_ne.f hc)
        refine w_skip ?_
        refine block_norm ?_
        refine then_norm ?_
        refine w_run [0, 0, 0] ?_
        refine t_done [a0, b1, d7, (.bool ((len2 : Int) != (len3 : Int))), (.int .i64 (IntKind.wrap .i64 (i8 + 1))), (.bool (decide (i8 < (len11 : Int)))), (.bool (e12 != e14))] H (by kernel_rfl) ?_
        obtain ⟨m', hm, h⟩ := h
        refine loop_norm ⟨m', hm, _, _, _, _, rfl, rfl, h⟩
    · replace h := h.2 (is_dec.f hc)
      refine w_exit ?_
      refine then_exit ?_
      refine loop_exit ?_
      refine block_exit ?_
      refine then_norm ?_
      refine w_seq ?_
      refine w_run [0] ?_
      refine t_done [a0, b1, (.bool true), (.bool ((len2 : Int) != (len3 : Int))), (.int .i64 i8), (.bool (decide (i8 < (len11 : Int)))), d10] H (by kernel_rfl) ?_
      refine then_norm ?_
      refine w_ret ?_
      exact body_ret (vs := [(.bool true)]) _ (by kernel_rfl) rfl h

end Go.RM

/-
  The reference's functions on lists of numbers: what they return.
-/
namespace Go.RM
set_option linter.unusedSimpArgs false
set_option linter.unusedVariables false

abbrev i64 (n : Int) : AV := .int .i64 n
abbrev flt (c i : Int) : AV := .agg [.int .i64 c, .int .i64 i]

/-- One more, for a place in a list. -/
theorem wsucc {i n : Nat} (h : i < n) (hn : n ≤ 9223372036854775807) : IntKind.wrap .i64 ((i : Int) + 1) = ((i + 1 : Nat) : Int) := by
  rw [wrap64 (by omega) (by omega)]; omega
variable {F : Nat → Option RFunc}

abbrev FEqualIntsC (F : Nat → Option RFunc) (f : Nat) : Prop := ∀ {fl H Q a b l m}, Ints H a l → Ints H b m → Q (.bool (decide (l = m))) H → Ret F fl f [a, b] H Q
theorem fEqualInts_c {f : Nat} (hF : F f = some rf_FEqualInts) : FEqualIntsC F f := fun {fl H Q a b l m} ha hb hq => by
  refine v_FEqualInts hF _ _ ?_
  have hs := ha.small
  refine ⟨_, ha.len, _, hb.len, fun hne => ?_, fun he => ?_⟩
  · rw [decide_eq_false (fun h => hne (by rw [h]))] at hq; exact hq
  · have he : l.length = m.length := by omega
    refine ⟨fun k v => ∃ i : Nat, v = i ∧ i + k = l.length ∧ (l.take i = m.take i), l.length, ⟨0, rfl, by omega, by simp⟩, ?_⟩
    rintro k _ ⟨i, rfl, hk, hi⟩
    refine ⟨_, ha.len, fun hlt => ?_, fun hge => ?_⟩
    · have hil : i < l.length := by omega
      refine ⟨_, ha.int hil, _, hb.int (by omega), fun hne => ?_, fun heq => ?_⟩
      · rw [decide_eq_false (fun h => hne (by subst h; rfl))] at hq; exact hq
      · refine ⟨k - 1, by omega, i + 1, wsucc hil hs, by omega, ?_⟩
        have heq : l[i] = m[i] := by omega
        rw [List.take_succ_eq_append_getElem hil, List.take_succ_eq_append_getElem (by omega), hi, heq]
    · rw [List.take_of_length_le (by omega), List.take_of_length_le (by omega)] at hi
      rw [decide_eq_true hi] at hq; exact hq

end Go.RM

/-
  Numbers of choices, and tails of their sums.
-/
namespace Go.RM

def ch : Nat → Nat → Nat
  | _, 0 => 1
  | 0, _ + 1 => 0
  | n + 1, k + 1 => ch n k + ch n (k + 1)

/-- The sum of ch B k * ch G (m - k) over the k from m + 1 - d to m. -/
def tl (B G m : Nat) : Nat → Nat
  | 0 => 0
  | d + 1 => ch B (m - d) * ch G d + tl B G m d

end Go.RM

/-
  Package canary and its reference: what their functions return.
-/
namespace Go.RM
set_option linter.unusedSimpArgs false
set_option linter.unusedVariables false
set_option maxRecDepth 4000

variable {F : Nat → Option RFunc}

/-! ### The ways -/

/-! ### Samples -/

/-- Samples that a side may have. -/
def okC (g b : Int) : Prop := 0 ≤ g ∧ 0 ≤ b ∧ g + b ≤ 25
instance (g b : Int) : Decidable (okC g b) := by unfold okC; exact inferInstance

/-! ### Tail, Decide -/

/-- What a decision may be asked with. -/
def okP (need pm : Int) : Prop := 0 ≤ need ∧ need ≤ 25 ∧ 0 ≤ pm ∧ pm < 1000
instance (a b : Int) : Decidable (okP a b) := by unfold okP; exact inferInstance

end Go.RM

/-
  Package canary and its reference, the rest.
-/
namespace Go.RM
set_option linter.unusedSimpArgs false
set_option linter.unusedVariables false
set_option maxRecDepth 4000

variable {F : Nat → Option RFunc}

/-! ### The reference's -/

/-- The choices with fewer than j bad ones. -/
def lo (B G m : Nat) : Nat → Nat
  | 0 => 0
  | j + 1 => lo B G m j + ch B j * ch G (m - j)
end Go.RM

/-
  Functions of the program as the abstract machine runs them, and what must be shown of a run: printed by RmPrint.
-/
namespace Go.RM
set_option linter.unusedVariables false
set_option maxRecDepth 4000
def rf_slices_Contains__int_int (nslices_Index__int_int : Nat) : RFunc := ⟨2, 3, [.var 2],
 ((.seq (.ops [⟨.move (.k (.bool false)), none, (some 2), true⟩])
 ((.seq (.ops [⟨.move (.var 0), none, none, true⟩, ⟨.move (.var 1), none, none, true⟩, ⟨.callS nslices_Index__int_int [(.loc 0), (.loc 1)], none, none, true⟩, ⟨.bin .geq .no (.loc 2) (.k (.int .i64 0)), none, none, true⟩, ⟨.move (.loc 3), none, (some 2), true⟩])
 (.ret))))), none⟩
theorem v_slices_Contains__int_int {F : Nat → Option RFunc} {me nslices_Index__int_int : Nat} (hF : F me = some (rf_slices_Contains__int_int nslices_Index__int_int)) {fl : Nat} {H : Heap} {Q : AV → Heap → Prop} (s0 : AV) (v1 : Int)
  (h : Ret F fl nslices_Index__int_int [s0, (.int .i64 v1)] H (fun v4 H3 => ∃ (r2 : Int), v4 = (.int .i64 r2) ∧ Q (.bool (decide (r2 ≥ 0))) H3)) : Ret F fl me [s0, (.int .i64 v1)] H Q := by
  refine ret_intro hF rfl ?_
  refine w_seq ?_
  refine w_run [0] ?_
  refine t_done [s0, (.int .i64 v1), (.bool false)] H (by kernel_rfl) ?_
  refine then_norm ?_
  refine w_seq ?_
  refine w_run [0, 0, 1, 0, 0] ?_
  refine t_call true nslices_Index__int_int [s0, (.int .i64 v1)] H (by kernel_rfl) h ?_
  clear h
  rintro _ H3 ⟨r2, rfl, h⟩
  refine t_done [s0, (.int .i64 v1), (.bool (decide (r2 ≥ 0)))] H3 (by kernel_rfl) ?_
  refine then_norm ?_
  refine w_ret ?_
  exact body_ret (vs := [(.bool (decide (r2 ≥ 0)))]) _ (by kernel_rfl) rfl h

def rf_slices_Index__int_int : RFunc := ⟨2, 8, [.var 2],
 ((.seq (.ops [⟨.move (.k (.int .i64 0)), none, (some 2), true⟩])
 ((.seq ((.seq (.ops [⟨.move (.var 0), none, none, true⟩, ⟨.len (.loc 0), none, (some 4), true⟩, ⟨.move (.k (.int .i64 0)), none, (some 3), true⟩])
 (.block 0 (.loop ((.seq (.ops [⟨.bin .lss .no (.var 3) (.var 4), none, (some 5), true⟩])
 ((.seq (.cond (.var 5) (.skip) (.exit 0))
 ((.seq (.block 1 ((.seq (.ops [⟨.move (.var 3), none, none, true⟩, ⟨.move (.loc 0), none, (some 6), true⟩])
 ((.seq (.ops [⟨.move (.var 1), none, none, true⟩, ⟨.move (.var 0), none, none, true⟩, ⟨.move (.var 6), none, none, true⟩, ⟨.indexAddr 1 (.loc 1) (.loc 2), none, none, true⟩, ⟨.load none (.loc 3), none, none, true⟩, ⟨.bin .eql .no (.loc 0) (.loc 4), none, (some 7), true⟩])
 (.cond (.var 7) ((.seq (.ops [⟨.move (.var 6), none, none, true⟩, ⟨.move (.loc 0), none, (some 2), true⟩])
 (.ret))) (.skip)))))))
 (.ops [⟨.bin .add .no (.var 3) (.k (.int .i64 1)), none, none, true⟩, ⟨.move (.loc 0), none, (some 3), true⟩])))))))))))
 ((.seq (.ops [⟨.move (.k (.int .i64 (-1))), none, (some 2), true⟩])
 (.ret))))))), none⟩
theorem v_slices_Index__int_int {F : Nat → Option RFunc} {me : Nat} (hF : F me = some (rf_slices_Index__int_int )) {fl : Nat} {H : Heap} {Q : AV → Heap → Prop} (s0 : AV) (v1 : Int)
  (h : ∃ len2 : Nat, lenA s0 = some len2 ∧ ∃ (J3 : Nat → Int → Prop) (k4 : Nat), J3 k4 0 ∧ (∀ (m5 : Nat) (v7 : Int), J3 m5 v7 → ((v7 < (len2 : Int)) → ∃ (e11 : Int), getA H 1 none s0 v7 0 = some (.int .i64 e11) ∧ ((v1 = e11) → Q (.int .i64 v7) H) ∧ (¬(v1 = e11) → ∃ m13 : Nat, m13 < m5 ∧ J3 m13 (IntKind.wrap .i64 (v7 + 1)))) ∧ (¬(v7 < (len2 : Int)) → Q (.int .i64 (-1)) H))) : Ret F fl me [s0, (.int .i64 v1)] H Q := by
  refine ret_intro hF rfl ?_
  refine w_seq ?_
  refine w_run [0] ?_
  refine t_done [s0, (.int .i64 v1), (.int .i64 0), .undef, .undef, .undef, .undef, .undef] H (by kernel_rfl) ?_
  refine then_norm ?_
  refine w_seq ?_
  refine w_seq ?_
  refine w_run [0, 1, 0] ?_
  obtain ⟨len2, hl, h⟩ := h
  refine t_len true s0 len2 H (by kernel_rfl) hl ?_
  refine t_done [s0, (.int .i64 v1), (.int .i64 0), (.int .i64 0), (.int .i64 (len2 : Int)), .undef, .undef, .undef] H (by kernel_rfl) ?_
  refine then_norm ?_
  refine w_block ?_
  obtain ⟨J3, k4, h0, h⟩ := h
  refine w_loop (I := fun mI EI HI => ∃ (d6 : AV) (v7 : Int) (d8 : AV) (d9 : AV) (d10 : AV), EI = [s0, (.int .i64 v1), d6, (.int .i64 v7), (.int .i64 (len2 : Int)), d8, d9, d10] ∧ H = HI ∧ J3 mI v7) ?_ k4 ⟨_, _, _, _, _, rfl, rfl, h0⟩
  clear h0
  rintro m5 EI HI ⟨d6, v7, d8, d9, d10, rfl, rfl, hJ⟩
  replace h := h m5 v7  hJ
  clear hJ
  refine w_seq ?_
  refine w_run [0] ?_
  refine t_done [s0, (.int .i64 v1), d6, (.int .i64 v7), (.int .i64 (len2 : Int)), (.bool (decide (v7 < (len2 : Int)))), d9, d10] H (by kernel_rfl) ?_
  refine then_norm ?_
  refine w_seq ?_
  refine w_cond (t := (decide (v7 < (len2 : Int)))) rfl (fun hc => ?_) (fun hc => ?_)
  · replace h := h.1 (is_dec.t hc)
    refine w_skip ?_
    refine then_norm ?_
    refine w_seq ?_
    refine w_block ?_
    refine w_seq ?_
    refine w_run [0, 0] ?_
    refine t_done [s0, (.int .i64 v1), d6, (.int .i64 v7), (.int .i64 (len2 : Int)), (.bool (decide (v7 < (len2 : Int)))), (.int .i64 v7), d10] H (by kernel_rfl) ?_
    refine then_norm ?_
    refine w_seq ?_
    refine w_run [0, 0, 0, 1, 1, 0] ?_
    obtain ⟨e11, hg12, h⟩ := h
    refine t_idxG true 1 s0 .i64 v7 H (by kernel_rfl) hg12 ?_
    refine t_loadG true none 1 s0 v7 0 (.int .i64 e11) H (by kernel_rfl) hg12 ?_
    refine t_done [s0, (.int .i64 v1), d6, (.int .i64 v7), (.int .i64 (len2 : Int)), (.bool (decide (v7 < (len2 : Int)))), (.int .i64 v7), (.bool (v1 == e11))] H (by kernel_rfl) ?_
    refine then_norm ?_
    refine w_cond (t := (v1 == e11)) rfl (fun hc => ?_) (fun hc => ?_)
    · replace h := h.1 (is_eq.t hc)
      refine w_seq ?_
      refine w_run [0, 0] ?_
      refine t_done [s0, (.int .i64 v1), (.int .i64 v7), (.int .i64 v7), (.int .i64 (len2 : Int)), (.bool (decide (v7 < (len2 : Int)))), (.int .i64 v7), (.bool (v1 == e11))] H (by kernel_rfl) ?_
      refine then_norm ?_
      refine w_ret ?_
      refine block_ret ?_
      refine then_ret ?_
      refine loop_ret ?_
      refine block_ret ?_
      refine then_ret ?_
      exact body_ret (vs := [(.int .i64 v7)]) _ (by kernel_rfl) rfl h
    · replace h := h.2 (is_eq.f hc)
      refine w_skip ?_
      refine block_norm ?_
      refine then_norm ?_
      refine w_run [0, 0] ?_
      refine t_done [s0, (.int .i64 v1), d6, (.int .i64 (IntKind.wrap .i64 (v7 + 1))), (.int .i64 (len2 : Int)), (.bool (decide (v7 < (len2 : Int)))), (.int .i64 v7), (.bool (v1 == e11))] H (by kernel_rfl) ?_
      obtain ⟨m', hm, h⟩ := h
      refine loop_norm ⟨m', hm, _, _, _, _, _, rfl, rfl, h⟩
  · replace h := h.2 (is_dec.f hc)
    refine w_exit ?_
    refine then_exit ?_
    refine loop_exit ?_
    refine block_exit ?_
    refine then_norm ?_
    refine w_seq ?_
    refine w_run [0] ?_
    refine t_done [s0, (.int .i64 v1), (.int .i64 (-1)), (.int .i64 v7), (.int .i64 (len2 : Int)), (.bool (decide (v7 < (len2 : Int)))), d9, d10] H (by kernel_rfl) ?_
    refine then_norm ?_
    refine w_ret ?_
    exact body_ret (vs := [(.int .i64 (-1))]) _ (by kernel_rfl) rfl h

def rf_slices_IndexFunc__int_int : RFunc := ⟨2, 8, [.var 2],
 ((.seq (.ops [⟨.move (.k (.int .i64 0)), none, (some 2), true⟩])
 ((.seq ((.seq (.ops [⟨.move (.var 0), none, none, true⟩, ⟨.len (.loc 0), none, (some 4), true⟩, ⟨.move (.k (.int .i64 0)), none, (some 3), true⟩])
 (.block 0 (.loop ((.seq (.ops [⟨.bin .lss .no (.var 3) (.var 4), none, (some 5), true⟩])
 ((.seq (.cond (.var 5) (.skip) (.exit 0))
 ((.seq (.block 1 ((.seq (.ops [⟨.move (.var 3), none, none, true⟩, ⟨.move (.loc 0), none, (some 6), true⟩])
 ((.seq (.ops [⟨.move (.var 1), none, none, true⟩, ⟨.move (.var 0), none, none, true⟩, ⟨.move (.var 6), none, none, true⟩, ⟨.indexAddr 1 (.loc 1) (.loc 2), none, none, true⟩, ⟨.load none (.loc 3), none, none, true⟩, ⟨.call (.loc 0) [(.loc 4)], none, (some 7), true⟩])
 (.cond (.var 7) ((.seq (.ops [⟨.move (.var 6), none, none, true⟩, ⟨.move (.loc 0), none, (some 2), true⟩])
 (.ret))) (.skip)))))))
 (.ops [⟨.bin .add .no (.var 3) (.k (.int .i64 1)), none, none, true⟩, ⟨.move (.loc 0), none, (some 3), true⟩])))))))))))
 ((.seq (.ops [⟨.move (.k (.int .i64 (-1))), none, (some 2), true⟩])
 (.ret))))))), none⟩
theorem v_slices_IndexFunc__int_int {F : Nat → Option RFunc} {me : Nat} (hF : F me = some (rf_slices_IndexFunc__int_int )) {fl : Nat} {H : Heap} {Q : AV → Heap → Prop} (s0 : AV) (fg1 : Nat) (fc2 : List AV)
  (h : ∃ len3 : Nat, lenA s0 = some len3 ∧ ∃ (J4 : Nat → Int → Heap → Prop) (k5 : Nat), J4 k5 0 H ∧ (∀ (m6 : Nat) (v8 : Int) (H12 : Heap), J4 m6 v8 H12 → ((v8 < (len3 : Int)) → ∃ (e13 : Int), getA H12 1 none s0 v8 0 = some (.int .i64 e13) ∧ Ret F fl fg1 (([(.int .i64 e13)] : List AV) ++ fc2) H12 (fun v17 H16 => ∃ (r15 : Bool), v17 = (.bool r15) ∧ ((r15 = true) → Q (.int .i64 v8) H16) ∧ (¬(r15 = true) → ∃ m18 : Nat, m18 < m6 ∧ J4 m18 (IntKind.wrap .i64 (v8 + 1)) H16))) ∧ (¬(v8 < (len3 : Int)) → Q (.int .i64 (-1)) H12))) : Ret F fl me [s0, (.func fg1 fc2)] H Q := by
  refine ret_intro hF rfl ?_
  refine w_seq ?_
  refine w_run [0] ?_
  refine t_done [s0, (.func fg1 fc2), (.int .i64 0), .undef, .undef, .undef, .undef, .undef] H (by kernel_rfl) ?_
  refine then_norm ?_
  refine w_seq ?_
  refine w_seq ?_
  refine w_run [0, 1, 0] ?_
  obtain ⟨len3, hl, h⟩ := h
  refine t_len true s0 len3 H (by kernel_rfl) hl ?_
  refine t_done [s0, (.func fg1 fc2), (.int .i64 0), (.int .i64 0), (.int .i64 (len3 : Int)), .undef, .undef, .undef] H (by kernel_rfl) ?_
  refine then_norm ?_
  refine w_block ?_
  obtain ⟨J4, k5, h0, h⟩ := h
  refine w_loop (I := fun mI EI HI => ∃ (d7 : AV) (v8 : Int) (d9 : AV) (d10 : AV) (d11 : AV), EI = [s0, (.func fg1 fc2), d7, (.int .i64 v8), (.int .i64 (len3 : Int)), d9, d10, d11] ∧ J4 mI v8 HI) ?_ k5 ⟨_, _, _, _, _, rfl, h0⟩
  clear h0
  rintro m6 EI H12 ⟨d7, v8, d9, d10, d11, rfl, hJ⟩
  replace h := h m6 v8 H12 hJ
  clear hJ
  refine w_seq ?_
  refine w_run [0] ?_
  refine t_done [s0, (.func fg1 fc2), d7, (.int .i64 v8), (.int .i64 (len3 : Int)), (.bool (decide (v8 < (len3 : Int)))), d10, d11] H12 (by kernel_rfl) ?_
  refine then_norm ?_
  refine w_seq ?_
  refine w_cond (t := (decide (v8 < (len3 : Int)))) rfl (fun hc => ?_) (fun hc => ?_)
  · replace h := h.1 (is_dec.t hc)
    refine w_skip ?_
    refine then_norm ?_
    refine w_seq ?_
    refine w_block ?_
    refine w_seq ?_
    refine w_run [0, 0] ?_
    refine t_done [s0, (.func fg1 fc2), d7, (.int .i64 v8), (.int .i64 (len3 : Int)), (.bool (decide (v8 < (len3 : Int)))), (.int .i64 v8), d11] H12 (by kernel_rfl) ?_
    refine then_norm ?_
    refine w_seq ?_
    refine w_run [0, 0, 0, 1, 1, 1] ?_
    obtain ⟨e13, hg14, h⟩ := h
    refine t_idxG true 1 s0 .i64 v8 H12 (by kernel_rfl) hg14 ?_
    refine t_loadG true none 1 s0 v8 0 (.int .i64 e13) H12 (by kernel_rfl) hg14 ?_
    refine t_call true fg1 (([(.int .i64 e13)] : List AV) ++ fc2) H12 (by kernel_rfl) h ?_
    clear h
    rintro _ H16 ⟨r15, rfl, h⟩
    refine t_done [s0, (.func fg1 fc2), d7, (.int .i64 v8), (.int .i64 (len3 : Int)), (.bool (decide (v8 < (len3 : Int)))), (.int .i64 v8), (.bool r15)] H16 (by kernel_rfl) ?_
    refine then_norm ?_
    refine w_cond (t := r15) rfl (fun hc => ?_) (fun hc => ?_)
    · replace h := h.1 (is_raw.t hc)
      refine w_seq ?_
      refine w_run [0, 0] ?_
      refine t_done [s0, (.func fg1 fc2), (.int .i64 v8), (.int .i64 v8), (.int .i64 (len3 : Int)), (.bool (decide (v8 < (len3 : Int)))), (.int .i64 v8), (.bool r15)] H16 (by kernel_rfl) ?_
      refine then_norm ?_
      refine w_ret ?_
      refine block_ret ?_
      refine then_ret ?_
      refine loop_ret ?_
      refine block_ret ?_
      refine then_ret ?_
      exact body_ret (vs := [(.int .i64 v8)]) _ (by kernel_rfl) rfl h
    · replace h := h.2 (is_raw.f hc)
      refine w_skip ?_
      refine block_norm ?_
      refine then_norm ?_
      refine w_run [0, 0] ?_
      refine t_done [s0, (.func fg1 fc2), d7, (.int .i64 (IntKind.wrap .i64 (v8 + 1))), (.int .i64 (len3 : Int)), (.bool (decide (v8 < (len3 : Int)))), (.int .i64 v8), (.bool r15)] H16 (by kernel_rfl) ?_
      obtain ⟨m', hm, h⟩ := h
      refine loop_norm ⟨m', hm, _, _, _, _, _, rfl, h⟩
  · replace h := h.2 (is_dec.f hc)
    refine w_exit ?_
    refine then_exit ?_
    refine loop_exit ?_
    refine block_exit ?_
    refine then_norm ?_
    refine w_seq ?_
    refine w_run [0] ?_
    refine t_done [s0, (.func fg1 fc2), (.int .i64 (-1)), (.int .i64 v8), (.int .i64 (len3 : Int)), (.bool (decide (v8 < (len3 : Int)))), d10, d11] H12 (by kernel_rfl) ?_
    refine then_norm ?_
    refine w_ret ?_
    exact body_ret (vs := [(.int .i64 (-1))]) _ (by kernel_rfl) rfl h

end Go.RM

/-
  Functions of package slices: what they return.
-/
namespace Go.RM
set_option linter.unusedSimpArgs false
set_option linter.unusedVariables false

/-- The first place of an element, as Go tells it. -/
def fidx {α : Type} (p : α → Bool) (l : List α) : Int := match l.findIdx? p with | some i => (i : Int) | none => -1

theorem fidx_nonneg {α : Type} (p : α → Bool) (l : List α) : decide (fidx p l ≥ 0) = l.any p := by
  unfold fidx
  cases h : l.findIdx? p with
  | none =>
    rw [List.findIdx?_eq_none_iff] at h
    simp only [ge_iff_le]
    have : l.any p = false := by rw [List.any_eq_false]; intro x hx; simp [h x hx]
    rw [this]; rfl
  | some i =>
    obtain ⟨h1, h2, _⟩ := List.findIdx?_eq_some_iff_getElem.1 h
    have : l.any p = true := List.any_eq_true.2 ⟨_, List.getElem_mem h1, h2⟩
    rw [this]; simp

theorem fidx_hit {α : Type} {p : α → Bool} {l : List α} {i : Nat} (h : i < l.length) (hp : p l[i] = true) (hn : ∀ x ∈ l.take i, p x = false) : fidx p l = i := by
  unfold fidx
  rw [List.findIdx?_eq_some_iff_getElem.2 ⟨h, hp, fun j hj => by
    have := hn l[j] (by rw [List.mem_take_iff_getElem]; exact ⟨j, by omega, rfl⟩)
    simp [this]⟩]
theorem fidx_none {α : Type} {p : α → Bool} {l : List α} (hn : ∀ x ∈ l, p x = false) : fidx p l = -1 := by
  unfold fidx
  rw [List.findIdx?_eq_none_iff.2 hn]

theorem take_step {α : Type} {p : α → Bool} {l : List α} {i : Nat} (h : i < l.length) (hp : p l[i] = false) (hn : ∀ x ∈ l.take i, p x = false) : ∀ x ∈ l.take (i + 1), p x = false := by
  intro x hx
  rw [List.take_succ_eq_append_getElem h, List.mem_append, List.mem_singleton] at hx
  rcases hx with hx | rfl
  · exact hn x hx
  · exact hp

variable {F : Nat → Option RFunc}

abbrev IndexIC (F : Nat → Option RFunc) (f : Nat) : Prop := ∀ {fl H Q v l n}, Ints H v l → Q (i64 (fidx (fun x => x == n) l)) H → Ret F fl f [v, i64 n] H Q
theorem indexI_c {f : Nat} (hF : F f = some rf_slices_Index__int_int) : IndexIC F f := fun {fl H Q v l n} hv hq => by
  refine v_slices_Index__int_int hF _ _ ?_
  refine ⟨_, hv.len, fun m v => ∃ i : Nat, v = i ∧ i + m = l.length ∧ ∀ x ∈ l.take i, (x == n) = false, l.length, ⟨0, rfl, by omega, by simp⟩, ?_⟩
  rintro m _ ⟨i, rfl, hm, hi⟩
  refine ⟨fun hlt => ?_, fun hge => ?_⟩
  · have hil : i < l.length := by omega
    refine ⟨_, hv.int hil, fun he => ?_, fun hne => ⟨m - 1, by omega, i + 1, wsucc hil hv.small, by omega, take_step (p := fun x => x == n) hil (by simpa using fun h => hne h.symm) hi⟩⟩
    rw [fidx_hit hil (by simp [he]) hi] at hq; exact hq
  · rw [List.take_of_length_le (by omega)] at hi
    rw [fidx_none hi] at hq; exact hq

abbrev ContainsIC (F : Nat → Option RFunc) (f : Nat) : Prop := ∀ {fl H Q v l n}, Ints H v l → Q (.bool (decide (n ∈ l))) H → Ret F fl f [v, i64 n] H Q
theorem containsI_c {f n1 : Nat} (hF : F f = some (rf_slices_Contains__int_int n1)) (h1 : IndexIC F n1) : ContainsIC F f := fun {fl H Q v l n} hv hq => by
  refine v_slices_Contains__int_int hF _ _ ?_
  refine h1 hv ⟨_, rfl, ?_⟩
  rw [fidx_nonneg]
  have : l.any (fun x => x == n) = decide (n ∈ l) := by
    rw [Bool.eq_iff_iff, List.any_eq_true, decide_eq_true_eq]
    constructor
    · rintro ⟨x, hx, he⟩; simp at he; rw [← he]; exact hx
    · intro h; exact ⟨n, h, by simp⟩
  rw [this]; exact hq

/-- A function value that tests an element. -/
def Tests (F : Nat → Option RFunc) {α : Type} (T : Ty α) (fl : Nat) (H : Heap) (g : Nat) (caps : List AV) (l : List α) (p : α → Bool) : Prop :=
  ∀ (c : AV) (a : α) (H' : Heap), a ∈ l → Keep H.length H H' → T.rel H' [c] a → Ret F fl g ([c] ++ caps) H' fun v H'' => v = .bool (p a) ∧ Keep H'.length H' H''

abbrev IndexFuncIC (F : Nat → Option RFunc) (f : Nat) : Prop := ∀ {fl H Q v l g caps p}, Ints H v l → Tests F tInt fl H g caps l p → (∀ H', Keep H.length H H' → Q (i64 (fidx p l)) H') → Ret F fl f [v, .func g caps] H Q
theorem indexFuncI_c {f : Nat} (hF : F f = some rf_slices_IndexFunc__int_int) : IndexFuncIC F f := fun {fl H Q v l g caps p} hv ht hq => by
  refine v_slices_IndexFunc__int_int hF _ _ _ ?_
  refine ⟨_, hv.len, fun m v H' => ∃ i : Nat, v = i ∧ i + m = l.length ∧ Keep H.length H H' ∧ ∀ x ∈ l.take i, p x = false, l.length, ⟨0, rfl, by omega, Keep.refl H, by simp⟩, ?_⟩
  rintro m _ H' ⟨i, rfl, hm, hk, hi⟩
  refine ⟨fun hlt => ?_, fun hge => ?_⟩
  · have hil : i < l.length := by omega
    refine ⟨_, (hv.keep hk).int hil, (ht _ l[i] H' (List.getElem_mem hil) hk rfl).mono ?_⟩
    rintro _ H2 ⟨rfl, hk2⟩
    refine ⟨_, rfl, fun he => ?_, fun hne => ⟨m - 1, by omega, i + 1, wsucc hil hv.small, by omega, hk.call hk2, take_step hil (by simpa using hne) hi⟩⟩
    have := hq H2 (hk.call hk2)
    rw [fidx_hit hil he hi] at this; exact this
  · rw [List.take_of_length_le (by omega)] at hi
    have := hq H' hk
    rw [fidx_none hi] at this; exact this

end Go.RM

/-
  Package rollout: rings that are written in place.
-/
namespace Go.RM
set_option linter.unusedSimpArgs false
set_option linter.unusedVariables false
set_option maxRecDepth 4000

namespace Rol
/-- A ring. -/
structure RS where
  conf : List Int
  act : Int
  good : Int
  bad : Int
structure PP where
  b1 : Int
  b2 : Int
  need : Int
  pm : Int
def rm (v : Int) (l : List Int) : List Int := l.eraseIdx (l.findIdx (fun x => x == v))
end Rol
open Rol

variable {F : Nat → Option RFunc}

abbrev ints (l : List Int) : List AV := l.map fun x => AV.int .i64 x
theorem Own.ints {n : Nat} {H : Heap} {v : AV} {l : List Int} (h : Own n H 1 v l.length (Go.RM.ints l)) : Ints H v l := by
  refine ⟨l.map fun x => [AV.int .i64 x], All2.ints l, ?_⟩
  rw [← Row.flat]; exact h.sl

/-! ### The rings on the heap -/

abbrev ringC (x : AV × RS) : List AV := [x.1, i64 x.2.act, i64 x.2.good, i64 x.2.bad]
def planC (p : PP) (b n : Nat) : List AV := [i64 p.b1, i64 p.b2, i64 p.need, i64 p.pm, .slice b 0 n (some n)]

structure RingsH (n : Nat) (H : Heap) (pb b : Nat) (l : List (AV × RS)) : Prop where
  row : MRow H b 4 (l.map ringC)
  lo : n ≤ b
  own : ∀ x ∈ l, Own n H 1 x.1 x.2.conf.length (ints x.2.conf)
  sep : ∀ i j (hi : i < l.length) (hj : j < l.length), i ≠ j → ∀ c, At l[i].1 c → ¬ At l[j].1 c
  offb : ∀ x ∈ l, ¬ At x.1 b ∧ ¬ At x.1 pb
  ne : pb ≠ b
  small : l.length ≤ 5

structure St (n : Nat) (H : Heap) (pb b : Nat) (p : PP) (l : List (AV × RS)) : Prop extends RingsH n H pb b l where
  box : Box H pb (planC p b l.length)

variable {n : Nat} {H H' : Heap} {pb b : Nat} {p : PP} {l : List (AV × RS)}

theorem St.keep (h : St n H pb b p l) (k : Keep H.length H H') : St n H' pb b p l where
  row := h.row.keep k
  lo := h.lo
  own := fun x hx => (h.own x hx).keep k
  sep := h.sep
  offb := h.offb
  ne := h.ne
  small := h.small
  box := h.box.frame (k.get pb h.box.lt)

theorem St.bn (h : St n H pb b p l) : n ≤ H.length := Nat.le_trans h.lo (Nat.le_of_lt h.row.lt)
theorem St.rings (h : St n H pb b p l) : rload H none pb (0 + 4) = some (.slice b 0 l.length (some l.length)) := h.box.load rfl
theorem St.ptr (h : St n H pb b p l) {i : Nat} (hi : i < l.length) : ptrA 4 (.slice b 0 l.length (some l.length)) (i : Int) = some (b, i * 4) := MRow.ptr hi
theorem St.cell (h : St n H pb b p l) {i : Nat} (hi : i < l.length) {o : Nat} {x : AV} (hx : (ringC l[i])[o]? = some x) : rload H none b (i * 4 + o) = some x := h.row.load (i := i) (c := ringC l[i]) (by simp [hi]) hx
theorem St.conf (h : St n H pb b p l) {i : Nat} (hi : i < l.length) : rload H none b (i * 4) = some l[i].1 := h.cell hi (o := 0) rfl
theorem St.act (h : St n H pb b p l) {i : Nat} (hi : i < l.length) : rload H none b (i * 4 + 1) = some (i64 l[i].2.act) := h.cell hi rfl

theorem RingsH.bn (h : RingsH n H pb b l) : n ≤ H.length := Nat.le_trans h.lo (Nat.le_of_lt h.row.lt)
/-! ### abort -/

namespace Rol
end Rol

/-- The rings of a state, without their slices. -/
abbrev rs (l : List (AV × RS)) : List RS := l.map (·.2)

end Go.RM

/-
  Package mergequeue: the queue on the heap, and what slices' functions do with its entries.
-/
namespace Go.RM
set_option linter.unusedSimpArgs false
set_option linter.unusedVariables false
set_option maxRecDepth 4000

namespace Mq
/-- An entry. -/
structure Ent where
  ch : Int
  pr : Int
  te : Bool
  pa : Bool
  fa : Bool
  af : List Int
  deriving DecidableEq
structure QS where
  es : List Ent
  la : List Int
  re : List Int
structure Ev where
  k : Int
  c : Int
  p : Int
abbrev mk (c p : Int) : Ent := ⟨c, p, false, false, false, []⟩
abbrev blank (e : Ent) : Ent := mk e.ch e.pr
def resetFrom (i : Nat) (l : List Ent) : List Ent := l.mapIdx fun k e => if i ≤ k then blank e else e
def posE (p : Int) (l : List Ent) : Nat := l.findIdx fun e => decide (e.pr < p)
def addE (q : QS) (c p : Int) : QS × Int :=
  if q.es.any (fun e => e.ch == c) || decide (c ∈ q.la) || decide (c ∈ q.re) then (q, 7)
  else if 10 ≤ q.es.length then (q, 14)
  else ({ q with es := resetFrom (posE p q.es) (q.es.take (posE p q.es) ++ mk c p :: q.es.drop (posE p q.es)) }, 0)
def resE (e : Ent) (k : Int) : Ent := { e with te := false, pa := k == 3, fa := k == 4 }
def stepE (q : QS) (x : Ev) : QS × Int :=
  if x.k < 1 ∨ x.k > 4 then (q, 4)
  else if x.c < 1 ∨ x.c > 1000000000 ∨ x.p < 0 ∨ x.p > 3 then (q, 3)
  else if x.k ≠ 1 ∧ x.p ≠ 0 then (q, 5)
  else if x.k = 1 then addE q x.c x.p
  else
    match q.es.findIdx? (fun e => e.ch == x.c) with
    | none => (q, 6)
    | some i =>
      if x.k = 2 then ({ q with es := resetFrom i (q.es.eraseIdx i) }, 0)
      else match q.es[i]? with
        | some e => if e.te then ({ q with es := q.es.set i (resE e x.k) }, 0) else (q, 11)
        | none => (q, 6)
end Mq
open Mq

variable {F : Nat → Option RFunc}

abbrev entC (x : AV × Ent) : List AV := [i64 x.2.ch, i64 x.2.pr, .bool x.2.te, .bool x.2.pa, .bool x.2.fa, x.1]
theorem entC_len (x : AV × Ent) : (entC x).length = 6 := rfl
theorem entC_lens (l : List (AV × Ent)) : ∀ c ∈ l.map entC, c.length = 6 := by
  intro c hc; obtain ⟨x, _, rfl⟩ := List.mem_map.1 hc; rfl

def tEnt : Ty Ent where
  e := 6
  rel H c x := ∃ v, c = entC (v, x) ∧ Ints H v x.af
  pos := by decide
  len h := by obtain ⟨v, rfl, _⟩ := h; rfl
  scal h := by
    obtain ⟨v, rfl, h⟩ := h
    show (true && (true && (true && (true && (true && (v.scalar && true)))))) = true
    rw [h.scal.2]; rfl
  keep k h := by obtain ⟨v, rfl, h⟩ := h; exact ⟨v, rfl, h.keep k⟩

def tEv : Ty Ev := tEnc 3 (fun x => [i64 x.k, i64 x.c, i64 x.p]) (by decide) (fun _ => rfl) (fun _ => rfl)

/-- The entries on the heap: their own slice may be written, what they refer to stays. -/
structure EntsH (n : Nat) (H : Heap) (ve : AV) (l : List (AV × Ent)) : Prop where
  own : Own n H 6 ve l.length (l.map entC).flatten
  nolim : NoLim ve
  af : ∀ x ∈ l, Own n H 1 x.1 x.2.af.length (ints x.2.af)
  off : ∀ x ∈ l, ∀ b, At x.1 b → ¬ At ve b

variable {n : Nat} {H H' : Heap} {ve : AV} {l : List (AV × Ent)}

theorem EntsH.nil : EntsH n H .empty [] := ⟨Own.nil, (fun b o k lim h => by cases h), (fun x hx => by cases hx), (fun x hx => by cases hx)⟩
theorem EntsH.keep (h : EntsH n H ve l) (k : Keep H.length H H') : EntsH n H' ve l := ⟨h.own.keep k, h.nolim, fun x hx => (h.af x hx).keep k, h.off⟩
theorem EntsH.frame (h : EntsH n H ve l) (hf : ∀ b, (At ve b ∨ ∃ x ∈ l, At x.1 b) → H'[b]? = H[b]?) : EntsH n H' ve l :=
  ⟨h.own.frame fun b hb => hf b (.inl hb), h.nolim, fun x hx => (h.af x hx).frame fun b hb => hf b (.inr ⟨x, hx, hb⟩), h.off⟩
theorem EntsH.all2 (h : EntsH n H ve l) : All2 (tEnt.rel H) (l.map entC) (l.map (·.2)) := by
  have : ∀ x ∈ l, Ints H x.1 x.2.af := fun x hx => (h.af x hx).ints
  clear h
  induction l with
  | nil => trivial
  | cons x l ih => exact ⟨⟨x.1, rfl, this x (by simp)⟩, ih fun y hy => this y (by simp [hy])⟩
theorem EntsH.arr (h : EntsH n H ve l) : Arr tEnt H ve (l.map (·.2)) := ⟨l.map entC, h.all2, by rw [List.length_map]; exact h.own.sl⟩
theorem EntsH.scal (h : EntsH n H ve l) : (l.map entC).flatten.all AV.scalar = true := h.all2.scals
theorem EntsH.at_lt (h : EntsH n H ve l) {b : Nat} (hb : At ve b ∨ ∃ x ∈ l, At x.1 b) : n ≤ b ∧ b < H.length := by
  rcases hb with hb | ⟨x, hx, hb⟩
  · exact h.own.at_lt hb
  · exact (h.af x hx).at_lt hb

theorem flat_eraseIdx : ∀ (l : List (AV × Ent)) (i : Nat), i < l.length → ((l.eraseIdx i).map entC).flatten = (l.map entC).flatten.take (i * 6) ++ (l.map entC).flatten.drop ((i + 1) * 6) := fun l i hi => by
  rw [flat_take i (entC_lens l), flat_drop (i + 1) (entC_lens l), List.eraseIdx_eq_take_drop_succ, List.map_append, List.map_take, List.map_drop, List.flatten_append]

theorem mem_erase {α : Type} {l : List α} {i : Nat} {x : α} (h : x ∈ l.eraseIdx i) : x ∈ l := by
  rw [List.eraseIdx_eq_take_drop_succ, List.mem_append] at h
  rcases h with h | h
  · exact List.mem_of_mem_take h
  · exact List.mem_of_mem_drop h

abbrev DeleteEC (F : Nat → Option RFunc) (f : Nat) : Prop := ∀ {fl H Q n ve} {l : List (AV × Ent)} {i : Nat}, EntsH n H ve l → i < l.length → fl ≤ n → l.length ≤ 2 ^ 20 →
  (∀ w H', EntsH n H' w (l.eraseIdx i) → H'.length = H.length → (∀ b, ¬ At ve b → H'[b]? = H[b]?) → (∀ b, At w b → At ve b) → Q w H') → Ret F fl f [ve, i64 (i : Int), i64 ((i + 1 : Nat) : Int)] H Q
theorem deleteE_c {f : Nat} (hF : F f = some rf_slices_Delete__api_QueueEntry_api_QueueEntry) : DeleteEC F f := fun {fl H Q n ve l i} hv hi hfl hl hq => by
  refine v_slices_Delete__api_QueueEntry_api_QueueEntry hF _ _ _ ?_
  obtain ⟨a1, ⟨s, a2⟩, s6, s7, a3, a4, w, H9, s11, H12, a5, a6, a7, a8, a9, a10, a11, a12, a13⟩ := hv.own.delE (bytes := 48) (z := [i64 0, i64 0, .bool false, .bool false, .bool false, .empty]) (by decide) hi hfl (by omega) (by decide) hv.scal rfl rfl
  refine ⟨_, a1, s, a2, fun h => by omega, fun _ => ⟨_, a1, s6, a3, s7, a4, w, H9, a5, _, a6, s11, a7, H12, a8, hq w H12 ⟨?_, ?_, ?_, ?_⟩ a10 a11 a12⟩⟩
  · rw [flat_eraseIdx l i hi, List.length_eraseIdx, if_pos hi]; exact a9
  · intro b o k lim he
    obtain ⟨o', k', he'⟩ := a13 b o k lim he
    exact hv.nolim _ _ _ _ he'
  · exact fun x hx => (hv.af x (mem_erase hx)).frame fun b hb => a11 b (hv.off x (mem_erase hx) b hb)
  · exact fun x hx b hb hw => hv.off x (mem_erase hx) b hb (a12 b hw)

abbrev InsertEC (F : Nat → Option RFunc) (f : Nat) : Prop := ∀ {fl H H1 Q n ve vb} {l : List (AV × Ent)} {i : Nat} {c p : Int}, EntsH n H ve l → NewB H 6 [i64 c, i64 p, .bool false, .bool false, .bool false, .empty] vb H1 → n ≤ H.length → i ≤ l.length → fl ≤ n → l.length ≤ 2 ^ 20 →
  (∀ w H', EntsH n H' w (l.take i ++ (.empty, mk c p) :: l.drop i) → H1.length ≤ H'.length → (∀ b, b < H1.length → ¬ At ve b → H'[b]? = H1[b]?) → (∀ b, At w b → At ve b ∨ H1.length ≤ b) → Q w H') → Ret F fl f [ve, i64 (i : Int), .slice vb 0 1 (some 1)] H1 Q
theorem insertE_c {f : Nat} (hF : F f = some rf_slices_Insert__api_QueueEntry_api_QueueEntry) : InsertEC F f := fun {fl H H1 Q n ve vb l i c p} hv hy hn hi hfl hl hq => by
  obtain ⟨w, H', a1, a2, a3, a4, a5, a6⟩ := hv.own.insert (bytes := 48) (i := i) (fl := fl) (by decide) hv.nolim hy rfl rfl hv.scal hn hi hfl hl (by decide)
  refine ret_prim hF rfl a1 (hq w H' ⟨?_, a3, ?_, ?_⟩ a4 a5 a6)
  · rw [flat_take i (entC_lens l), flat_drop i (entC_lens l)] at a2
    have e1 : ((l.take i ++ (AV.empty, mk c p) :: l.drop i).map entC).flatten = ((l.map entC).take i).flatten ++ [i64 c, i64 p, .bool false, .bool false, .bool false, .empty] ++ ((l.map entC).drop i).flatten := by
      rw [List.map_append, List.map_cons, List.map_take, List.map_drop, List.flatten_append, List.flatten_cons, List.append_assoc]
    rw [e1]
    have e2 : (l.take i ++ (AV.empty, mk c p) :: l.drop i).length = l.length + 1 := by rw [List.length_append, List.length_take, List.length_cons, List.length_drop]; omega
    rw [e2]; exact a2
  · intro x hx
    rcases List.mem_append.1 hx with hx | hx
    · have hm := List.mem_of_mem_take hx
      exact ((hv.af x hm).keep hy.keep).frame fun b hb => a5 b (Nat.lt_of_lt_of_le ((hv.af x hm).at_lt hb).2 hy.keep.len) (hv.off x hm b hb)
    · rcases List.mem_cons.1 hx with rfl | hx
      · exact Own.nil
      · have hm := List.mem_of_mem_drop hx
        exact ((hv.af x hm).keep hy.keep).frame fun b hb => a5 b (Nat.lt_of_lt_of_le ((hv.af x hm).at_lt hb).2 hy.keep.len) (hv.off x hm b hb)
  · intro x hx b hb hw
    have key : x ∈ l → False := fun hm => by
      rcases a6 b hw with h | h
      · exact hv.off x hm b hb h
      · have := ((hv.af x hm).at_lt hb).2
        have := hy.keep.len
        omega
    rcases List.mem_append.1 hx with hx | hx
    · exact key (List.mem_of_mem_take hx)
    · rcases List.mem_cons.1 hx with rfl | hx
      · exact at_empty hb
      · exact key (List.mem_of_mem_drop hx)

/-- A copy of a list of numbers, in a block of its own. -/
abbrev CloneIC (F : Nat → Option RFunc) (f : Nat) : Prop := ∀ {fl H Q v} {l : List Int} (n : Nat), Ints H v l → n ≤ H.length → l.length ≤ 2 ^ 20 → (∀ w H', Keep H.length H H' → Own n H' 1 w l.length (ints l) → (∀ b, At w b → H.length ≤ b) → Q w H') → Ret F fl f [v] H Q
theorem cloneI_c {f : Nat} (hF : F f = some rf_slices_Clone__int_int) : CloneIC F f := fun {fl H Q v l} n hv hn hl hq => by
  obtain ⟨css, h1, h2⟩ := hv
  have hcss : css = l.map fun x => [AV.int .i64 x] := by
    clear hq h2 hl
    induction l generalizing css with
    | nil => cases css with
      | nil => rfl
      | cons _ _ => exact h1.elim
    | cons x l ih => cases css with
      | nil => exact h1.elim
      | cons c css => rw [List.map_cons, ← ih css h1.2, show c = [AV.int .i64 x] from h1.1]
  subst hcss
  rw [← Row.flat] at h2
  obtain ⟨c1, c2⟩ := sl_cells h2
  have h2' : sliceCells H 1 l.length v = some (ints l) := c2
  by_cases h0 : l.length = 0
  · obtain rfl := List.eq_nil_of_length_eq_zero h0
    refine ret_prim (v := .empty) (H' := H) hF rfl ?_ (hq .empty H (Keep.refl H) Own.nil fun b hb => absurd hb at_empty)
    show rclone 1 8 H v = _
    unfold rclone; rw [c1]; rfl
  · refine ret_prim (v := .slice H.length 0 l.length none) (H' := H ++ [{ cells := ints l, e := 1 }]) hF rfl ?_ (hq _ _ (Keep.app _ _) ⟨by omega, .inr ⟨H.length, 0, none, { cells := ints l, e := 1 }, rfl, hn, snoc_end _ _, rfl, rfl, by simp, by
      show ints l = ((ints l).drop 0).take (l.length * 1)
      rw [List.drop_zero, Nat.mul_one, List.take_of_length_le (by simp)], ⟨l.length, by simp⟩, fun c hc => by cases hc⟩⟩ fun b hb => Nat.le_of_eq (at_slice.same hb))
    show rclone 1 8 H v = _
    unfold rclone; rw [c1]
    simp only
    rw [if_neg h0, if_pos ⟨by decide, by omega, by omega⟩, h2']
    rfl

end Go.RM

/-
  Package mergequeue: the queue's own functions.
-/
namespace Go.RM
set_option linter.unusedSimpArgs false
set_option linter.unusedVariables false
set_option maxRecDepth 4000
open Mq

variable {F : Nat → Option RFunc}

/-- What a run may have touched, and what it stands on afterwards. -/
structure Evo (n : Nat) (H H' : Heap) (f f' : Nat → Prop) : Prop where
  low : n ≤ H.length
  len : H.length ≤ H'.length
  ge : ∀ b, f b → n ≤ b
  fr : ∀ b, b < H.length → ¬ f b → H'[b]? = H[b]?
  sub : ∀ b, f' b → f b ∨ H.length ≤ b

theorem Evo.keep {n : Nat} {H H' : Heap} {f f' : Nat → Prop} (h : Evo n H H' f f') : Keep n H H' := ⟨h.low, h.len, fun b hb => h.fr b (Nat.lt_of_lt_of_le hb h.low) fun hf => by have := h.ge b hf; omega⟩
theorem Evo.trans {n : Nat} {H H1 H2 : Heap} {f f1 f2 : Nat → Prop} (a : Evo n H H1 f f1) (b : Evo n H1 H2 f1 f2) : Evo n H H2 f f2 :=
  ⟨a.low, Nat.le_trans a.len b.len, a.ge, fun x hx hf => by
    rw [b.fr x (Nat.lt_of_lt_of_le hx a.len) fun h => by
      rcases a.sub x h with h | h
      · exact hf h
      · omega, a.fr x hx hf], fun x hx => by
    rcases b.sub x hx with h | h
    · exact a.sub x h
    · exact .inr (Nat.le_trans a.len h)⟩
theorem Evo.of {n : Nat} {H H' : Heap} {f : Nat → Prop} (hn : n ≤ H.length) (hg : ∀ b, f b → n ≤ b) (k : Keep H.length H H') : Evo n H H' f f := ⟨hn, k.len, hg, fun b hb _ => k.get b hb, fun b hb => .inl hb⟩

structure QSt (n : Nat) (H : Heap) (qb : Nat) (w : Int) (ve vl vr : AV) (l : List (AV × Ent)) (la re : List Int) : Prop where
  ents : EntsH n H ve l
  box : Box H qb [ve, vl, vr, i64 w]
  lo : n ≤ qb
  la : Own n H 1 vl la.length (ints la)
  re : Own n H 1 vr re.length (ints re)
  qe : ¬ At ve qb
  ql : ¬ At vl qb
  qr : ¬ At vr qb
  el : ∀ b, At vl b → ¬ At ve b
  er : ∀ b, At vr b → ¬ At ve b
  lr : ∀ b, At vl b → ¬ At vr b
  aq : ∀ x ∈ l, ∀ b, At x.1 b → b ≠ qb ∧ ¬ At vl b ∧ ¬ At vr b

def QFoot (qb : Nat) (ve vl vr : AV) (l : List (AV × Ent)) (b : Nat) : Prop := b = qb ∨ At ve b ∨ At vl b ∨ At vr b ∨ ∃ x ∈ l, At x.1 b

section
variable {n qb : Nat} {H H1 H' : Heap} {w : Int} {ve vl vr ve' : AV} {l l' : List (AV × Ent)} {la re : List Int}

theorem QSt.bn (h : QSt n H qb w ve vl vr l la re) : n ≤ H.length := Nat.le_trans h.lo (Nat.le_of_lt h.box.lt)
theorem QSt.foot_lt (h : QSt n H qb w ve vl vr l la re) {b : Nat} (hb : QFoot qb ve vl vr l b) : n ≤ b ∧ b < H.length := by
  rcases hb with rfl | hb | hb | hb | hb
  · exact ⟨h.lo, h.box.lt⟩
  · exact h.ents.at_lt (.inl hb)
  · exact h.la.at_lt hb
  · exact h.re.at_lt hb
  · exact h.ents.at_lt (.inr hb)
theorem QSt.frame (h : QSt n H qb w ve vl vr l la re) (hf : ∀ b, QFoot qb ve vl vr l b → H'[b]? = H[b]?) : QSt n H' qb w ve vl vr l la re :=
  { h with ents := h.ents.frame fun b hb => hf b (by rcases hb with hb | hb; exact .inr (.inl hb); exact .inr (.inr (.inr (.inr hb))))
           box := h.box.frame (hf qb (.inl rfl)), la := h.la.frame fun b hb => hf b (.inr (.inr (.inl hb))), re := h.re.frame fun b hb => hf b (.inr (.inr (.inr (.inl hb)))) }
theorem QSt.keep (h : QSt n H qb w ve vl vr l la re) (k : Keep H.length H H') : QSt n H' qb w ve vl vr l la re := h.frame fun b hb => k.get b (h.foot_lt hb).2
theorem QSt.evo (h : QSt n H qb w ve vl vr l la re) (k : Keep H.length H H') : Evo n H H' (QFoot qb ve vl vr l) (QFoot qb ve vl vr l) := Evo.of h.bn (fun b hb => (h.foot_lt hb).1) k

theorem QSt.entries (h : QSt n H qb w ve vl vr l la re) : rload H none qb 0 = some ve := h.box.load rfl
theorem QSt.landed (h : QSt n H qb w ve vl vr l la re) : rload H none qb (0 + 1) = some vl := h.box.load rfl
theorem QSt.rejected (h : QSt n H qb w ve vl vr l la re) : rload H none qb (0 + 2) = some vr := h.box.load rfl
theorem QSt.window (h : QSt n H qb w ve vl vr l la re) : rload H none qb (0 + 3) = some (i64 w) := h.box.load rfl

/-- The entries have changed in place. -/
theorem QSt.entsIn (h : QSt n H qb w ve vl vr l la re) (hE : EntsH n H1 ve l') (hlen : H.length ≤ H1.length) (hfr : ∀ b, b < H.length → ¬ At ve b → H1[b]? = H[b]?) (haf : ∀ x ∈ l', ∀ b, At x.1 b → (∃ y ∈ l, At y.1 b) ∨ H.length ≤ b) :
    QSt n H1 qb w ve vl vr l' la re ∧ Evo n H H1 (QFoot qb ve vl vr l) (QFoot qb ve vl vr l') := by
  have hlb : ∀ b, At vl b → b < H.length := fun b hb => (h.la.at_lt hb).2
  have hrb : ∀ b, At vr b → b < H.length := fun b hb => (h.re.at_lt hb).2
  refine ⟨{ h with ents := hE, box := h.box.frame (hfr qb h.box.lt h.qe), la := h.la.frame fun b hb => hfr b (hlb b hb) (h.el b hb), re := h.re.frame fun b hb => hfr b (hrb b hb) (h.er b hb), aq := fun x hx b hb => ?_ },
    ⟨h.bn, hlen, fun b hb => (h.foot_lt hb).1, fun b hb hf => hfr b hb fun ha => hf (.inr (.inl ha)), fun b hb => ?_⟩⟩
  · rcases haf x hx b hb with ⟨y, hy, hyb⟩ | hge
    · exact h.aq y hy b hyb
    · refine ⟨fun e => ?_, fun ha => ?_, fun ha => ?_⟩
      · have := h.box.lt; omega
      · have := hlb b ha; omega
      · have := hrb b ha; omega
  · rcases hb with rfl | hb | hb | hb | ⟨x, hx, hb⟩
    · exact .inl (.inl rfl)
    · exact .inl (.inr (.inl hb))
    · exact .inl (.inr (.inr (.inl hb)))
    · exact .inl (.inr (.inr (.inr (.inl hb))))
    · rcases haf x hx b hb with hy | hge
      · exact .inl (.inr (.inr (.inr (.inr hy))))
      · exact .inr hge

/-- Another slice of entries is laid into the queue. -/
theorem QSt.entsPut (h : QSt n H qb w ve vl vr l la re) (hE : EntsH n H1 ve' l') (hlen : H.length ≤ H1.length) (hfr : ∀ b, b < H.length → ¬ At ve b → H1[b]? = H[b]?) (hat : ∀ b, At ve' b → At ve b ∨ H.length ≤ b) (haf : ∀ x ∈ l', ∀ b, At x.1 b → (∃ y ∈ l, At y.1 b) ∨ H.length ≤ b) {fl : Nat} (hfl : fl ≤ n) :
    ∃ H2, putA fl H1 qb 0 1 ve' = some H2 ∧ QSt n H2 qb w ve' vl vr l' la re ∧ Evo n H H2 (QFoot qb ve vl vr l) (QFoot qb ve' vl vr l') := by
  have hlb : ∀ b, At vl b → b < H.length := fun b hb => (h.la.at_lt hb).2
  have hrb : ∀ b, At vr b → b < H.length := fun b hb => (h.re.at_lt hb).2
  have hq := h.box.lt
  have hb1 := h.box.frame (hfr qb hq h.qe)
  have hve := hE.own.scal
  obtain ⟨H2, a1, a2, a3⟩ := hb1.put (fl := fl) (o := 0) (n := 1) (v := ve') (by rw [hve.1]; rfl) (by simp) (by rw [hve.1, List.all_cons, hve.2]; rfl) (Nat.le_trans hfl h.lo)
  have hqe : ¬ At ve' qb := fun ha => by
    rcases hat qb ha with h1 | h1
    · exact h.qe h1
    · omega
  have haq : ∀ x ∈ l', ∀ b, At x.1 b → b ≠ qb ∧ ¬ At vl b ∧ ¬ At vr b := fun x hx b hb => by
    rcases haf x hx b hb with ⟨y, hy, hyb⟩ | hge
    · exact h.aq y hy b hyb
    · refine ⟨fun e => ?_, fun ha => ?_, fun ha => ?_⟩
      · omega
      · have := hlb b ha; omega
      · have := hrb b ha; omega
  refine ⟨H2, a1, { ents := hE.frame fun b hb => a3.get b ?_, box := ?_, lo := h.lo, la := h.la.frame fun b hb => ?_, re := h.re.frame fun b hb => ?_, qe := hqe, ql := h.ql, qr := h.qr, el := fun b hb ha => ?_, er := fun b hb ha => ?_, lr := h.lr, aq := haq },
    ⟨h.bn, by rw [a3.len]; exact hlen, fun b hb => (h.foot_lt hb).1, fun b hb hf => ?_, fun b hb => ?_⟩⟩
  · rintro rfl
    rcases hb with hb | ⟨x, hx, hb⟩
    · exact hqe hb
    · exact (haq x hx _ hb).1 rfl
  · rw [hve.1] at a2; exact a2
  · rw [a3.get b fun e => h.ql (e ▸ hb), hfr b (hlb b hb) (h.el b hb)]
  · rw [a3.get b fun e => h.qr (e ▸ hb), hfr b (hrb b hb) (h.er b hb)]
  · rcases hat b ha with h1 | h1
    · exact h.el b hb h1
    · have := hlb b hb; omega
  · rcases hat b ha with h1 | h1
    · exact h.er b hb h1
    · have := hrb b hb; omega
  · rw [a3.get b fun e => hf (.inl e), hfr b hb fun ha => hf (.inr (.inl ha))]
  · rcases hb with rfl | hb | hb | hb | ⟨x, hx, hb⟩
    · exact .inl (.inl rfl)
    · rcases hat b hb with h1 | h1
      · exact .inl (.inr (.inl h1))
      · exact .inr h1
    · exact .inl (.inr (.inr (.inl hb)))
    · exact .inl (.inr (.inr (.inr (.inl hb))))
    · rcases haf x hx b hb with hy | hge
      · exact .inl (.inr (.inr (.inr (.inr hy))))
      · exact .inr hge

theorem own_push {v : AV} {ls : List Int} {c : Int} {b : Nat} {fl : Nat} (h : Own n H 1 v ls.length (ints ls)) (hn : n ≤ H.length) (hb : NewB H 1 [i64 c] b H1) (hfl : fl ≤ n) (hl : ls.length ≤ 2 ^ 20) :
    ∃ v' H2, appA fl true 1 8 H1 v (.slice b 0 1 (some 1)) = some (v', H2) ∧ Own n H2 1 v' (ls ++ [c]).length (ints (ls ++ [c])) ∧ H.length ≤ H2.length ∧ (∀ x, x < H.length → ¬ At v x → H2[x]? = H[x]?) ∧ (∀ x, At v' x → At v x ∨ H.length ≤ x) := by
  obtain ⟨v', H2, a1, a2, a3, a4, a5⟩ := (h.keep hb.keep).push (bytes := 8) (fl := fl) (by decide) (hb.sl (n := 1) rfl) (Nat.le_trans hn hb.keep.len) hfl (by rfl) (by omega) (by decide)
  refine ⟨v', H2, a1, ?_, Nat.le_trans hb.keep.len a3, fun x hx hne => ?_, fun x hx => ?_⟩
  · rw [List.length_append]; unfold ints at a2 ⊢; rw [List.map_append]; exact a2
  · rw [a4 x (Nat.lt_of_lt_of_le hx hb.keep.len) hne, hb.keep.get x hx]
  · rcases a5 x hx with h1 | h1
    · exact .inl h1
    · exact .inr (Nat.le_trans hb.keep.len h1)

/-- A change lands. -/
theorem QSt.landPut (h : QSt n H qb w ve vl vr l la re) {vl' : AV} {la' : List Int} (hL : Own n H1 1 vl' la'.length (ints la')) (hlen : H.length ≤ H1.length) (hfr : ∀ b, b < H.length → ¬ At vl b → H1[b]? = H[b]?) (hat : ∀ b, At vl' b → At vl b ∨ H.length ≤ b) {fl : Nat} (hfl : fl ≤ n) :
    ∃ H2, putA fl H1 qb (0 + 1) 1 vl' = some H2 ∧ QSt n H2 qb w ve vl' vr l la' re ∧ Evo n H H2 (QFoot qb ve vl vr l) (QFoot qb ve vl' vr l) := by
  have heb : ∀ b, (At ve b ∨ ∃ x ∈ l, At x.1 b) → b < H.length := fun b hb => (h.ents.at_lt hb).2
  have hrb : ∀ b, At vr b → b < H.length := fun b hb => (h.re.at_lt hb).2
  have hq := h.box.lt
  have hb1 := h.box.frame (hfr qb hq h.ql)
  have hve := hL.scal
  obtain ⟨H2, a1, a2, a3⟩ := hb1.put (fl := fl) (o := 0 + 1) (n := 1) (v := vl') (by rw [hve.1]; rfl) (by simp) (by rw [hve.1, List.all_cons, hve.2]; rfl) (Nat.le_trans hfl h.lo)
  have hql : ¬ At vl' qb := fun ha => by
    rcases hat qb ha with h1 | h1
    · exact h.ql h1
    · omega
  have hge : ∀ b, At vl' b → (b < H.length → At vl b) := fun b hb hlt => by
    rcases hat b hb with h1 | h1
    · exact h1
    · omega
  refine ⟨H2, a1, { ents := h.ents.frame fun b hb => ?_, box := ?_, lo := h.lo, la := hL.frame fun b hb => a3.get b fun e => hql (e ▸ hb), re := h.re.frame fun b hb => ?_, qe := h.qe, ql := hql, qr := h.qr, el := fun b hb ha => h.el b (hge b hb (heb b (.inl ha))) ha, er := h.er, lr := fun b hb ha => h.lr b (hge b hb (hrb b ha)) ha, aq := fun x hx b hb => ⟨(h.aq x hx b hb).1, fun ha => (h.aq x hx b hb).2.1 (hge b ha (heb b (.inr ⟨x, hx, hb⟩))), (h.aq x hx b hb).2.2⟩ },
    ⟨h.bn, by rw [a3.len]; exact hlen, fun b hb => (h.foot_lt hb).1, fun b hb hf => ?_, fun b hb => ?_⟩⟩
  · rw [a3.get b ?_, hfr b (heb b hb) ?_]
    · rcases hb with hb | ⟨x, hx, hb⟩
      · exact fun ha => h.el b ha hb
      · exact (h.aq x hx b hb).2.1
    · rcases hb with hb | ⟨x, hx, hb⟩
      · exact fun e => h.qe (e ▸ hb)
      · exact (h.aq x hx b hb).1
  · rw [hve.1] at a2; exact a2
  · rw [a3.get b fun e => h.qr (e ▸ hb), hfr b (hrb b hb) fun ha => h.lr b ha hb]
  · rw [a3.get b fun e => hf (.inl e), hfr b hb fun ha => hf (.inr (.inr (.inl ha)))]
  · rcases hb with rfl | hb | hb | hb | hb
    · exact .inl (.inl rfl)
    · exact .inl (.inr (.inl hb))
    · rcases hat b hb with h1 | h1
      · exact .inl (.inr (.inr (.inl h1)))
      · exact .inr h1
    · exact .inl (.inr (.inr (.inr (.inl hb))))
    · exact .inl (.inr (.inr (.inr (.inr hb))))

/-- A change is rejected. -/
theorem QSt.rejPut (h : QSt n H qb w ve vl vr l la re) {vr' : AV} {re' : List Int} (hR : Own n H1 1 vr' re'.length (ints re')) (hlen : H.length ≤ H1.length) (hfr : ∀ b, b < H.length → ¬ At vr b → H1[b]? = H[b]?) (hat : ∀ b, At vr' b → At vr b ∨ H.length ≤ b) {fl : Nat} (hfl : fl ≤ n) :
    ∃ H2, putA fl H1 qb (0 + 2) 1 vr' = some H2 ∧ QSt n H2 qb w ve vl vr' l la re' ∧ Evo n H H2 (QFoot qb ve vl vr l) (QFoot qb ve vl vr' l) := by
  have heb : ∀ b, (At ve b ∨ ∃ x ∈ l, At x.1 b) → b < H.length := fun b hb => (h.ents.at_lt hb).2
  have hlb : ∀ b, At vl b → b < H.length := fun b hb => (h.la.at_lt hb).2
  have hq := h.box.lt
  have hb1 := h.box.frame (hfr qb hq h.qr)
  have hve := hR.scal
  obtain ⟨H2, a1, a2, a3⟩ := hb1.put (fl := fl) (o := 0 + 2) (n := 1) (v := vr') (by rw [hve.1]; rfl) (by simp) (by rw [hve.1, List.all_cons, hve.2]; rfl) (Nat.le_trans hfl h.lo)
  have hql : ¬ At vr' qb := fun ha => by
    rcases hat qb ha with h1 | h1
    · exact h.qr h1
    · omega
  have hge : ∀ b, At vr' b → (b < H.length → At vr b) := fun b hb hlt => by
    rcases hat b hb with h1 | h1
    · exact h1
    · omega
  refine ⟨H2, a1, { ents := h.ents.frame fun b hb => ?_, box := ?_, lo := h.lo, re := hR.frame fun b hb => a3.get b fun e => hql (e ▸ hb), la := h.la.frame fun b hb => ?_, qe := h.qe, ql := h.ql, qr := hql, el := h.el, er := fun b hb ha => h.er b (hge b hb (heb b (.inl ha))) ha, lr := fun b hb ha => h.lr b hb (hge b ha (hlb b hb)), aq := fun x hx b hb => ⟨(h.aq x hx b hb).1, (h.aq x hx b hb).2.1, fun ha => (h.aq x hx b hb).2.2 (hge b ha (heb b (.inr ⟨x, hx, hb⟩)))⟩ },
    ⟨h.bn, by rw [a3.len]; exact hlen, fun b hb => (h.foot_lt hb).1, fun b hb hf => ?_, fun b hb => ?_⟩⟩
  · rw [a3.get b ?_, hfr b (heb b hb) ?_]
    · rcases hb with hb | ⟨x, hx, hb⟩
      · exact fun ha => h.er b ha hb
      · exact (h.aq x hx b hb).2.2
    · rcases hb with hb | ⟨x, hx, hb⟩
      · exact fun e => h.qe (e ▸ hb)
      · exact (h.aq x hx b hb).1
  · rw [hve.1] at a2; exact a2
  · rw [a3.get b fun e => h.ql (e ▸ hb), hfr b (hlb b hb) fun ha => h.lr b hb ha]
  · rw [a3.get b fun e => hf (.inl e), hfr b hb fun ha => hf (.inr (.inr (.inr (.inl ha))))]
  · rcases hb with rfl | hb | hb | hb | hb
    · exact .inl (.inl rfl)
    · exact .inl (.inr (.inl hb))
    · exact .inl (.inr (.inr (.inl hb)))
    · rcases hat b hb with h1 | h1
      · exact .inl (.inr (.inr (.inr (.inl h1))))
      · exact .inr h1
    · exact .inl (.inr (.inr (.inr (.inr hb))))

/-- An entry's cells are written. -/
theorem EntsH.put (h : EntsH n H ve l) {i : Nat} (hi : i < l.length) : ∃ b o, ptrA 6 ve (i : Int) = some (b, o) ∧ At ve b ∧
    (∀ o' x, (entC l[i])[o']? = some x → rload H none b (o + o') = some x) ∧
    (∀ fl o' k v (x : AV × Ent), fl ≤ n → v.cells.length = k → o' + k ≤ 6 → v.cells.all AV.scalar = true → splice (entC l[i]) o' v.cells = entC x → Own n H 1 x.1 x.2.af.length (ints x.2.af) → (∀ b, At x.1 b → ¬ At ve b) →
      ∃ H', putA fl H b (o + o') k v = some H' ∧ EntsH n H' ve (l.set i x) ∧ KeepX b H H') := by
  obtain ⟨b, o, h1, h2, h3, h4, h5⟩ := h.own.elemR (entC_lens l) (by simp) (i := i) (by simpa using hi)
  have e0 : (l.map entC)[i]'(by simpa using hi) = entC l[i] := by simp
  rw [e0] at h4 h5
  refine ⟨b, o, h1, h2, h4, fun fl o' k v x hfl hk hok hs hx hown hoff => ?_⟩
  obtain ⟨H', a1, a2, a3⟩ := h5 fl o' k v hfl hk hok hs
  refine ⟨H', a1, ⟨?_, h.nolim, fun y hy => ?_, fun y hy => ?_⟩, a3⟩
  · rw [hx] at a2
    rw [List.length_set, List.map_set]; exact a2
  · rcases List.mem_or_eq_of_mem_set hy with hy | rfl
    · exact (h.af y hy).frame fun c hc => a3.get c fun e => h.off y hy c hc (e ▸ h2)
    · exact hown.frame fun c hc => a3.get c fun e => hoff c hc (e ▸ h2)
  · rcases List.mem_or_eq_of_mem_set hy with hy | rfl
    · exact h.off y hy
    · exact hoff

end

end Go.RM

