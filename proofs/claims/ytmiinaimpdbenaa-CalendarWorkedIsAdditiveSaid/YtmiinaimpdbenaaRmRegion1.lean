/-
  A region, in whatever order the model takes it: the static facts.
-/
import Derived.Test.YtmiinaimpdbenaaRmSound12
namespace Go.RM
set_option linter.unusedSimpArgs false

structure Comp (P : Program) (vars : List Nat) (nt : Nat) (draw : Bool) (A : List Nat) (all : List Oper) (i : Nat) (o : Oper) (ro : ROper) : Prop where
  code : ∃ ap, (if isStore o.op then apartOf vars draw A all i all 0 else some []) = some ap ∧ compileOp P (resAt vars draw A all i) ap o.op = some ro.op ∧ (ap.isEmpty || lsOnly all) = true
  dst : ∀ d, o.dst = some d → d < nt ∧ writer d all 0 = some i
  guard : ro.guard = o.guard ∧ ∀ g b, o.guard = some (g, b) → g < i ∧ preB draw A g i = true ∧ ((all[g]?).bind (·.dst)).isSome = true
  must : mustWrite o.op = true → freeAt draw A all i = true
  rdst : ro.dst = o.dst.bind (idx · vars)
  free : ro.free = freeAt draw A all i

theorem compileOper_cases {P : Program} {vars : List Nat} {nt : Nat} {draw : Bool} {A : List Nat} {all : List Oper} {i : Nat} {o : Oper} {ro : ROper} (h : compileOper P vars nt draw A all i o = some ro) :
    (ro.op = .fail ∧ ro.guard = none) ∨ Comp P vars nt draw A all i o ro := by
  unfold compileOper at h
  split at h
  · simp at h
  · rename_i ap hap
    split at h
    · simp only [Option.some.injEq] at h; subst h; exact .inl ⟨rfl, rfl⟩
    · rename_i r hr
      rw [Option.ite_none_right_eq_some] at h
      obtain ⟨hc, h⟩ := h
      simp only [Option.some.injEq] at h; subst h
      simp only [Bool.and_eq_true] at hc
      obtain ⟨⟨⟨c2, c3⟩, c4⟩, c5⟩ := hc
      refine .inr ⟨⟨ap, hap, hr, c5⟩, fun d hd => ?_, ⟨rfl, fun g b hg => ?_⟩, fun hm => ?_, rfl, rfl⟩
      · rw [hd] at c2
        simp only [Bool.and_eq_true, decide_eq_true_eq, beq_iff_eq] at c2
        exact c2
      · rw [hg] at c3
        simp only [Bool.and_eq_true, decide_eq_true_eq] at c3
        exact ⟨c3.1.1, c3.1.2, c3.2⟩
      · rw [hm] at c4; simpa using c4

theorem compileOpers_get {P : Program} {vars : List Nat} {nt : Nat} {draw : Bool} {A : List Nat} {all : List Oper} : ∀ {l : List Oper} {i0 : Nat} {rs : List ROper}, compileOpers P vars nt draw A all l i0 = some rs →
    rs.length = l.length ∧ ∀ (k : Nat) (o : Oper), l[k]? = some o → ∃ ro, rs[k]? = some ro ∧ compileOper P vars nt draw A all (i0 + k) o = some ro
  | [], i0, rs, h => by
    simp only [compileOpers, Option.some.injEq] at h; subst h
    exact ⟨rfl, fun k o h => by simp at h⟩
  | o :: l, i0, rs, h => by
    simp only [compileOpers] at h
    split at h
    · rename_i r rs' h1 h2
      simp only [Option.some.injEq] at h; subst h
      obtain ⟨e1, e2⟩ := compileOpers_get h2
      refine ⟨by simp [e1], fun k o' hk => ?_⟩
      cases k with
      | zero => simp only [List.getElem?_cons_zero, Option.some.injEq] at hk; subst hk; exact ⟨r, rfl, h1⟩
      | succ k =>
        obtain ⟨ro, g1, g2⟩ := e2 k o' (by simpa using hk)
        exact ⟨ro, by simpa using g1, by rwa [show i0 + (k + 1) = i0 + 1 + k by omega]⟩
    · simp at h

theorem writer_some {t : Nat} : ∀ {l : List Oper} {k i : Nat}, writer t l k = some i → k ≤ i ∧ ∃ o, l[i - k]? = some o ∧ o.dst = some t
  | [], k, i, h => by simp [writer] at h
  | o :: l, k, i, h => by
    simp only [writer] at h
    split at h
    · rename_i hd
      simp only [Option.some.injEq] at h; subst h
      exact ⟨Nat.le_refl _, o, by simp, hd⟩
    · obtain ⟨h1, o', h2, h3⟩ := writer_some h
      refine ⟨by omega, o', ?_, h3⟩
      rw [show i - k = (i - (k + 1)) + 1 by omega]
      simpa using h2

theorem writer_none {t : Nat} : ∀ {l : List Oper} {k : Nat}, writer t l k = none → ∀ (j : Nat) (o : Oper), l[j]? = some o → o.dst ≠ some t
  | [], _, _, j, o, h => by simp at h
  | o' :: l, k, h, j, o, hj => by
    simp only [writer] at h
    split at h
    · simp at h
    · rename_i hd
      cases j with
      | zero => simp only [List.getElem?_cons_zero, Option.some.injEq] at hj; subst hj; exact hd
      | succ j => exact writer_none h j o (by simpa using hj)

theorem idx_some {t : Nat} : ∀ {l : List Nat} {y : Nat}, idx t l = some y → l[y]? = some t
  | [], y, h => by simp [idx] at h
  | m :: l, y, h => by
    simp only [idx] at h
    split at h
    · rename_i e
      simp only [Option.some.injEq] at h; subst h; subst e; rfl
    · simp only [Option.map_eq_some_iff] at h
      obtain ⟨z, h1, rfl⟩ := h
      simpa using idx_some h1

theorem memN_iff {n : Nat} : ∀ {l : List Nat}, memN n l = true ↔ n ∈ l
  | [] => by simp [memN]
  | m :: l => by simp [memN, memN_iff (l := l)]

theorem idx_of_get {t : Nat} : ∀ {l : List Nat} {y : Nat}, nodupB l = true → l[y]? = some t → idx t l = some y
  | [], y, _, h => by simp at h
  | m :: l, y, hn, h => by
    simp only [nodupB, Bool.and_eq_true, Bool.not_eq_true'] at hn
    cases y with
    | zero => simp only [List.getElem?_cons_zero, Option.some.injEq] at h; subst h; simp [idx]
    | succ y =>
      have h' : l[y]? = some t := by simpa using h
      have hne : t ≠ m := fun e => by
        subst e
        have := memN_iff.2 (List.mem_of_getElem? h')
        rw [this] at hn
        simp at hn
      simp [idx, hne, idx_of_get hn.2 h']

theorem zipIdx_all {f : Oper × Nat → Bool} {l : List Oper} (h : l.zipIdx.all f = true) (j : Nat) (o : Oper) (hj : l[j]? = some o) : f (o, j) = true := by
  have hm : (o, j) ∈ l.zipIdx := by
    rw [List.mem_zipIdx_iff_getElem?]
    exact hj
  exact List.all_eq_true.1 h _ hm

theorem freeAt_ord {draw : Bool} {A : List Nat} {all : List Oper} {i : Nat} (h : freeAt draw A all i = true) {j : Nat} {o : Oper} (hj : all[j]? = some o) (hne : j ≠ i) (ht : touches o.op = true) : ordB draw A i j = true := by
  unfold freeAt at h
  have := zipIdx_all h j o hj
  simp only [ht, Bool.or_eq_true, beq_iff_eq] at this
  rcases this with (h | h) | h
  · exact absurd h hne
  · simp at h
  · exact h

theorem apartOf_ord {vars : List Nat} {draw : Bool} {A : List Nat} {all : List Oper} {i : Nat} : ∀ {l : List Oper} {k : Nat} {ap : List RX}, apartOf vars draw A all i l k = some ap →
    ∀ (j : Nat) (o : Oper), l[j]? = some o → k + j ≠ i → touches o.op = true → ordB draw A i (k + j) = true ∨ ∃ t x y, o.op = .load t x ∧ resAt vars draw A all (k + j) x = some (.var y) ∧ RX.var y ∈ ap
  | [], _, _, _, j, o, h, _, _ => by simp at h
  | o' :: l, k, ap, h, j, o, hj, hne, ht => by
    simp only [apartOf] at h
    split at h
    · simp at h
    · rename_i r hr
      cases j with
      | zero =>
        simp only [List.getElem?_cons_zero, Option.some.injEq] at hj; subst hj
        simp only [Nat.add_zero] at hne ⊢
        split at h
        · rename_i hc
          simp only [ht, Bool.or_eq_true, beq_iff_eq] at hc
          rcases hc with (h1 | h1) | h1
          · exact absurd h1 hne
          · simp at h1
          · exact .inl h1
        · split at h
          · rename_i t x hop
            split at h
            · rename_i y hy
              simp only [Option.some.injEq] at h; subst h
              exact .inr ⟨t, x, y, hop, hy, by simp⟩
            · simp at h
          · simp at h
      | succ j =>
        have ih := apartOf_ord hr j o (by simpa using hj) (by omega) ht
        rw [show k + (j + 1) = k + 1 + j by omega]
        rcases ih with ih | ⟨t, x, y, h1, h2, h3⟩
        · exact .inl ih
        · refine .inr ⟨t, x, y, h1, h2, ?_⟩
          split at h
          · simp only [Option.some.injEq] at h; subst h; exact h3
          · split at h
            · split at h
              · simp only [Option.some.injEq] at h; subst h; exact List.mem_cons_of_mem _ h3
              · simp at h
            · simp at h

def solidB (o : Oper) (free : Bool) : Bool := isStore o.op || mustWrite o.op || ((isCallOp o.op || isAppendOp o.op) && free)

/-- What is solid is ordered against all that touches the heap but loads. -/
theorem solid_ord {P : Program} {vars : List Nat} {nt : Nat} {draw : Bool} {A : List Nat} {all : List Oper} {i : Nat} {o : Oper} {ro : ROper} (hc : Comp P vars nt draw A all i o ro) (hs : solidB o ro.free = true)
    {j : Nat} {o' : Oper} (hj : all[j]? = some o') (hne : j ≠ i) (ht : touches o'.op = true) (hl : isLoad o'.op = false) : ordB draw A i j = true := by
  unfold solidB at hs
  by_cases h1 : isStore o.op = true
  · obtain ⟨ap, hap, _, _⟩ := hc.code
    rw [if_pos h1] at hap
    rcases apartOf_ord hap j o' hj (by simpa using hne) ht with h | ⟨t, x, y, h, _, _⟩
    · simpa using h
    · rw [h] at hl; simp [isLoad] at hl
  · by_cases h2 : mustWrite o.op = true
    · exact freeAt_ord (hc.must h2) hj hne ht
    · simp only [h1, h2, Bool.or_false, Bool.false_or, Bool.and_eq_true] at hs
      rw [hc.free] at hs
      exact freeAt_ord hs.2 hj hne ht

/-! ### The heaps of one stretch without a solid operation -/

def killed (k : Blk) : Blk := { k with live := false, kid := none }

/-- One heap is another where some blocks are given up, and shorter. -/
def Kd (H V : Heap) : Prop := H.length ≤ V.length ∧ ∀ b, b < H.length → H[b]? = V[b]? ∨ ∃ k, V[b]? = some k ∧ k.live = true ∧ H[b]? = some (killed k)

theorem Kd.refl (H : Heap) : Kd H H := ⟨Nat.le_refl _, fun _ _ => .inl rfl⟩

def KidsOk (H : Heap) : Prop := ∀ (b c : Nat) (k : Blk), H[b]? = some k → k.kid = some c → c < H.length

theorem Kd.act {H V : Heap} (h : Kd H V) (hk : KidsOk H) {b : Nat} {k : Blk} (ha : H.act b = some k) : V.act b = some k := by
  have hg := act_get ha
  have hb := get_lt hg
  have hVb : V[b]? = some k := by
    rcases h.2 b hb with e | ⟨k0, e1, e2, e3⟩
    · rw [← e]; exact hg
    · exfalso
      rw [hg] at e3; cases e3
      unfold Heap.act at ha
      rw [hg] at ha
      simp [killed, Heap.rev] at ha
  by_cases hl : k.live = true
  · exact act_of hVb (.inl hl)
  · refine act_of hVb (.inr ?_)
    unfold Heap.act at ha
    rw [hg] at ha
    simp only [hl, Bool.false_or] at ha
    split at ha
    · rename_i hr
      unfold Heap.rev at hr ⊢
      simp only [hl] at hr ⊢
      cases hc : k.kid with
      | none => simp [hc] at hr
      | some c =>
        simp only [hc] at hr ⊢
        have hcl := hk b c k hg hc
        rcases h.2 c hcl with e | ⟨k0, e1, e2, e3⟩
        · rw [← e]; exact hr
        · exfalso
          simp [e3, killed] at hr
    · simp at ha

/-- One operation that is not solid: old blocks stay, or are given up. -/
def NS (H H' : Heap) : Prop := H.length ≤ H'.length ∧ ∀ b, b < H.length → H'[b]? = H[b]? ∨ ∃ k, H[b]? = some k ∧ k.live = true ∧ H'[b]? = some (killed k)

def hv (Hs : Nat → Heap) (p : Nat) : Nat → Heap
  | 0 => Hs p
  | d + 1 => hv Hs p d ++ (Hs (p + d + 1)).drop (Hs (p + d)).length

theorem hv_length {Hs : Nat → Heap} {p : Nat} : ∀ {d : Nat}, (∀ j, p ≤ j → j < p + d → NS (Hs j) (Hs (j + 1))) → (hv Hs p d).length = (Hs (p + d)).length
  | 0, _ => rfl
  | d + 1, h => by
    have := h (p + d) (by omega) (by omega)
    simp only [hv, List.length_append, List.length_drop]
    rw [hv_length (fun j h1 h2 => h j h1 (by omega))]
    have := this.1
    rw [show p + (d + 1) = p + d + 1 by omega]
    omega

theorem hv_prefix {Hs : Nat → Heap} {p d d' : Nat} (hd : d ≤ d') {b : Nat} (hb : b < (hv Hs p d).length) : (hv Hs p d')[b]? = (hv Hs p d)[b]? := by
  induction d' with
  | zero => have : d = 0 := by omega
            subst this; rfl
  | succ d' ih =>
    by_cases e : d = d' + 1
    · subst e; rfl
    · have ih' := ih (by omega)
      have hlen : b < (hv Hs p d').length := by
        rcases Nat.lt_or_ge b (hv Hs p d').length with h | h
        · exact h
        · rw [List.getElem?_eq_none h, List.getElem?_eq_getElem hb] at ih'; simp at ih'
      simp only [hv]
      rw [List.getElem?_append_left hlen]
      exact ih'

theorem hv_kd {Hs : Nat → Heap} {p d : Nat} (h : ∀ j, p ≤ j → j < p + d → NS (Hs j) (Hs (j + 1))) : ∀ e, e ≤ d → Kd (Hs (p + e)) (hv Hs p d)
  | 0, _ => by
    have hl := hv_length h
    refine ⟨?_, fun b hb => .inl ?_⟩
    · have := hv_prefix (Hs := Hs) (p := p) (Nat.zero_le d) (b := (Hs p).length - 1)
      have hmono : ∀ e, e ≤ d → (Hs p).length ≤ (Hs (p + e)).length := by
        intro e
        induction e with
        | zero => intro _; exact Nat.le_refl _
        | succ e ih =>
          intro he
          have := (h (p + e) (by omega) (by omega)).1
          rw [show p + (e + 1) = p + e + 1 by omega]
          exact Nat.le_trans (ih (by omega)) this
      rw [hl]
      exact hmono d (Nat.le_refl _)
    · exact (hv_prefix (Hs := Hs) (p := p) (Nat.zero_le d) hb).symm
  | e + 1, he => by
    obtain ⟨k1, k2⟩ := hv_kd h e (by omega)
    obtain ⟨n1, n2⟩ := h (p + e) (by omega) (by omega)
    have hle := hv_length (Hs := Hs) (p := p) (d := e) (fun j h1 h2 => h j h1 (by omega))
    have hle1 := hv_length (Hs := Hs) (p := p) (d := e + 1) (fun j h1 h2 => h j h1 (by omega))
    have hld := hv_length h
    rw [show p + (e + 1) = p + e + 1 by omega] at hle1 ⊢
    have hpre : ∀ b, b < (Hs (p + e + 1)).length → (hv Hs p d)[b]? = (hv Hs p (e + 1))[b]? := fun b hb => hv_prefix he (by rw [hle1]; exact hb)
    refine ⟨?_, fun b hb => ?_⟩
    · rcases Nat.lt_or_ge (hv Hs p d).length (Hs (p + e + 1)).length with hlt | hge
      · exfalso
        have := hpre _ hlt
        rw [List.getElem?_eq_none (Nat.le_refl _), List.getElem?_eq_getElem (by rw [hle1]; exact hlt)] at this
        simp at this
      · exact hge
    · by_cases hb2 : b < (Hs (p + e)).length
      · rcases n2 b hb2 with e1 | ⟨k, e1, e2, e3⟩
        · rw [e1]; exact k2 b hb2
        · rcases k2 b hb2 with f1 | ⟨k', f1, f2, f3⟩
          · right; exact ⟨k, by rw [← f1]; exact e1, e2, e3⟩
          · exfalso; rw [f3] at e1; cases e1; simp [killed] at e2
      · left
        rw [hpre b hb]
        simp only [hv]
        rw [List.getElem?_append_right (by rw [hle]; omega), hle, List.getElem?_drop]
        congr 1; omega

/-- The blocks that one operation made stand in the stretch's heap as it made them. -/
theorem hv_new {Hs : Nat → Heap} {p d e : Nat} (h : ∀ j, p ≤ j → j < p + d → NS (Hs j) (Hs (j + 1))) (he : e < d) {b : Nat} (h1 : (Hs (p + e)).length ≤ b) (h2 : b < (Hs (p + e + 1)).length) :
    (hv Hs p d)[b]? = (Hs (p + e + 1))[b]? := by
  have hle := hv_length (Hs := Hs) (p := p) (d := e) (fun j g1 g2 => h j g1 (by omega))
  have hle1 := hv_length (Hs := Hs) (p := p) (d := e + 1) (fun j g1 g2 => h j g1 (by omega))
  rw [show p + (e + 1) = p + e + 1 by omega] at hle1
  rw [hv_prefix (Hs := Hs) (p := p) (d := e + 1) he (by rw [hle1]; exact h2)]
  simp only [hv]
  rw [List.getElem?_append_right (by rw [hle]; omega), hle, List.getElem?_drop]
  congr 1; omega

/-- What lies in a part of the numbers that is closed under 'kid' is in force alike. -/
theorem act_same {H V : Heap} {b : Nat} {k : Blk} (hb : V[b]? = H[b]?) (hk : ∀ c, k.kid = some c → V[c]? = H[c]?) (ha : V.act b = some k) : H.act b = some k := by
  have hg := act_get ha
  rw [hb] at hg
  by_cases hl : k.live = true
  · exact act_of hg (.inl hl)
  · refine act_of hg (.inr ?_)
    unfold Heap.act at ha
    rw [hb, hg] at ha
    simp only [hl, Bool.false_or] at ha
    split at ha
    · rename_i hr
      unfold Heap.rev at hr ⊢
      simp only [hl] at hr ⊢
      cases hc : k.kid with
      | none => simp [hc] at hr
      | some c =>
        simp only [hc] at hr ⊢
        rw [← hk c hc]; exact hr
    · simp at ha

end Go.RM
