/-
  Each way of an append is a step.
-/
import Derived.Test.YtmiinaimpdbenaaRmSound10
namespace Go.RM
set_option linter.unusedSimpArgs false

/-- The world may grow. -/
theorem sim_world {n0 base : Nat} {m : BMap} {H : Heap} {w w' : World} (hs : Sim n0 base m H w) (hsz : w.heap.size ≤ w'.heap.size) (hold : ∀ c, c < w.heap.size → w'.heap[c]? = w.heap[c]?) : Sim n0 base m H w' := by
  have hlt : ∀ b kb lb, H.act b = some kb → m b = some lb → lb.cb < w.heap.size := fun b kb lb ha hm => by
    by_cases hb : n0 ≤ b
    · exact (hs.own b kb lb hb ha hm).2.1
    · have := hs.ro b lb (by omega) hm
      have := hs.size
      omega
  refine ⟨Nat.le_trans hs.size hsz, hs.low, hs.kids, hs.es, ?_, hs.ro, ?_, hs.inj⟩
  · intro b k l ha hm
    obtain ⟨e1, e2, e3⟩ := hs.cells b k l ha hm
    exact ⟨e1, e2, cellsAt_mono e3 (Ext.refl m) fun j _ => cell_of_heap (hold _ (hlt b k l ha hm)) _⟩
  · intro b k l hb ha hm
    obtain ⟨e1, e2, e3⟩ := hs.own b k l hb ha hm
    exact ⟨e1, by omega, room_of_heap (hold _ e2) e3⟩

theorem kill_length (H : Heap) (c : Nat) : (H.kill c).length = H.length := by unfold Heap.kill; split <;> simp
theorem kill_ne {H : Heap} {c x : Nat} (h : x ≠ c) : (H.kill c)[x]? = H[x]? := by
  unfold Heap.kill; split
  · rw [List.getElem?_set_ne (by omega)]
  · rfl
theorem kill_get {H : Heap} {c : Nat} {k : Blk} (h : (H.kill c)[c]? = some k) : k.live = false ∧ k.kid = none ∧ ∃ k0, H[c]? = some k0 ∧ k.e = k0.e := by
  unfold Heap.kill at h
  split at h
  · rename_i k0 hk0
    have hc : c < H.length := by
      rcases Nat.lt_or_ge c H.length with h | h
      · exact h
      · simp [List.getElem?_eq_none h] at hk0
    rw [List.getElem?_set_self hc] at h
    cases h
    exact ⟨rfl, rfl, k0, hk0, rfl⟩
  · rename_i hn; rw [hn] at h; simp at h

theorem rev_kid {H : Heap} {k : Blk} {c : Nat} (h : H.rev k = some c) : k.live = false ∧ k.kid = some c := by
  unfold Heap.rev at h
  split at h
  · simp at h
  · rename_i hl
    split at h
    · rename_i c' hc
      split at h
      · split at h
        · simp only [Option.some.injEq] at h; subst h; exact ⟨by simpa using hl, hc⟩
        · simp at h
      · simp at h
    · simp at h

/-- A block that is to be revived is live again, its replacement given up. -/
theorem revive_sim {n0 base : Nat} {m : BMap} {H : Heap} {w : World} (hs : Sim n0 base m H w) {b c : Nat} {k : Blk} (hb : n0 ≤ b) (hact : H.act b = some k) (hrev : H.rev k = some c) :
    Sim n0 base m ((H.kill c).set b { k with live := true, clean := false }) w ∧
    Heap.act ((H.kill c).set b { k with live := true, clean := false }) b = some { k with live := true, clean := false } ∧
    ∀ x kx, Heap.act ((H.kill c).set b { k with live := true, clean := false }) x = some kx → x = b ∨ H.act x = some kx := by
  obtain ⟨hdead, hkid⟩ := rev_kid hrev
  have hget := act_get hact
  have hblen := act_lt hact
  have hbk : b < (H.kill c).length := by rw [kill_length]; exact hblen
  have hcb : c ≠ b := fun e => by
    subst e
    unfold Heap.rev at hrev
    simp only [hdead, hkid, hget] at hrev
    simp at hrev
  have hgetb : ((H.kill c).set b { k with live := true, clean := false })[b]? = some { k with live := true, clean := false } := List.getElem?_set_self hbk
  have hgetx : ∀ x, x ≠ b → x ≠ c → ((H.kill c).set b { k with live := true, clean := false })[x]? = H[x]? := fun x h1 h2 => by
    rw [List.getElem?_set_ne (by omega), kill_ne h2]
  have hgetc : ((H.kill c).set b { k with live := true, clean := false })[c]? = (H.kill c)[c]? := by rw [List.getElem?_set_ne (by omega)]
  have hne : ∀ x kx, Heap.act ((H.kill c).set b { k with live := true, clean := false }) x = some kx →
      (x = b ∧ kx = { k with live := true, clean := false }) ∨ (x ≠ b ∧ x ≠ c ∧ H.act x = some kx ∧ (kx.live = false → kx.kid ≠ some b ∧ kx.kid ≠ some c)) := fun x kx h => by
    have hg := act_get h
    by_cases e1 : x = b
    · subst e1; rw [hgetb] at hg; cases hg; exact .inl ⟨rfl, rfl⟩
    · by_cases e2 : x = c
      · exfalso
        subst e2
        rw [hgetc] at hg
        obtain ⟨g1, g2, _⟩ := kill_get hg
        unfold Heap.act at h
        rw [hgetc, hg] at h
        simp [g1, Heap.rev, g2] at h
      · rw [hgetx x e1 e2] at hg
        refine .inr ⟨e1, e2, ?_⟩
        by_cases hlv : kx.live = true
        · exact ⟨act_of hg (.inl hlv), fun h => by simp [hlv] at h⟩
        · unfold Heap.act at h
          rw [hgetx x e1 e2, hg] at h
          simp only [hlv, Bool.false_or] at h
          split at h
          · rename_i hr
            unfold Heap.rev at hr
            simp only [hlv] at hr
            cases hc : kx.kid with
            | none => simp [hc] at hr
            | some d =>
              simp only [hc] at hr
              by_cases d1 : d = b
              · subst d1; rw [hgetb] at hr; simp at hr
              · by_cases d2 : d = c
                · subst d2
                  rw [hgetc] at hr
                  cases hq : (H.kill d)[d]? with
                  | none => simp [hq] at hr
                  | some kd => simp [hq, (kill_get hq).1] at hr
                · rw [hgetx d d1 d2] at hr
                  refine ⟨act_of hg (.inr ?_), fun _ => ⟨by simpa using d1, by simpa using d2⟩⟩
                  unfold Heap.rev
                  simp only [hlv, hc]
                  exact hr
          · simp at h
  refine ⟨⟨hs.size, ?_, ?_, ?_, ?_, hs.ro, ?_, ?_⟩, act_of hgetb (.inl rfl), fun x kx h => ?_⟩
  · rw [List.length_set, kill_length]; exact hs.low
  · intro x d kx hx hd
    rw [List.length_set, kill_length]
    by_cases e1 : x = b
    · subst e1; rw [hgetb] at hx; cases hx; exact hs.kids x d k hget hd
    · by_cases e2 : x = c
      · subst e2; rw [hgetc] at hx; rw [(kill_get hx).2.1] at hd; simp at hd
      · rw [hgetx x e1 e2] at hx; exact hs.kids x d kx hx hd
  · intro x kx lx hx hm
    by_cases e1 : x = b
    · subst e1; rw [hgetb] at hx; cases hx; exact hs.es x k lx hget hm
    · by_cases e2 : x = c
      · subst e2; rw [hgetc] at hx
        obtain ⟨_, _, k0, h0, he⟩ := kill_get hx
        rw [he]; exact hs.es x k0 lx h0 hm
      · rw [hgetx x e1 e2] at hx; exact hs.es x kx lx hx hm
  · intro x kx lx ha hm
    rcases hne x kx ha with ⟨rfl, rfl⟩ | ⟨_, _, ha, _⟩
    · exact hs.cells x k lx hact hm
    · exact hs.cells x kx lx ha hm
  · intro x kx lx hx0 ha hm
    rcases hne x kx ha with ⟨rfl, rfl⟩ | ⟨_, _, ha, _⟩
    · exact hs.own x k lx hx0 hact hm
    · exact hs.own x kx lx hx0 ha hm
  · have hpair : ∀ x kx lx lb, n0 ≤ x → x ≠ b → x ≠ c → H.act x = some kx → m x = some lx → m b = some lb → (kx.live = false → kx.kid ≠ some b ∧ kx.kid ≠ some c) → lx.cb ≠ lb.cb := fun x kx lx lb hx0 h1 h2 ha hm hmb hk he => by
      rcases hs.inj x b kx k lx lb hx0 hb ha hact hm hmb he with h | ⟨g1, g2, _⟩ | ⟨_, g2, _⟩
      · exact h1 h
      · exact (hk g1).1 g2
      · rw [hkid] at g2; cases g2; exact h2 rfl
    intro x x' kx kx' lx lx' hx0 hx0' ha ha' hm hm' he
    rcases hne x kx ha with ⟨e1, e2⟩ | ⟨g1, g2, ha1, hk⟩ <;> rcases hne x' kx' ha' with ⟨f1, f2⟩ | ⟨g1', g2', ha2, hk'⟩
    · left; rw [e1, f1]
    · exfalso; rw [e1] at hm; exact hpair x' kx' lx' lx hx0' g1' g2' ha2 hm' hm hk' he.symm
    · exfalso; rw [f1] at hm'; exact hpair x kx lx lx' hx0 g1 g2 ha1 hm hm' hk he
    · exact hs.inj x x' kx kx' lx lx' hx0 hx0' ha1 ha2 hm hm' he
  · rcases hne x kx h with ⟨e, _⟩ | ⟨_, _, h, _⟩
    · exact .inl e
    · exact .inr h

theorem drew_alloc_old (w : World) (o : Obj) (c : Nat) (hc : c < w.heap.size) : (w.drew.alloc o).heap[c]? = w.heap[c]? := by
  have h : w.drew.heap = w.heap := rfl
  simp only [World.alloc]
  rw [Array.getElem?_push, h, if_neg (by omega)]

theorem act_replace {H : Heap} {b x : Nat} {k2 nk kx : Blk} (hk2 : k2.live = false ∧ (∀ c, k2.kid = some c → c = H.length)) (hk : ∀ (b c : Nat) (k : Blk), H[b]? = some k → k.kid = some c → c < H.length) (hb : b < H.length)
    (h : Heap.act (H.set b k2 ++ [nk]) x = some kx) : x = H.length ∨ x = b ∨ H.act x = some kx := by
  by_cases e : x = H.length
  · exact .inl e
  · by_cases e2 : x = b
    · exact .inr (.inl e2)
    · have hx := act_lt h
      simp at hx
      have hk' : ∀ (y c : Nat) (k : Blk), (H.set b k2)[y]? = some k → y ≠ b → k.kid = some c → c < (H.set b k2).length := fun y c k hy hne hc => by
        rw [List.getElem?_set_ne (by omega)] at hy
        rw [List.length_set]; exact hk y c k hy hc
      have hg := act_get h
      rw [List.getElem?_append_left (by simp; omega)] at hg
      have h2 : Heap.act (H.set b k2) x = some kx := by
        by_cases hlv : kx.live = true
        · exact act_of hg (.inl hlv)
        · refine act_of hg (.inr ?_)
          unfold Heap.act at h
          rw [List.getElem?_append_left (by simp; omega), hg] at h
          simp only [hlv, Bool.false_or] at h
          split at h
          · rename_i hr
            unfold Heap.rev at hr ⊢
            simp only [hlv] at hr ⊢
            cases hc : kx.kid with
            | none => simp [hc] at hr
            | some c =>
              simp only [hc] at hr ⊢
              rw [List.getElem?_append_left (hk' x c kx hg e2 hc)] at hr
              exact hr
          · simp at h
      exact .inr (.inr (act_set (fun k _ h => by simp [hk2.1] at h) h2 e2))

/-- The common end of the four ways in which a block is replaced. -/
theorem top_step {n0 base fl : Nat} {m : BMap} {H0 H : Heap} {w w1 : World} (hs0 : Sim n0 base m H0 w) (hs : Sim n0 base m H w1) (hlen : H.length = H0.length)
    {b : Nat} (hsub : ∀ x kx, H.act x = some kx → x = b ∨ H0.act x = some kx)
    {k k0 k2 nk : Blk} {l l2 : Loc} (hb : n0 ≤ b) (hflb : fl ≤ b)
    (hact0 : H0.act b = some k0) (hact : H.act b = some k) (hlive : k.live = true) (hm : m b = some l) (hn : m H.length = none)
    (hk2 : k2.live = false ∧ k2.cells = k.cells ∧ k2.e = k.e ∧ (∀ c, k2.kid = some c → c = H.length)) (hnk : nk.live = true ∧ nk.kid = none)
    (he : l2.e = nk.e) (hlen2 : nk.cells.length ≤ l2.room) (hca : CellsAt m w1 l2 nk.cells) (hcb : base ≤ l2.cb ∧ l2.cb < w1.heap.size) (hroom : Room w1 l2)
    (hwhere : (l2.cb = l.cb ∧ l.co + k.cells.length ≤ l2.co + nk.cells.length) ∨ (w.heap.size ≤ l2.cb))
    (hw : w1.os = w.os ∧ w1.tape = w.tape ∧ w1.output = w.output ∧ w.heap.size ≤ w1.heap.size) (hfr : ∀ c, c < w.heap.size → c ≠ l.cb → w1.heap[c]? = w.heap[c]?) :
    Step n0 base fl m H0 w (upd m H.length l2) (H.set b k2 ++ [nk]) w1 := by
  have hhit : Hit fl m H0 l.cb := ⟨b, k0, l, hflb, hact0, hm, rfl⟩
  refine ⟨upd_ext _ hn, ?_, replace_sim hs hb hact hlive hm hn hk2 hnk he hlen2 hca hcb hroom (hwhere.imp id fun h x kx lx ha hmx e => ?_), hw.1, hw.2.1, hw.2.2.1, hw.2.2.2, by simp [hlen], fun c hc hh => hfr c hc fun e => hh (e ▸ hhit), ?_⟩
  · intro x lx h1 h2
    by_cases e : x = H.length
    · subst e; simp [hlen]
    · rw [upd_ne _ e] at h1; simp [h2] at h1
  · -- the new row is not an old one
    have hlx : lx.cb < w.heap.size := by
      have key : ∀ kk, H0.act x = some kk → lx.cb < w.heap.size := fun kk hkk => by
        by_cases hx0 : n0 ≤ x
        · exact (hs0.own x kk lx hx0 hkk hmx).2.1
        · have := hs0.ro x lx (by omega) hmx
          have := hs0.size
          omega
      rcases hsub x kx ha with hx | hx
      · subst hx; exact key k0 hact0
      · exact key kx hx
    omega
  · rintro c hc ⟨x, kx, lx, hx, ha, hmx, rfl⟩
    rcases act_replace ⟨hk2.1, hk2.2.2.2⟩ hs.kids (act_lt hact) ha with h | h | h
    · rw [h, upd_same] at hmx; cases hmx
      rcases hwhere with ⟨h1, _⟩ | h1
      · rw [h1]; exact hhit
      · omega
    · rw [h, upd_ne _ (by have := act_lt hact; omega), hm] at hmx; cases hmx
      exact hhit
    · have hxl := act_lt h
      rw [upd_ne _ (by omega)] at hmx
      rcases hsub x kx h with hx' | hx'
      · rw [hx', hm] at hmx; cases hmx; exact hhit
      · exact ⟨x, kx, lx, hx, hx', hmx, rfl⟩

theorem room_shift {w : World} {l : Loc} (h : Room w l) (off e : Nat) : Room w ⟨l.cb, l.co + off, l.room - off, e⟩ := fun j hj => by
  have hj' : j < l.room - off := hj
  have := h (off + j) (by omega)
  rwa [← Nat.add_assoc] at this

theorem tail_cells {m : BMap} {w : World} {l : Loc} {cells xs : List AV} {ys : List Value} (hc : CellsAt m w l cells) (hr : VRels m xs ys) {off : Nat} (ho : off ≤ cells.length) (room e : Nat)
    (hs : ∀ j, j < ys.length → (w.cell? ⟨l.cb, l.co + cells.length + j, none⟩).isSome = true) :
    CellsAt m (w.setCells l.cb (l.co + cells.length) ys) ⟨l.cb, l.co + off, room, e⟩ (cells.drop off ++ xs) := fun j v hv => by
  show ∃ cv, (w.setCells l.cb (l.co + cells.length) ys).cell? ⟨l.cb, l.co + off + j, none⟩ = some cv ∧ VRel m v cv
  rw [cell_setCells hs]
  by_cases hj : j < cells.length - off
  · rw [List.getElem?_append_left (by simp; omega), List.getElem?_drop] at hv
    obtain ⟨cv, c1, c2⟩ := hc (off + j) v hv
    refine ⟨cv, ?_, c2⟩
    rw [if_neg (by omega), Nat.add_assoc]
    exact c1
  · rw [List.getElem?_append_right (by simp; omega)] at hv
    simp only [List.length_drop] at hv
    obtain ⟨cv, c1, c2⟩ := hr.get _ v hv
    have hlt : j - (cells.length - off) < ys.length := by
      rcases Nat.lt_or_ge (j - (cells.length - off)) ys.length with h | h
      · exact h
      · simp [List.getElem?_eq_none h] at c1
    refine ⟨cv, ?_, c2⟩
    rw [if_pos (by omega), show l.co + off + j - (l.co + cells.length) = j - (cells.length - off) by omega]
    exact c1

theorem new_cells {m : BMap} {w : World} {xs : List AV} {cs rest : List Value} (hr : VRels m xs cs) (t : TypeId) (e : Nat) :
    CellsAt m (w.drew.alloc (.cells (cs ++ rest).toArray t)) ⟨w.heap.size, 0, (cs ++ rest).length, e⟩ xs ∧ Room (w.drew.alloc (.cells (cs ++ rest).toArray t)) ⟨w.heap.size, 0, (cs ++ rest).length, e⟩ := by
  have hc : ∀ j, (w.drew.alloc (.cells (cs ++ rest).toArray t)).cell? ⟨w.heap.size, 0 + j, none⟩ = (cs ++ rest)[j]? := fun j => by
    have := World.cell?_alloc_new w.drew (cs ++ rest).toArray t (0 + j)
    have h : w.drew.heap.size = w.heap.size := rfl
    rw [h] at this
    rw [this]
    simp
  have hf : ∀ j, (w.drew.alloc (.cells (cs ++ rest).toArray t)).frozen? ⟨w.heap.size, 0 + j, none⟩ = false := fun j => by
    have := World.frozen?_alloc_new w.drew (cs ++ rest).toArray t (0 + j)
    exact this
  refine ⟨fun j v hv => ?_, fun j hj => ⟨?_, hf j⟩⟩
  · obtain ⟨cv, c1, c2⟩ := hr.get j v hv
    refine ⟨cv, ?_, c2⟩
    show (w.drew.alloc (.cells (cs ++ rest).toArray t)).cell? ⟨w.heap.size, 0 + j, none⟩ = some cv
    rw [hc, List.getElem?_append_left]
    · exact c1
    · rcases Nat.lt_or_ge j cs.length with h | h
      · exact h
      · simp [List.getElem?_eq_none h] at c1
  · show ((w.drew.alloc (.cells (cs ++ rest).toArray t)).cell? ⟨w.heap.size, 0 + j, none⟩).isSome = true
    have hj' : j < (cs ++ rest).length := hj
    rw [hc, List.getElem?_eq_getElem hj']; rfl

theorem app_step {n0 base fl : Nat} {free : Bool} {m : BMap} {H H' : Heap} {w w' : World} {v : AV} {v' : Value} (h : AppRes fl free m H w v H' v' w') (hs : Sim n0 base m H w) (hfl : n0 ≤ fl)
    (hn : H.length < H'.length → m H.length = none) : ∃ m', VRel m' v v' ∧ Step n0 base fl m H w m' H' w' := by
  cases h with
  | same hv => exact ⟨m, hv, Step.refl hs⟩
  | push hk hr hle hcap =>
    have hn := hn (by simp)
    refine ⟨_, ⟨_, _, rfl, hle, _, upd_same _ _ _, ?_, .inl (by simp)⟩, push_step hs hn hk.1 hr rfl rfl rfl rfl⟩
    show 0 + _ = _
    rw [hcap]; simp
  | put hfree hm hp hr hv => exact ⟨m, hv, (put_step hs hfl hp hm hr).2.2⟩
  | topIn hflb hact hlive hm he hoff hfull hr hxs hsc hcap hle =>
    rename_i b off n k e cap blk l xs ys
    have hn := hn (by simp)
    have hyl := hr.length
    obtain ⟨o1, o2, o3⟩ := hs.own b blk l (Nat.le_trans hfl hflb) hact hm
    have hroom : l.co + blk.cells.length + ys.length ≤ l.co + l.room := by
      rw [← hyl, hxs]
      have : (n + k) * e ≤ cap * e := Nat.mul_le_mul_right _ hle
      rw [Nat.add_mul] at this
      omega
    obtain ⟨b1, b2⟩ := beyond_sim hs (Nat.le_trans hfl hflb) hact hlive hm (vs := ys) (Nat.le_refl _) hroom
    obtain ⟨p1, p2, p3⟩ := b2.own b blk l (Nat.le_trans hfl hflb) hact hm
    obtain ⟨s1, s2, s3⟩ := setCells_os l.cb ys (l.co + blk.cells.length) w
    have ssz := setCells_size l.cb ys (l.co + blk.cells.length) w
    have e1 := (hs.cells b blk l hact hm).1
    have hcl : (blk.cells.drop off ++ xs).length ≤ l.room - off := by
      simp only [List.length_append, List.length_drop]; omega
    refine ⟨upd m H.length ⟨l.cb, l.co + off, l.room - off, e⟩, ⟨_, _, rfl, hle, _, upd_same _ _ _, ?_, .inl (by simp)⟩,
      top_step (l := l) (l2 := ⟨l.cb, l.co + off, l.room - off, e⟩) hs b2 rfl (b := b) (fun x kx hx => .inr hx) (Nat.le_trans hfl hflb) hflb hact hact hlive hm hn ⟨rfl, rfl, rfl, fun c hc => by split at hc <;> simp at hc; exact hc.symm⟩ ⟨rfl, rfl⟩ rfl hcl
        (tail_cells (hs.cells b blk l hact hm).2.2 hr hoff _ _ fun j hj => (b1 j hj).1) ⟨p1, p2⟩ (room_shift p3 off e) (.inl ⟨rfl, by simp only [List.length_append, List.length_drop]; omega⟩) ⟨s1, s2, s3, by rw [ssz]; exact Nat.le_refl _⟩
        (fun c hc hne => setCells_other _ _ _ _ _ hne)⟩
    show 0 + cap * e = l.room - off
    omega
  | topNew hflb hact hlive hm hr hle hcap =>
    rename_i b off n k e cap blk l xs cs rest t
    have hn := hn (by simp)
    obtain ⟨c1, c2⟩ := new_cells (w := w) (rest := rest) hr t e
    have hsz : (w.drew.alloc (.cells (cs ++ rest).toArray t)).heap.size = w.heap.size + 1 := by simp
    refine ⟨upd m H.length ⟨w.heap.size, 0, (cs ++ rest).length, e⟩, ⟨_, _, rfl, hle, _, upd_same _ _ _, ?_, .inl (by simp)⟩,
      top_step (l := l) (l2 := ⟨w.heap.size, 0, (cs ++ rest).length, e⟩) hs (sim_world hs (by rw [hsz]; omega) (fun c hc => drew_alloc_old w _ c hc)) rfl (b := b) (fun x kx hx => .inr hx) (Nat.le_trans hfl hflb) hflb hact hact hlive hm hn
        ⟨rfl, rfl, rfl, fun c hc => by split at hc <;> simp at hc; exact hc.symm⟩ ⟨rfl, rfl⟩ rfl (by simp [hr.length]) c1 ⟨hs.size, by rw [hsz]; simp⟩ c2 (.inr (Nat.le_refl _)) ⟨rfl, rfl, rfl, by rw [hsz]; omega⟩
        (fun c hc _ => drew_alloc_old w _ c hc)⟩
    show 0 + cap * e = _
    rw [hcap]; simp
  | reviveIn hfree hflb hflc hact hlive hrev hm he hoff hfull hr hxs hsc hcap hle =>
    rename_i b c off n k e cap blk l xs ys
    have hn := hn (by simp [kill_length])
    have hyl := hr.length
    obtain ⟨r1, r2, r3⟩ := revive_sim hs (Nat.le_trans hfl hflb) hact hrev
    have hlen1 : ((H.kill c).set b { blk with live := true, clean := false }).length = H.length := by simp [kill_length]
    have hroom : l.co + blk.cells.length + ys.length ≤ l.co + l.room := by
      rw [← hyl, hxs]
      have : (n + k) * e ≤ cap * e := Nat.mul_le_mul_right _ hle
      rw [Nat.add_mul] at this
      omega
    obtain ⟨b1, b2⟩ := beyond_sim r1 (Nat.le_trans hfl hflb) r2 rfl hm (vs := ys) (Nat.le_refl _) hroom
    obtain ⟨p1, p2, p3⟩ := b2.own b _ l (Nat.le_trans hfl hflb) r2 hm
    obtain ⟨s1, s2, s3⟩ := setCells_os l.cb ys (l.co + blk.cells.length) w
    have ssz := setCells_size l.cb ys (l.co + blk.cells.length) w
    have hcl : (blk.cells.drop off ++ xs).length ≤ l.room - off := by
      simp only [List.length_append, List.length_drop]; omega
    have := top_step (fl := fl) (l := l) (l2 := ⟨l.cb, l.co + off, l.room - off, e⟩) (k2 := { blk with live := false, kid := some H.length }) (nk := { cells := blk.cells.drop off ++ xs, e }) hs b2 hlen1 (b := b) r3 (Nat.le_trans hfl hflb) hflb hact r2 rfl hm (by rw [hlen1]; exact hn)
        ⟨rfl, rfl, rfl, fun c hc => by rw [hlen1]; simpa using hc.symm⟩ ⟨rfl, rfl⟩ rfl hcl
        (tail_cells (hs.cells b blk l hact hm).2.2 hr hoff _ _ fun j hj => (b1 j hj).1) ⟨p1, p2⟩ (room_shift p3 off e) (.inl ⟨rfl, by simp only [List.length_append, List.length_drop]; omega⟩) ⟨s1, s2, s3, by rw [ssz]; exact Nat.le_refl _⟩
        (fun c hc hne => setCells_other _ _ _ _ _ hne)
    rw [hlen1, List.set_set] at this
    refine ⟨upd m H.length ⟨l.cb, l.co + off, l.room - off, e⟩, ⟨_, _, rfl, hle, _, upd_same _ _ _, ?_, .inl (by simp)⟩, this⟩
    show 0 + cap * e = l.room - off
    omega
  | reviveNew hfree hflb hflc hact hlive hrev hm hr hle hcap =>
    rename_i b c off n k e cap blk l xs cs rest t
    have hn := hn (by simp [kill_length])
    obtain ⟨r1, r2, r3⟩ := revive_sim hs (Nat.le_trans hfl hflb) hact hrev
    have hlen1 : ((H.kill c).set b { blk with live := true, clean := false }).length = H.length := by simp [kill_length]
    obtain ⟨c1, c2⟩ := new_cells (w := w) (rest := rest) hr t e
    have hsz : (w.drew.alloc (.cells (cs ++ rest).toArray t)).heap.size = w.heap.size + 1 := by simp
    have := top_step (fl := fl) (l := l) (l2 := ⟨w.heap.size, 0, (cs ++ rest).length, e⟩) (k2 := { blk with live := false, kid := some H.length }) (nk := { cells := blk.cells.drop off ++ xs, e }) hs
        (sim_world r1 (by rw [hsz]; omega) (fun c hc => drew_alloc_old w _ c hc)) hlen1 (b := b) r3 (Nat.le_trans hfl hflb) hflb hact r2 rfl hm (by rw [hlen1]; exact hn)
        ⟨rfl, rfl, rfl, fun c hc => by rw [hlen1]; simpa using hc.symm⟩ ⟨rfl, rfl⟩ rfl (by simp [hr.length]) c1 ⟨hs.size, by rw [hsz]; simp⟩ c2 (.inr (Nat.le_refl _)) ⟨rfl, rfl, rfl, by rw [hsz]; omega⟩
        (fun c hc _ => drew_alloc_old w _ c hc)
    rw [hlen1, List.set_set] at this
    refine ⟨upd m H.length ⟨w.heap.size, 0, (cs ++ rest).length, e⟩, ⟨_, _, rfl, hle, _, upd_same _ _ _, ?_, .inl (by simp)⟩, this⟩
    show 0 + cap * e = _
    rw [hcap]; simp

end Go.RM
