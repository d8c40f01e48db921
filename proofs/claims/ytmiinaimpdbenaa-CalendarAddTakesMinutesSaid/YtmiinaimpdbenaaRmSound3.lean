/-
  An append that fills the known cells of a block: the block is given up; its replacement lies in the same row or in a new one.
-/
import Derived.Test.YtmiinaimpdbenaaRmSound2
namespace Go.RM

/-- Cells behind the last known cell of a live block are written: nobody sees it. -/
theorem beyond_sim {n0 base : Nat} {m : BMap} {H : Heap} {w : World} (hs : Sim n0 base m H w) {b : Nat} {k : Blk} {l : Loc} (hb : n0 ≤ b)
    (hact : H.act b = some k) (hlive : k.live = true) (hm : m b = some l) {vs : List Value} {o : Nat} (ho : l.co + k.cells.length ≤ o) (hroom : o + vs.length ≤ l.co + l.room) :
    (∀ j, j < vs.length → (w.cell? ⟨l.cb, o + j, none⟩).isSome = true ∧ w.frozen? ⟨l.cb, o + j, none⟩ = false) ∧
    Sim n0 base m H (w.setCells l.cb o vs) := by
  obtain ⟨o1, o2, o3⟩ := hs.own b k l hb hact hm
  have hcells : ∀ j, j < vs.length → (w.cell? ⟨l.cb, o + j, none⟩).isSome = true ∧ w.frozen? ⟨l.cb, o + j, none⟩ = false := fun j hj => by
    have := o3 (o + j - l.co) (by omega)
    rwa [show l.co + (o + j - l.co) = o + j by omega] at this
  have ssz := setCells_size l.cb vs o w
  have hin : ∀ x kx lx, H.act x = some kx → m x = some lx → lx.cb = l.cb → lx.co + kx.cells.length ≤ o := fun x kx lx ha hmx he => by
    by_cases hx0 : n0 ≤ x
    · rcases hs.inj x b kx k lx l hx0 hb ha hact hmx hm he with h | ⟨_, _, h⟩ | ⟨h, _, _⟩
      · subst h; rw [hact] at ha; cases ha; rw [hm] at hmx; cases hmx; exact ho
      · omega
      · simp [hlive] at h
    · have := hs.ro x lx (by omega) hmx; omega
  refine ⟨hcells, ⟨by rw [ssz]; exact hs.size, hs.low, hs.kids, hs.es, ?_, hs.ro, ?_, hs.inj⟩⟩
  · intro x kx lx ha hmx
    obtain ⟨f1, f2, f3⟩ := hs.cells x kx lx ha hmx
    refine ⟨f1, f2, cellsAt_mono f3 (Ext.refl m) fun j hj => ?_⟩
    by_cases he : lx.cb = l.cb
    · have := hin x kx lx ha hmx he
      rw [he, cell_setCells (fun j hj => (hcells j hj).1), if_neg (by omega)]
    · exact cell_of_heap (setCells_other _ _ _ _ _ he) _
  · intro x kx lx hx0 ha hmx
    obtain ⟨f1, f2, f3⟩ := hs.own x kx lx hx0 ha hmx
    refine ⟨f1, by rw [ssz]; exact f2, fun j hj => ⟨?_, by rw [World.frozen?_setCells]; exact (f3 j hj).2⟩⟩
    by_cases he : lx.cb = l.cb
    · rw [he, cell_setCells (fun j hj => (hcells j hj).1)]
      split
      · rw [List.getElem?_eq_getElem (by omega)]; rfl
      · have := (f3 j hj).1; rwa [he] at this
    · rw [cell_of_heap (setCells_other _ _ _ _ _ he)]; exact (f3 j hj).1

theorem act_of {H : Heap} {x : Nat} {k : Blk} (hg : H[x]? = some k) (hl : k.live = true ∨ (H.rev k).isSome = true) : H.act x = some k := by
  unfold Heap.act
  rw [hg]
  simp only
  rcases hl with h | h <;> simp [h]

/-- The replacement is laid, the live block given up. -/
theorem replace_sim {n0 base : Nat} {m : BMap} {H : Heap} {w : World} (hs : Sim n0 base m H w) {b : Nat} {k k2 nk : Blk} {l l2 : Loc} (hb : n0 ≤ b)
    (hact : H.act b = some k) (hlive : k.live = true) (hm : m b = some l) (hn : m H.length = none)
    (hk2 : k2.live = false ∧ k2.cells = k.cells ∧ k2.e = k.e ∧ (∀ c, k2.kid = some c → c = H.length)) (hnk : nk.live = true ∧ nk.kid = none)
    (he : l2.e = nk.e) (hlen : nk.cells.length ≤ l2.room) (hca : CellsAt m w l2 nk.cells) (hcb : base ≤ l2.cb ∧ l2.cb < w.heap.size) (hroom : Room w l2)
    (hwhere : (l2.cb = l.cb ∧ l.co + k.cells.length ≤ l2.co + nk.cells.length) ∨ (∀ x kx lx, H.act x = some kx → m x = some lx → lx.cb ≠ l2.cb)) :
    Sim n0 base (upd m H.length l2) (H.set b k2 ++ [nk]) w := by
  have hext := upd_ext l2 hn
  have hblen := act_lt hact
  obtain ⟨q1, q2, q3, q4⟩ := hk2
  have hne : ∀ x kx, Heap.act (H.set b k2 ++ [nk]) x = some kx → (x = H.length ∧ kx = nk) ∨ (x = b ∧ kx = k2 ∧ k2.kid = some H.length) ∨ (x ≠ b ∧ x < H.length ∧ H.act x = some kx ∧ (kx.live = false → kx.kid ≠ some b)) := fun x kx h => by
    have hl := act_lt h
    have hg := act_get h
    simp at hl
    by_cases e : x = H.length
    · subst e
      rw [List.getElem?_append_right (by simp)] at hg
      simp at hg
      exact .inl ⟨rfl, hg.symm⟩
    · have hx : x < H.length := by omega
      rw [List.getElem?_append_left (by simpa using hx)] at hg
      by_cases e2 : x = b
      · subst e2
        rw [List.getElem?_set_self hblen] at hg
        cases hg
        refine .inr (.inl ⟨rfl, rfl, ?_⟩)
        unfold Heap.act at h
        rw [List.getElem?_append_left (by simpa using hx), List.getElem?_set_self hblen] at h
        simp only [q1, Bool.false_or] at h
        split at h
        · rename_i hr
          unfold Heap.rev at hr
          simp only [q1] at hr
          cases hc : k2.kid with
          | none => simp [hc] at hr
          | some c => rw [q4 c hc]
        · simp at h
      · rw [List.getElem?_set_ne (by omega)] at hg
        refine .inr (.inr ⟨e2, hx, ?_⟩)
        unfold Heap.act at h
        rw [List.getElem?_append_left (by simpa using hx), List.getElem?_set_ne (by omega), hg] at h
        simp only at h
        by_cases hlv : kx.live = true
        · exact ⟨act_of hg (.inl hlv), fun h => by simp [hlv] at h⟩
        · simp only [hlv, Bool.false_or] at h
          split at h
          · rename_i hr
            unfold Heap.rev at hr
            simp only [hlv] at hr
            cases hc : kx.kid with
            | none => simp [hc] at hr
            | some c =>
              simp only [hc] at hr
              have hcl := hs.kids x c kx hg hc
              rw [List.getElem?_append_left (by simpa using hcl)] at hr
              by_cases ec : c = b
              · subst ec
                rw [List.getElem?_set_self hblen] at hr
                simp [q1] at hr
              · rw [List.getElem?_set_ne (by omega)] at hr
                refine ⟨act_of hg (.inr ?_), fun _ => by simpa using ec⟩
                unfold Heap.rev
                simp only [hlv, hc]
                exact hr
          · simp at h
  have hsame : ∀ x kx lx, n0 ≤ x → x ≠ b → H.act x = some kx → m x = some lx → (kx.live = false → kx.kid ≠ some b) → lx.cb ≠ l.cb := fun x kx lx hx0 hx ha hmx hkid e => by
    rcases hs.inj x b kx k lx l hx0 hb ha hact hmx hm e with h | ⟨h1, h2, _⟩ | ⟨h1, _, _⟩
    · exact hx h
    · exact hkid h1 h2
    · simp [hlive] at h1
  obtain ⟨c1, c2, c3⟩ := hs.cells b k l hact hm
  obtain ⟨o1, o2, o3⟩ := hs.own b k l hb hact hm
  have hnew : ∀ x kx lx, n0 ≤ x → x ≠ b → H.act x = some kx → m x = some lx → (kx.live = false → kx.kid ≠ some b) → lx.cb ≠ l2.cb := fun x kx lx hx0 hx ha hmx hkid e => by
    rcases hwhere with ⟨h1, _⟩ | h1
    · exact hsame x kx lx hx0 hx ha hmx hkid (e.trans h1)
    · exact h1 x kx lx ha hmx e
  refine ⟨hs.size, by simp; have := hs.low; omega, ?_, ?_, ?_, ?_, ?_, ?_⟩
  · intro x c kx hx hc
    by_cases e : x < H.length
    · rw [List.getElem?_append_left (by simpa using e)] at hx
      by_cases e2 : x = b
      · subst e2; rw [List.getElem?_set_self hblen] at hx; cases hx
        have := q4 c hc; simp; omega
      · rw [List.getElem?_set_ne (by omega)] at hx
        have := hs.kids x c kx hx hc; simp; omega
    · by_cases e2 : x = H.length
      · subst e2
        rw [List.getElem?_append_right (by simp)] at hx
        simp at hx; subst hx; simp [hnk.2] at hc
      · rw [List.getElem?_eq_none (by simp; omega)] at hx; simp at hx
  · intro x kx lx hx hmx
    by_cases e : x < H.length
    · rw [List.getElem?_append_left (by simpa using e)] at hx
      rw [upd_ne _ (by omega)] at hmx
      by_cases e2 : x = b
      · subst e2; rw [List.getElem?_set_self hblen] at hx; cases hx
        rw [q3]; exact hs.es x k lx (act_get hact) hmx
      · rw [List.getElem?_set_ne (by omega)] at hx
        exact hs.es x kx lx hx hmx
    · by_cases e2 : x = H.length
      · subst e2
        rw [List.getElem?_append_right (by simp)] at hx
        simp at hx; subst hx; rw [upd_same] at hmx; cases hmx; exact he
      · rw [List.getElem?_eq_none (by simp; omega)] at hx; simp at hx
  · intro x kx lx ha hmx
    rcases hne x kx ha with ⟨rfl, rfl⟩ | ⟨rfl, rfl, _⟩ | ⟨hx, hxl, ha, _⟩
    · rw [upd_same] at hmx; cases hmx
      exact ⟨he, hlen, cellsAt_mono hca hext fun _ _ => rfl⟩
    · rw [upd_ne _ (by omega), hm] at hmx; cases hmx
      exact ⟨by rw [q3]; exact c1, by rw [q2]; exact c2, by rw [q2]; exact cellsAt_mono c3 hext fun _ _ => rfl⟩
    · rw [upd_ne _ (by omega)] at hmx
      obtain ⟨f1, f2, f3⟩ := hs.cells x kx lx ha hmx
      exact ⟨f1, f2, cellsAt_mono f3 hext fun _ _ => rfl⟩
  · intro x lx hx hmx
    rw [upd_ne _ (by have := hs.low; omega)] at hmx
    exact hs.ro x lx hx hmx
  · intro x kx lx hx0 ha hmx
    rcases hne x kx ha with ⟨rfl, rfl⟩ | ⟨rfl, rfl, _⟩ | ⟨hx, hxl, ha, _⟩
    · rw [upd_same] at hmx; cases hmx
      exact ⟨hcb.1, hcb.2, hroom⟩
    · rw [upd_ne _ (by omega), hm] at hmx; cases hmx
      exact ⟨o1, o2, o3⟩
    · rw [upd_ne _ (by omega)] at hmx
      exact hs.own x kx lx hx0 ha hmx
  · intro x x' kx kx' lx lx' hx0 hx0' ha ha' hmx hmx' heq
    rcases hne x kx ha with ⟨e1, e2⟩ | ⟨e1, e2, e3⟩ | ⟨hx, hxl, ha1, hkid⟩ <;> rcases hne x' kx' ha' with ⟨f1, f2⟩ | ⟨f1, f2, f3⟩ | ⟨hx', hxl', ha2, hkid'⟩
    · left; rw [e1, f1]
    · right; right
      rw [e1, upd_same] at hmx; cases hmx
      rw [f1, upd_ne _ (by omega), hm] at hmx'; cases hmx'
      subst f2; subst e2
      refine ⟨q1, by rw [f3, e1], ?_⟩
      rcases hwhere with ⟨_, h⟩ | h
      · rw [q2]; exact h
      · exact absurd heq.symm (h b k l hact hm)
    · exfalso
      rw [e1, upd_same] at hmx; cases hmx
      rw [upd_ne _ (by omega)] at hmx'
      exact hnew x' kx' lx' hx0' hx' ha2 hmx' hkid' heq.symm
    · right; left
      rw [f1, upd_same] at hmx'; cases hmx'
      rw [e1, upd_ne _ (by omega), hm] at hmx; cases hmx
      subst f2; subst e2
      refine ⟨q1, by rw [e3, f1], ?_⟩
      rcases hwhere with ⟨_, h⟩ | h
      · rw [q2]; exact h
      · exact absurd heq (h b k l hact hm)
    · left; rw [e1, f1]
    · exfalso
      rw [e1, upd_ne _ (by omega), hm] at hmx; cases hmx
      rw [upd_ne _ (by omega)] at hmx'
      exact hsame x' kx' lx' hx0' hx' ha2 hmx' hkid' heq.symm
    · exfalso
      rw [f1, upd_same] at hmx'; cases hmx'
      rw [upd_ne _ (by omega)] at hmx
      exact hnew x kx lx hx0 hx ha1 hmx hkid heq
    · exfalso
      rw [f1, upd_ne _ (by omega), hm] at hmx'; cases hmx'
      rw [upd_ne _ (by omega)] at hmx
      exact hsame x kx lx hx0 hx ha1 hmx hkid heq
    · rw [upd_ne _ (by omega)] at hmx hmx'
      exact hs.inj x x' kx kx' lx lx' hx0 hx0' ha1 ha2 hmx hmx' heq

end Go.RM
