/-
  The three ways in which one operation turns the heap, each a step of the relation: a new block; cells written; a block given up for a longer one.
-/
import Derived.Test.YtmiinaimpdbenaaRmSound1
namespace Go.RM

def upd (m : BMap) (b : Nat) (l : Loc) : BMap := fun x => if x = b then some l else m x
theorem upd_same (m : BMap) (b : Nat) (l : Loc) : upd m b l b = some l := by simp [upd]
theorem upd_ne {m : BMap} {b x : Nat} (l : Loc) (h : x ≠ b) : upd m b l x = m x := by simp [upd, h]
theorem upd_ext {m : BMap} {b : Nat} (l : Loc) (h : m b = none) : Ext m (upd m b l) := fun x k hx => by
  by_cases e : x = b
  · subst e; simp [h] at hx
  · rw [upd_ne l e]; exact hx

theorem act_push_lt {H : Heap} {k : Blk} {x : Nat} (hk : ∀ (b c : Nat) (k : Blk), H[b]? = some k → k.kid = some c → c < H.length) (hx : x < H.length) : Heap.act (H ++ [k]) x = H.act x := by
  unfold Heap.act
  rw [List.getElem?_append_left hx]
  cases h : H[x]? with
  | none => rfl
  | some kx =>
    simp only []
    have : Heap.rev (H ++ [k]) kx = H.rev kx := by
      unfold Heap.rev
      split
      · rfl
      · cases hc : kx.kid with
        | none => rfl
        | some c => simp only []; rw [List.getElem?_append_left (hk x c kx h hc)]
    rw [this]

theorem act_lt {H : Heap} {x : Nat} {k : Blk} (h : H.act x = some k) : x < H.length := by
  have := act_get h
  rcases Nat.lt_or_ge x H.length with h1 | h1
  · exact h1
  · simp [List.getElem?_eq_none h1] at this

theorem act_push {H : Heap} {k kx : Blk} {x : Nat} (hk : ∀ (b c : Nat) (k : Blk), H[b]? = some k → k.kid = some c → c < H.length)
    (h : Heap.act (H ++ [k]) x = some kx) : H.act x = some kx ∨ (x = H.length ∧ kx = k) := by
  have h1 := act_lt h
  simp at h1
  by_cases e : x < H.length
  · left; rw [← act_push_lt hk e]; exact h
  · right
    have : x = H.length := by omega
    subst this
    have h2 := act_get h
    simp at h2
    exact ⟨rfl, h2.symm⟩

theorem act_set {H : Heap} {b x : Nat} {k' kx : Blk} (hl : ∀ k, H[b]? = some k → (k'.live && k'.clean) = true → (k.live && k.clean) = true)
    (h : Heap.act (H.set b k') x = some kx) (hx : x ≠ b) : H.act x = some kx := by
  have hg := act_get h
  rw [List.getElem?_set_ne (by omega)] at hg
  unfold Heap.act at h ⊢
  rw [List.getElem?_set_ne (by omega)] at h
  rw [hg] at h ⊢
  simp only at h ⊢
  by_cases hlv : kx.live = true
  · simp [hlv]
  · simp only [hlv, Bool.false_or] at h ⊢
    split at h
    · rename_i hr
      have hr' : (Heap.rev H kx).isSome = true := by
        unfold Heap.rev at hr ⊢
        simp only [hlv] at hr ⊢
        cases hc : kx.kid with
        | none => simp [hc] at hr
        | some c =>
          simp only [hc] at hr ⊢
          by_cases ec : c = b
          · subst ec
            by_cases hlen : c < H.length
            · rw [List.getElem?_set_self hlen] at hr
              simp only [] at hr
              rw [List.getElem?_eq_getElem hlen]
              simp only []
              by_cases hq : (k'.live && k'.clean) = true
              · have := hl H[c] (List.getElem?_eq_getElem hlen) hq
                simp [this]
              · simp [hq] at hr
            · rw [List.getElem?_eq_none (by simpa using hlen)] at hr
              simp at hr
          · rw [List.getElem?_set_ne (by omega)] at hr
            exact hr
      simp [hr']
    · simp at h

theorem cellsAt_mono {m m' : BMap} {w w' : World} {l : Loc} {cs : List AV} (h : CellsAt m w l cs) (hm : Ext m m')
    (hw : ∀ j, j < cs.length → w'.cell? ⟨l.cb, l.co + j, none⟩ = w.cell? ⟨l.cb, l.co + j, none⟩) : CellsAt m' w' l cs := fun j v hv => by
  obtain ⟨cv, h1, h2⟩ := h j v hv
  have hj : j < cs.length := by
    rcases Nat.lt_or_ge j cs.length with h | h
    · exact h
    · simp [List.getElem?_eq_none h] at hv
  exact ⟨cv, by rw [hw j hj]; exact h1, h2.mono hm⟩

theorem cell_of_heap {w w' : World} {c : Nat} (h : w'.heap[c]? = w.heap[c]?) (off : Nat) : w'.cell? ⟨c, off, none⟩ = w.cell? ⟨c, off, none⟩ := by
  simp only [World.cell?, h]
theorem frozen_of_heap {w w' : World} {c : Nat} (h : w'.heap[c]? = w.heap[c]?) (off : Nat) : w'.frozen? ⟨c, off, none⟩ = w.frozen? ⟨c, off, none⟩ := by
  simp only [World.frozen?, h]

theorem room_of_heap {w w' : World} {l : Loc} (h : w'.heap[l.cb]? = w.heap[l.cb]?) (r : Room w l) : Room w' l := fun j hj => by
  rw [cell_of_heap h, frozen_of_heap h]; exact r j hj

/-- A new block is laid in the world (it may have been drawn for before). -/
theorem push_step {n0 base fl : Nat} {m : BMap} {H : Heap} {w w1 : World} (hs : Sim n0 base m H w) (hn : m H.length = none)
    {k : Blk} {cs rest : List Value} {t : TypeId} (hk : k.kid = none) (hr : VRels m k.cells cs)
    (h1 : w1.heap = w.heap) (h2 : w1.os = w.os) (h3 : w1.tape = w.tape) (h4 : w1.output = w.output) :
    Step n0 base fl m H w (upd m H.length ⟨w.heap.size, 0, (cs ++ rest).length, k.e⟩) (H ++ [k]) (w1.alloc (.cells (cs ++ rest).toArray t)) := by
  have hext := upd_ext ⟨w.heap.size, 0, (cs ++ rest).length, k.e⟩ hn
  have hold : ∀ c, c < w.heap.size → (w1.alloc (.cells (cs ++ rest).toArray t)).heap[c]? = w.heap[c]? := fun c hc => by
    simp only [World.alloc]
    rw [Array.getElem?_push, if_neg (by rw [h1]; omega), h1]
  have hnewcell : ∀ j v, (cs ++ rest)[j]? = some v → (w1.alloc (.cells (cs ++ rest).toArray t)).cell? ⟨w.heap.size, 0 + j, none⟩ = some v := fun j v hv => by
    have := World.cell?_alloc_new w1 (cs ++ rest).toArray t (0 + j)
    rw [h1] at this
    rw [this]
    simpa using hv
  have hnewfr : ∀ j, (w1.alloc (.cells (cs ++ rest).toArray t)).frozen? ⟨w.heap.size, 0 + j, none⟩ = false := fun j => by
    have := World.frozen?_alloc_new w1 (cs ++ rest).toArray t (0 + j)
    rw [h1] at this
    exact this
  have hsz : (w1.alloc (.cells (cs ++ rest).toArray t)).heap.size = w.heap.size + 1 := by simp [h1]
  have hcb : ∀ b kb lb, n0 ≤ b → H.act b = some kb → m b = some lb → lb.cb < w.heap.size := fun b kb lb hb ha hm => (hs.own b kb lb hb ha hm).2.1
  have hlt : ∀ b kb lb, H.act b = some kb → m b = some lb → lb.cb < w.heap.size := fun b kb lb ha hm => by
    by_cases hb : n0 ≤ b
    · exact hcb b kb lb hb ha hm
    · have := hs.ro b lb (by omega) hm
      have := hs.size
      omega
  refine ⟨hext, ?_, ⟨?_, ?_, ?_, ?_, ?_, ?_, ?_, ?_⟩, h2, h3, h4, by rw [hsz]; omega, by simp, fun c hc _ => hold c hc, ?_⟩
  · intro b l hb hm
    by_cases e : b = H.length
    · subst e; simp
    · rw [upd_ne _ e] at hb; simp [hm] at hb
  · rw [hsz]; have := hs.size; omega
  · simp; have := hs.low; omega
  · intro b c kb hb hc
    by_cases e : b < H.length
    · rw [List.getElem?_append_left e] at hb
      have := hs.kids b c kb hb hc
      simp; omega
    · by_cases e2 : b = H.length
      · subst e2; simp at hb; subst hb; simp [hk] at hc
      · rw [List.getElem?_eq_none (by simp; omega)] at hb; simp at hb
  · intro b kb lb hb hm
    by_cases e : b < H.length
    · rw [List.getElem?_append_left e] at hb
      rw [upd_ne _ (by omega)] at hm
      exact hs.es b kb lb hb hm
    · by_cases e2 : b = H.length
      · subst e2; simp at hb; subst hb; rw [upd_same] at hm; cases hm; rfl
      · rw [List.getElem?_eq_none (by simp; omega)] at hb; simp at hb
  · intro b kb lb ha hm
    rcases act_push hs.kids ha with ha | ⟨rfl, rfl⟩
    · have hb := act_lt ha
      rw [upd_ne _ (by omega)] at hm
      obtain ⟨e1, e2, e3⟩ := hs.cells b kb lb ha hm
      exact ⟨e1, e2, cellsAt_mono e3 hext fun j _ => cell_of_heap (hold _ (hlt b kb lb ha hm)) _⟩
    · rw [upd_same] at hm; cases hm
      refine ⟨rfl, ?_, fun j v hv => ?_⟩
      · simp [hr.length]
      · obtain ⟨cv, c1, c2⟩ := hr.get j v hv
        refine ⟨cv, hnewcell j cv ?_, c2.mono hext⟩
        rw [List.getElem?_append_left]
        · exact c1
        · rcases Nat.lt_or_ge j cs.length with h | h
          · exact h
          · simp [List.getElem?_eq_none h] at c1
  · intro b lb hb hm
    rw [upd_ne _ (by have := hs.low; omega)] at hm
    exact hs.ro b lb hb hm
  · intro b kb lb hb ha hm
    rcases act_push hs.kids ha with ha | ⟨rfl, rfl⟩
    · have hb' := act_lt ha
      rw [upd_ne _ (by omega)] at hm
      obtain ⟨e1, e2, e3⟩ := hs.own b kb lb hb ha hm
      exact ⟨e1, by rw [hsz]; omega, room_of_heap (hold _ e2) e3⟩
    · rw [upd_same] at hm; cases hm
      refine ⟨hs.size, by rw [hsz]; simp, fun j hj => ⟨?_, hnewfr j⟩⟩
      rw [hnewcell j _ (List.getElem?_eq_getElem hj)]
      rfl
  · intro b b' kb kb' lb lb' hb hb' ha ha' hm hm' he
    rcases act_push hs.kids ha with ha1 | ⟨e1, e2⟩ <;> rcases act_push hs.kids ha' with ha2 | ⟨e3, e4⟩
    · have h5 := act_lt ha1
      have h6 := act_lt ha2
      rw [upd_ne _ (by omega)] at hm hm'
      exact hs.inj b b' kb kb' lb lb' hb hb' ha1 ha2 hm hm' he
    · have h5 := act_lt ha1
      rw [upd_ne _ (by omega)] at hm
      rw [e3, upd_same] at hm'; cases hm'
      have := hlt b kb lb ha1 hm
      simp at he; omega
    · have h5 := act_lt ha2
      rw [upd_ne _ (by omega)] at hm'
      rw [e1, upd_same] at hm; cases hm
      have := hlt b' kb' lb' ha2 hm'
      simp at he; omega
    · left; rw [e1, e3]
  · rintro c hc ⟨b, kb, lb, hb, ha, hm, rfl⟩
    rcases act_push hs.kids ha with ha | ⟨rfl, rfl⟩
    · have h5 := act_lt ha
      rw [upd_ne _ (by omega)] at hm
      exact ⟨b, kb, lb, hb, ha, hm, rfl⟩
    · rw [upd_same] at hm; cases hm
      simp at hc

theorem setCells_size (b : Nat) : ∀ (vs : List Value) (o : Nat) (w : World), (w.setCells b o vs).heap.size = w.heap.size
  | [], _, _ => rfl
  | v :: r, o, w => by rw [World.setCells, setCells_size b r]; simp
theorem setCells_os (b : Nat) : ∀ (vs : List Value) (o : Nat) (w : World), (w.setCells b o vs).os = w.os ∧ (w.setCells b o vs).tape = w.tape ∧ (w.setCells b o vs).output = w.output
  | [], _, _ => ⟨rfl, rfl, rfl⟩
  | v :: r, o, w => by rw [World.setCells]; exact setCells_os b r (o + 1) _
theorem setCells_other (b : Nat) : ∀ (vs : List Value) (o : Nat) (w : World) (c : Nat), c ≠ b → (w.setCells b o vs).heap[c]? = w.heap[c]?
  | [], _, _, _, _ => rfl
  | v :: r, o, w, c, h => by
    rw [World.setCells, setCells_other b r _ _ c h]
    exact RowKit.Below.heap_setCell w ⟨b, o, none⟩ v c h

theorem cell_setCells {w : World} {b o : Nat} {vs : List Value} (hc : ∀ j, j < vs.length → (w.cell? ⟨b, o + j, none⟩).isSome = true) (x : Nat) :
    (w.setCells b o vs).cell? ⟨b, x, none⟩ = if o ≤ x ∧ x < o + vs.length then vs[x - o]? else w.cell? ⟨b, x, none⟩ := by
  split
  · rename_i h
    have := World.cell?_setCells_in b vs o w hc (x - o) (by omega)
    rw [show o + (x - o) = x by omega] at this
    rw [this, List.getElem?_eq_getElem]
  · rename_i h
    exact World.cell?_setCells_out b vs o w _ (fun _ _ => by simp; omega)

theorem splice_get {l cs : List AV} {off j : Nat} (h : off + cs.length ≤ l.length) :
    (splice l off cs)[j]? = if off ≤ j ∧ j < off + cs.length then cs[j - off]? else l[j]? := by
  unfold splice
  have h1 : (l.take off).length = off := by simp; omega
  split
  · rename_i hj
    rw [List.getElem?_append_left (by simp; omega), List.getElem?_append_right (by omega), h1]
  · rename_i hj
    by_cases h2 : j < off
    · rw [List.getElem?_append_left (by simp; omega), List.getElem?_append_left (by omega), List.getElem?_take_of_lt h2]
    · rw [List.getElem?_append_right (by simp; omega)]
      simp only [List.length_append, h1, List.getElem?_drop]
      congr 1
      omega

theorem splice_length {l cs : List AV} {off : Nat} (h : off + cs.length ≤ l.length) : (splice l off cs).length = l.length := by
  simp [splice]; omega

/-- Cells of a writable block are written. -/
theorem put_step {n0 base fl : Nat} {m : BMap} {H H' : Heap} {w : World} (hs : Sim n0 base m H w) (hfl : n0 ≤ fl) {b off : Nat} {xs : List AV} {vs : List Value} {l : Loc}
    (hp : rput fl H b off xs = some H') (hm : m b = some l) (hr : VRels m xs vs) :
    (∀ j, j < vs.length → (w.cell? ⟨l.cb, l.co + off + j, none⟩).isSome = true ∧ w.frozen? ⟨l.cb, l.co + off + j, none⟩ = false) ∧ (∀ v ∈ vs, v.oneCell' = true) ∧
    Step n0 base fl m H w m H' (w.setCells l.cb (l.co + off) vs) := by
  unfold rput at hp
  split at hp
  · rename_i k hk
    split at hp
    · rename_i hcond
      obtain ⟨hb, hlen, hsc⟩ := hcond
      cases hp
      obtain ⟨hact, hlive, hget⟩ := blk_act hk
      obtain ⟨e1, e2, e3⟩ := hs.cells b k l hact hm
      have hbn : n0 ≤ b := Nat.le_trans hfl hb
      obtain ⟨o1, o2, o3⟩ := hs.own b k l hbn hact hm
      have hlv := hr.length
      have hcells : ∀ j, j < vs.length → (w.cell? ⟨l.cb, l.co + off + j, none⟩).isSome = true ∧ w.frozen? ⟨l.cb, l.co + off + j, none⟩ = false := fun j hj => by
        have := o3 (off + j) (by omega)
        rwa [← Nat.add_assoc] at this
      have hone := hr.oneCells hsc
      have hblen : b < H.length := act_lt hact
      have hless : ∀ k', H[b]? = some k' → (({ k with cells := splice k.cells off xs, clean := false } : Blk).live && ({ k with cells := splice k.cells off xs, clean := false } : Blk).clean) = true → (k'.live && k'.clean) = true := fun k' _ h => by simp at h
      have hact' : ∀ x kx, Heap.act (H.set b { k with cells := splice k.cells off xs, clean := false }) x = some kx → (x = b ∧ kx = { k with cells := splice k.cells off xs, clean := false }) ∨ (x ≠ b ∧ H.act x = some kx ∧ (kx.live = false → kx.kid ≠ some b)) := fun x kx h => by
        by_cases e : x = b
        · subst e
          have := act_get h
          rw [List.getElem?_set_self hblen] at this
          cases this
          exact .inl ⟨rfl, rfl⟩
        · refine .inr ⟨e, act_set hless h e, fun hd hkid => ?_⟩
          unfold Heap.act at h
          have hg := act_get (act_set hless h e)
          rw [List.getElem?_set_ne (by omega), hg] at h
          simp [hd, Heap.rev, hkid, List.getElem?_set_self hblen] at h
      have hother : ∀ x kx lx, x ≠ b → H.act x = some kx → m x = some lx → (kx.live = false → kx.kid ≠ some b) → lx.cb ≠ l.cb := fun x kx lx hx ha hmx hkid he => by
        by_cases hx0 : n0 ≤ x
        · rcases hs.inj x b kx k lx l hx0 hbn ha hact hmx hm he with h | ⟨h1, h2, _⟩ | ⟨h1, _, _⟩
          · exact hx h
          · exact hkid h1 h2
          · simp [hlive] at h1
        · have := hs.ro x lx (by omega) hmx
          omega
      obtain ⟨s1, s2, s3⟩ := setCells_os l.cb vs (l.co + off) w
      have ssz := setCells_size l.cb vs (l.co + off) w
      refine ⟨hcells, hone, ⟨Ext.refl m, fun x lx h1 h2 => by simp [h1] at h2, ⟨?_, ?_, ?_, ?_, ?_, ?_, ?_, ?_⟩, s1, s2, s3, by rw [ssz]; exact Nat.le_refl _, by simp, ?_, ?_⟩⟩
      · rw [ssz]; exact hs.size
      · simp; exact hs.low
      · intro x c kx hx hc
        by_cases e : x = b
        · subst e; rw [List.getElem?_set_self hblen] at hx; cases hx
          simp; exact hs.kids x c k hget hc
        · rw [List.getElem?_set_ne (by omega)] at hx
          simp; exact hs.kids x c kx hx hc
      · intro x kx lx hx hmx
        by_cases e : x = b
        · subst e; rw [List.getElem?_set_self hblen] at hx; cases hx
          exact hs.es x k lx hget hmx
        · rw [List.getElem?_set_ne (by omega)] at hx
          exact hs.es x kx lx hx hmx
      · intro x kx lx ha hmx
        rcases hact' x kx ha with ⟨rfl, rfl⟩ | ⟨hx, ha, hkid⟩
        · rw [hm] at hmx; cases hmx
          refine ⟨e1, by rw [splice_length hlen]; exact e2, fun j v hv => ?_⟩
          rw [splice_get hlen] at hv
          rw [cell_setCells (fun j hj => (hcells j hj).1)]
          split at hv
          · rename_i hj
            obtain ⟨cv, c1, c2⟩ := hr.get _ _ hv
            refine ⟨cv, ?_, c2⟩
            rw [if_pos (by omega), show l.co + j - (l.co + off) = j - off by omega]
            exact c1
          · rename_i hj
            rw [if_neg (by omega)]
            exact e3 j v hv
        · obtain ⟨f1, f2, f3⟩ := hs.cells x kx lx ha hmx
          exact ⟨f1, f2, cellsAt_mono f3 (Ext.refl m) fun j _ => cell_of_heap (setCells_other _ _ _ _ _ (hother x kx lx hx ha hmx hkid)) _⟩
      · exact hs.ro
      · intro x kx lx hx0 ha hmx
        rcases hact' x kx ha with ⟨rfl, rfl⟩ | ⟨hx, ha, hkid⟩
        · rw [hm] at hmx; cases hmx
          refine ⟨o1, by rw [ssz]; exact o2, fun j hj => ⟨?_, by rw [World.frozen?_setCells]; exact (o3 j hj).2⟩⟩
          rw [cell_setCells (fun j hj => (hcells j hj).1)]
          split
          · rename_i h; rw [List.getElem?_eq_getElem (by omega)]; rfl
          · exact (o3 j hj).1
        · obtain ⟨f1, f2, f3⟩ := hs.own x kx lx hx0 ha hmx
          exact ⟨f1, by rw [ssz]; exact f2, room_of_heap (setCells_other _ _ _ _ _ (hother x kx lx hx ha hmx hkid)) f3⟩
      · intro x x' kx kx' lx lx' hx hx' ha ha' hmx hmx' he
        rcases hact' x kx ha with ⟨e1, e2⟩ | ⟨hxb, ha1, hkid⟩ <;> rcases hact' x' kx' ha' with ⟨e3, e4⟩ | ⟨hxb', ha2, hkid'⟩
        · left; rw [e1, e3]
        · exfalso
          rw [e1, hm] at hmx; cases hmx
          exact hother x' kx' lx' hxb' ha2 hmx' hkid' he.symm
        · exfalso
          rw [e3, hm] at hmx'; cases hmx'
          exact hother x kx lx hxb ha1 hmx hkid he
        · exact hs.inj x x' kx kx' lx lx' hx hx' ha1 ha2 hmx hmx' he
      · intro c hc hh
        refine setCells_other _ _ _ _ _ fun e => hh ?_
        exact ⟨b, k, l, hb, hact, hm, e.symm⟩
      · rintro c hc ⟨x, kx, lx, hx, ha, hmx, rfl⟩
        rcases hact' x kx ha with ⟨rfl, rfl⟩ | ⟨hxb, ha, hkid⟩
        · exact ⟨x, k, lx, hx, hact, hmx, rfl⟩
        · exact ⟨x, kx, lx, hx, ha, hmx, rfl⟩
    · simp at hp
  · simp at hp

end Go.RM
