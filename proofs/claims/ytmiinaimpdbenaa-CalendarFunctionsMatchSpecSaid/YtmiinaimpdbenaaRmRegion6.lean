/-
  A region: an append whose order against others is open: the block it fills is given up.
-/
import Derived.Test.YtmiinaimpdbenaaRmRegion5
namespace Go.RM
set_option linter.unusedSimpArgs false
set_option linter.unusedVariables false

section
variable {P : Program} {vars : List Nat} {nt : Nat} {draw : Bool} {all : List Oper} {l : List ROper} {call : Nat → Nat → List AV → Heap → Option (AV × Heap)} {fl : Nat} {E L : List AV} {Hs : Nat → Heap} {n0 base : Nat}
variable {m0 : BMap} {w0 : World} {S : Nat → Bool} {p d : Nat} {m : BMap} {a : Act} {w : World}

theorem Inv.top (C : Ctx P vars nt draw all l call fl E L Hs n0) (I : Inv vars nt draw all l fl E L Hs n0 base m0 w0 S p d m a w) {i : Nat} {o : Oper} {ro : ROper} (ho : all[i]? = some o) (hc : Comp P vars nt draw (ancs [] all) all i o ro)
    (hr : Ready draw all S i) (hn : ¬ solidAt all l i) (h1 : p ≤ i) (h2 : i < p + d)
    {b : Nat} {blk nk : Blk} {lb l2 : Loc} {w' : World} (hfl : fl ≤ b) (hact : (Hs i).act b = some blk) (hlive : blk.live = true) (hmb : m b = some lb)
    (hH : Hs (i + 1) = (Hs i).set b (killed blk) ++ [nk]) (hnk : nk.live = true ∧ nk.kid = none) (he2 : l2.e = nk.e) (hlen2 : nk.cells.length ≤ l2.room)
    (hca : CellsAt m w' l2 nk.cells) (hcb : base ≤ l2.cb ∧ l2.cb < w'.heap.size) (hroom : Room w' l2)
    (hwhere : (l2.cb = lb.cb ∧ lb.co + blk.cells.length ≤ l2.co + nk.cells.length) ∨ w.heap.size ≤ l2.cb)
    (hw : OldKept w w') (hold : ∀ c, c < w.heap.size → c ≠ lb.cb → w'.heap[c]? = w.heap[c]?)
    (hkeep : ∀ off, off < lb.co + blk.cells.length → w'.cell? ⟨lb.cb, off, none⟩ = w.cell? ⟨lb.cb, off, none⟩)
    (hrk : ∀ lo : Loc, lo.cb = lb.cb → Room w lo → Room w' lo)
    {v : AV} {v' : Value} (hL : L[i]? = some v) (hv : VRel (upd m (Hs i).length l2) v v') :
    Inv vars nt draw all l fl E L Hs n0 base m0 w0 (setS S i) p d (upd m (Hs i).length l2) (a.put o.dst v') w' := by
  have hil : i < all.length := by have := I.hq; omega
  have hblen := act_lt hact
  have hbget := act_get hact
  have hlen1 : (Hs (i + 1)).length = (Hs i).length + 1 := by rw [hH]; simp
  have hVact : (RM.hv Hs p d).act b = some blk := (I.kd C h1 (by omega)).act (C.kids (by omega)) hact
  have hVb : (RM.hv Hs p d)[b]? = some blk := act_get hVact
  have hHb1 : (Hs (i + 1))[b]? = some (killed blk) := by
    rw [hH, List.getElem?_append_left (by simpa using hblen), List.getElem?_set_self hblen]
  have hHn : (Hs (i + 1))[(Hs i).length]? = some nk := by
    rw [hH, List.getElem?_append_right (by simp)]; simp
  have hVn : (RM.hv Hs p d)[(Hs i).length]? = some nk := by
    rw [I.hv_at C h1 h2 (Nat.le_refl _) (by omega)]; exact hHn
  have hmn : m (Hs i).length = none := I.fresh C h1 hil hr.un (Nat.le_refl _) (by omega)
  have hext := upd_ext (m := m) l2 hmn
  have hn0b : n0 ≤ b := Nat.le_trans C.flow hfl
  have hlb := I.own b blk lb hn0b hVact hmb
  have hlow : n0 ≤ (Hs i).length := Nat.le_trans C.low0 (C.len (Nat.zero_le i) (by omega))
  have hcase : ∀ {x : Nat} {kx : Blk} {lx}, (RM.hv Hs p d).act x = some kx → upd m (Hs i).length l2 x = some lx → (x = (Hs i).length ∧ lx = l2 ∧ kx = nk) ∨ (x ≠ (Hs i).length ∧ m x = some lx) := fun {x kx lx} ha hm => by
    by_cases e : x = (Hs i).length
    · subst e; rw [upd_same] at hm; cases hm
      have := act_get ha
      rw [hVn] at this; cases this
      exact .inl ⟨rfl, rfl, rfl⟩
    · rw [upd_ne _ e] at hm; exact .inr ⟨e, hm⟩
  have hnoact1 : (Hs (i + 1)).act b = none := killed_act hHb1
  have hself : Rk Hs (setS S i) p d b (Hs i).length := ⟨i, setS_true.2 (.inl rfl), h1, h2, Nat.le_refl _, by rw [hact]; rfl, hnoact1⟩
  have hin : ∀ {x : Nat} {kx : Blk} {lx}, n0 ≤ x → (RM.hv Hs p d).act x = some kx → m x = some lx → lx.cb = lb.cb → lx.co + kx.cells.length ≤ lb.co + blk.cells.length ∧ Rk Hs (setS S i) p d x (Hs i).length := fun {x kx lx} hx0 ha hmx he => by
    rcases I.excl x b kx blk lx lb hx0 hn0b ha hVact hmx hmb he with h | ⟨g1, g2, g3⟩ | ⟨g1, _⟩ | ⟨⟨j, j1, j2, j3, j4, j5, j6⟩, g⟩ | ⟨⟨j, j1, j2, j3, j4, j5, j6⟩, g⟩
    · subst h
      rw [hVact] at ha; cases ha
      rw [hmb] at hmx; cases hmx
      exact ⟨Nat.le_refl _, hself⟩
    · refine ⟨g3, i, setS_true.2 (.inl rfl), h1, h2, Nat.le_refl _, ?_⟩
      have hxV := act_get ha
      have hxl : x < (Hs i).length := by
        rcases Nat.lt_or_ge x (Hs i).length with h | h
        · exact h
        · exfalso
          rcases I.dom x lx hmx with f | ⟨j, _, j1, j2, j3, j4⟩ | f
          · have := C.len h1 (by omega : i ≤ all.length); omega
          · have hq := I.hq
            rw [I.hv_at C j1 j2 j3 j4] at hxV
            have := (C.stepFacts (show j < all.length by omega)).new x b kx j3 hxV g2
            have : i ≤ j := by
              rcases Nat.lt_or_ge j i with h' | h'
              · have := C.len (show j + 1 ≤ i by omega) (by omega); omega
              · exact h'
            have := C.len this (by omega); omega
          · have := act_lt ha
            rw [I.vlen C] at this
            have := C.len I.hq (Nat.le_refl _); omega
      have hxH : (Hs i)[x]? = some kx := by
        rcases (I.kd C h1 (by omega)).2 x hxl with e | ⟨k0, e1, e2, _⟩
        · rw [e]; exact hxV
        · rw [hxV] at e1; cases e1; rw [g1] at e2; simp at e2
      have hxa : (Hs i).act x = some kx := act_same (V := RM.hv Hs p d) (by rw [hxV, hxH]) (fun c hcc => by rw [g2] at hcc; cases hcc; rw [hVb, hbget]) ha
      refine ⟨by rw [hxa]; rfl, ?_⟩
      have hxb : x ≠ b := fun e => by subst e; rw [hVb] at hxV; cases hxV; rw [g1] at hlive; simp at hlive
      have hxH1 : (Hs (i + 1))[x]? = some kx := by
        rw [hH, List.getElem?_append_left (by simpa using hxl), List.getElem?_set_ne (by omega)]; exact hxH
      unfold Heap.act
      rw [hxH1]
      simp only [g1, Heap.rev, g2, hHb1]
      simp [killed]
    · rw [g1] at hlive; simp at hlive
    · exact ⟨g, j, setS_true.2 (.inr j1), j2, j3, by omega, j5, j6⟩
    · exfalso
      obtain ⟨kj, hkj⟩ := Option.isSome_iff_exists.1 j5
      have hq := I.hq
      rcases Nat.lt_trichotomy j i with e | e | e
      · have := act_back (I.nsTo C (show p ≤ j + 1 by omega) (show j + 1 ≤ i by omega) (by omega)) (C.kids (by omega)) (Nat.lt_of_lt_of_le (act_lt hkj) (C.len (by omega) (by omega))) hact
        rw [j6] at this; simp at this
      · subst e; rw [hr.un] at j1; simp at j1
      · have := act_back (I.nsTo C (show p ≤ i + 1 by omega) (show i + 1 ≤ j by omega) (by omega)) (C.kids (by omega)) (by omega) hkj
        rw [hnoact1] at this; simp at this
  refine ⟨I.hq, I.ns, I.qend, I.pstart, I.slt_set hil, I.closed_set hr, I.solid_set hn, ?_, Nat.le_trans I.wsz hw.size, ?_, ?_, ?_, ?_, ?_, I.ext.trans hext, ?_, hw.os.trans I.os, hw.tape.trans I.tape, hw.output.trans I.output, Nat.le_trans I.size hw.size, ?_, ?_, I.tmps.put C ho hc hext hL hv⟩
  · intro x lx hm
    by_cases e : x = (Hs i).length
    · subst e; exact .inr (.inl ⟨i, setS_true.2 (.inl rfl), h1, h2, Nat.le_refl _, by omega⟩)
    · rw [upd_ne _ e] at hm
      rcases I.dom x lx hm with h | ⟨j, h1, h2⟩ | h
      · exact .inl h
      · exact .inr (.inl ⟨j, setS_true.2 (.inr h1), h2⟩)
      · exact .inr (.inr h)
  · intro x kx lx ha hm
    rcases hcase ha hm with ⟨rfl, rfl, rfl⟩ | ⟨_, h⟩
    · exact ⟨he2, hlen2, cellsAt_mono hca hext fun _ _ => rfl⟩
    · obtain ⟨e1, e2, e3⟩ := I.cells x kx lx ha h
      refine ⟨e1, e2, cellsAt_mono e3 hext fun j hj => ?_⟩
      by_cases ec : lx.cb = lb.cb
      · by_cases hx0 : n0 ≤ x
        · have := (hin hx0 ha h ec).1
          rw [ec]; exact hkeep _ (by omega)
        · have := I.ro x lx (by omega) h
          have := hlb.1
          omega
      · exact cell_of_heap (hold _ (I.lt_size ha h) ec) _
  · intro x lx hx hm
    rw [upd_ne _ (by omega)] at hm
    exact I.ro x lx hx hm
  · intro x kx lx hx0 ha hm
    rcases hcase ha hm with ⟨rfl, rfl, rfl⟩ | ⟨_, h⟩
    · exact ⟨hcb.1, hcb.2, hroom⟩
    · obtain ⟨e1, e2, e3⟩ := I.own x kx lx hx0 ha h
      refine ⟨e1, Nat.lt_of_lt_of_le e2 hw.size, ?_⟩
      by_cases ec : lx.cb = lb.cb
      · exact hrk lx ec e3
      · exact room_of_heap (hold _ e2 ec) e3
  · intro x x' kx kx' lx lx' hx0 hx0' ha ha' hm hm' he
    have mono : ∀ {x y}, Rk Hs S p d x y → Rk Hs (setS S i) p d x y := fun r => r.mono fun j h => setS_true.2 (.inr h)
    have hnewOld : ∀ {y : Nat} {ky : Blk} {ly}, n0 ≤ y → (RM.hv Hs p d).act y = some ky → m y = some ly → ly.cb = l2.cb → Rk Hs (setS S i) p d y (Hs i).length ∧ ly.co + ky.cells.length ≤ l2.co + nk.cells.length := fun {y ky ly} hy0 hay hmy e => by
      rcases hwhere with ⟨g1, g2⟩ | g
      · obtain ⟨f1, f2⟩ := hin hy0 hay hmy (e.trans g1)
        exact ⟨f2, by omega⟩
      · have := I.lt_size hay hmy; omega
    rcases hcase ha hm with ⟨e1, e2, e3⟩ | ⟨g, h⟩ <;> rcases hcase ha' hm' with ⟨f1, f2, f3⟩ | ⟨g', h'⟩
    · left; rw [e1, f1]
    · rw [e1, e2, e3]
      rw [e2] at he
      exact .inr (.inr (.inr (.inr (hnewOld hx0' ha' h' he.symm))))
    · rw [f1, f2, f3]
      rw [f2] at he
      exact .inr (.inr (.inr (.inl (hnewOld hx0 ha h he))))
    · exact (I.excl x x' kx kx' lx lx' hx0 hx0' ha ha' h h' he).imp id (Or.imp id (Or.imp id (Or.imp (fun h => ⟨mono h.1, h.2⟩) (fun h => ⟨mono h.1, h.2⟩))))
  · intro x kx lx hk hm
    by_cases e : x = (Hs i).length
    · subst e; rw [upd_same] at hm; cases hm
      rw [hVn] at hk; cases hk; exact he2
    · rw [upd_ne _ e] at hm; exact I.es x kx lx hk hm
  · intro x lx hm hm0
    by_cases e : x = (Hs i).length
    · subst e
      refine ⟨C.len (Nat.zero_le i) (by omega), ?_⟩
      have := C.len (show i + 1 ≤ all.length by omega) (Nat.le_refl _); omega
    · rw [upd_ne _ e] at hm; exact I.new x lx hm hm0
  · intro c hcl hh
    by_cases e : c = lb.cb
    · subst e
      exact absurd (I.hits _ hcl ⟨b, blk, lb, hfl, hVact, hmb, rfl⟩) hh
    · rw [hold c (Nat.lt_of_lt_of_le hcl I.size) e]; exact I.frame c hcl hh
  · rintro c hcl ⟨x, kx, lx, g1, ha, hm, rfl⟩
    rcases hcase ha hm with ⟨e1, e2, e3⟩ | ⟨_, h⟩
    · rcases hwhere with ⟨f1, _⟩ | f
      · rw [e2, f1] at hcl ⊢
        exact I.hits _ hcl ⟨b, blk, lb, hfl, hVact, hmb, rfl⟩
      · have := I.size; rw [e2] at hcl; omega
    · exact I.hits _ hcl ⟨x, kx, lx, g1, ha, h, rfl⟩

end
end Go.RM
