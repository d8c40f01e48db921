/-
  append: the five ways it may go, and each as a step.
-/
import Derived.Test.YtmiinaimpdbenaaRmSound9
namespace Go.RM
set_option linter.unusedSimpArgs false

variable {P : Program}

/-- What an append does to the world and to the heap. -/
inductive AppRes (fl : Nat) (free : Bool) (m : BMap) (H : Heap) (w : World) : AV → Heap → Value → World → Prop where
  | same {v : AV} {v' : Value} (hv : VRel m v v') : AppRes fl free m H w v H v' w
  | push {nk : Blk} {cs rest : List Value} {t : TypeId} {n cap : Nat} (hk : nk.kid = none ∧ nk.live = true) (hr : VRels m nk.cells cs) (hn : n ≤ cap) (hcap : (cs ++ rest).length = cap * nk.e) :
      AppRes fl free m H w (.slice H.length 0 n none) (H ++ [nk]) (.slice (some ⟨w.heap.size, 0, none⟩) n cap) (w.drew.alloc (.cells (cs ++ rest).toArray t))
  | put {b off o n : Nat} {lim : Option Nat} {l : Loc} {xs : List AV} {ys : List Value} {H' : Heap} {v' : Value} (hfree : free = true) (hm : m b = some l) (hp : rput fl H b o xs = some H') (hr : VRels m xs ys)
      (hv : VRel m (.slice b off n lim) v') : AppRes fl free m H w (.slice b off n lim) H' v' (w.setCells l.cb (l.co + o) ys)
  | topIn {b off n k e cap : Nat} {blk : Blk} {l : Loc} {xs : List AV} {ys : List Value} (hfl : fl ≤ b) (hact : H.act b = some blk) (hlive : blk.live = true) (hm : m b = some l) (he : l.e = e)
      (hoff : off ≤ blk.cells.length) (hfull : off + n * e = blk.cells.length) (hr : VRels m xs ys) (hxs : xs.length = k * e) (hsc : xs.all AV.scalar = true) (hcap : off + cap * e = l.room) (hn : n + k ≤ cap) :
      AppRes fl free m H w (.slice H.length 0 (n + k) none) (H.set b { blk with live := false, kid := if free then some H.length else none } ++ [{ cells := blk.cells.drop off ++ xs, e }])
        (.slice (some ⟨l.cb, l.co + off, none⟩) (n + k) cap) (w.setCells l.cb (l.co + blk.cells.length) ys)
  | topNew {b off n k e cap : Nat} {blk : Blk} {l : Loc} {xs : List AV} {cs rest : List Value} {t : TypeId} (hfl : fl ≤ b) (hact : H.act b = some blk) (hlive : blk.live = true) (hm : m b = some l)
      (hr : VRels m (blk.cells.drop off ++ xs) cs) (hn : n + k ≤ cap) (hcap : (cs ++ rest).length = cap * e) :
      AppRes fl free m H w (.slice H.length 0 (n + k) none) (H.set b { blk with live := false, kid := if free then some H.length else none } ++ [{ cells := blk.cells.drop off ++ xs, e }])
        (.slice (some ⟨w.heap.size, 0, none⟩) (n + k) cap) (w.drew.alloc (.cells (cs ++ rest).toArray t))
  | reviveIn {b c off n k e cap : Nat} {blk : Blk} {l : Loc} {xs : List AV} {ys : List Value} (hfree : free = true) (hfl : fl ≤ b) (hflc : fl ≤ c) (hact : H.act b = some blk) (hlive : blk.live = false) (hrev : H.rev blk = some c) (hm : m b = some l) (he : l.e = e)
      (hoff : off ≤ blk.cells.length) (hfull : off + n * e = blk.cells.length) (hr : VRels m xs ys) (hxs : xs.length = k * e) (hsc : xs.all AV.scalar = true) (hcap : off + cap * e = l.room) (hn : n + k ≤ cap) :
      AppRes fl free m H w (.slice H.length 0 (n + k) none) ((H.kill c).set b { blk with live := false, kid := some H.length } ++ [{ cells := blk.cells.drop off ++ xs, e }])
        (.slice (some ⟨l.cb, l.co + off, none⟩) (n + k) cap) (w.setCells l.cb (l.co + blk.cells.length) ys)
  | reviveNew {b c off n k e cap : Nat} {blk : Blk} {l : Loc} {xs : List AV} {cs rest : List Value} {t : TypeId} (hfree : free = true) (hfl : fl ≤ b) (hflc : fl ≤ c) (hact : H.act b = some blk) (hlive : blk.live = false) (hrev : H.rev blk = some c) (hm : m b = some l)
      (hr : VRels m (blk.cells.drop off ++ xs) cs) (hn : n + k ≤ cap) (hcap : (cs ++ rest).length = cap * e) :
      AppRes fl free m H w (.slice H.length 0 (n + k) none) ((H.kill c).set b { blk with live := false, kid := some H.length } ++ [{ cells := blk.cells.drop off ++ xs, e }])
        (.slice (some ⟨w.heap.size, 0, none⟩) (n + k) cap) (w.drew.alloc (.cells (cs ++ rest).toArray t))

section
variable {ρ : Operand → Value} {o : Oper} {n0 base fl : Nat} {m : BMap} {H H' : Heap} {w : World} {X : RX → AV} {res : Operand → Option RX} {r : ROp} {v : AV} {call : Nat → Nat → List AV → Heap → Option (AV × Heap)} {free : Bool} {ap : List RX}

/-- The model's append of one slice to another, in its two ways. -/
theorem run_append {c : Call} (ho : o.op = .call c) (hcal : c.callee = .builtin .append) {x y : Operand} (hargs : c.args.toList = [x, y]) {t u e e2 : TypeId} (ht : c.argTypes[0]? = some t) (hu : c.argTypes[1]? = some u)
    (ht2 : P.underlying t = some (.slice e)) (hu2 : P.underlying u = some (.slice e2)) {i : TypeInfo} (hi : P.info? e = some i) (hb : 0 < i.bytes) {z : Value} (hz : i.zero = some z) (hzl : z.cells.toList.length = i.size) (hn : 0 < i.size)
    {a : Option Addr} {sLen sCap k : Nat} (hx : ρ x = .slice a sLen sCap) (hk : (Builtin.lenOf (ρ y)).run P w = .ok k w) {ys : List Value}
    (hy : ∀ w' : World, w'.heap = w.heap → (Builtin.firstCells i.size k (ρ y)).run P w' = .ok ⟨ys⟩ w') :
    (sLen + k ≤ sCap → ∀ w', (∀ ad, a = some ad → (storeCells (ad.add (sLen * i.size)) ys).run P w = .ok () w') → (a = none → w' = w) → (execOp ρ o).run P w = .ok (.value (.slice a (sLen + k) sCap)) w') ∧
    (sCap < sLen + k → Builtin.nextslicecap (sLen + k) sCap * i.bytes ≤ 2 ^ 48 → ∀ old : List Value, (∀ w' : World, w'.heap = w.heap → (Builtin.firstCells i.size sLen (ρ x)).run P w' = .ok ⟨old⟩ w') →
      ∃ cap rest, sLen + k ≤ cap ∧ rest.length = (cap - (sLen + k)) * i.size ∧
        (execOp ρ o).run P w = .ok (.value (.slice (some ⟨w.heap.size, 0, none⟩) (sLen + k) cap)) (w.drew.alloc (.cells (old ++ ys ++ rest).toArray e))) := by
  obtain ⟨cs, hex⟩ := exec_builtin (ρ := ρ) ho hcal
  have hargs' : c.args.map ρ = #[ρ x, ρ y] := by rw [← Array.toList_inj]; simp [hargs]
  have hpre : ∀ F : Nat → Sem Value, True := fun _ => trivial
  constructor
  · intro hfit w' hst hno
    rw [hex, hargs']
    simp only [builtin, Builtin.append_, ht, hu, List.getElem?_toArray, List.getElem?_cons_zero, List.getElem?_cons_succ, Sem.run_bind, run_und ht2, run_und hu2, Result.andThen_ok, hx, run_size hi, Sem.run_pure, Bool.false_eq_true, if_false, Bool.not_false, if_true, hk, if_pos hfit, hy w rfl]
    cases a with
    | none => rw [hno rfl]; rfl
    | some ad =>
      simp only [Sem.run_bind, hst ad rfl, Result.andThen_ok, Sem.run_pure]
  · intro hnf hcapb old hold
    let cap := (Question.appendCap (sLen + k) sCap e).cut (w.tape w.drawn (Question.appendCap (sLen + k) sCap e))
    have hcap : sLen + k ≤ cap := by simp only [cap, Question.cut]; omega
    refine ⟨cap, (List.replicate (cap - (sLen + k)) z.cells.toList).flatten, hcap, by simp [hzl], ?_⟩
    have hzc : Builtin.zeroCells z.cells (cap - (sLen + k)) = ⟨(List.replicate (cap - (sLen + k)) z.cells.toList).flatten⟩ := zeroCells_eq z.cells.toList _ (by omega)
    have hchoose : (choose (.appendCap (sLen + k) sCap e)).run P w = .ok cap w.drew := by
      simp only [run_choose, Question.forced, Bool.false_eq_true, if_false]
      rfl
    have hb0 : (i.bytes = 0) = False := by simp; omega
    have hc0 : (Builtin.nextslicecap (sLen + k) sCap * i.bytes > 2 ^ 48) = False := by simp only [gt_iff_lt, eq_iff_iff, iff_false]; omega
    have hd0 : (sLen + k ≤ sCap) = False := by simp only [eq_iff_iff, iff_false]; omega
    rw [hex, hargs']
    have hold' := hold w.drew rfl
    rw [hx] at hold'
    simp only [builtin, Builtin.append_, ht, hu, List.getElem?_toArray, List.getElem?_cons_zero, List.getElem?_cons_succ, Sem.run_bind, run_und ht2, run_und hu2, Result.andThen_ok, hx, run_size hi, Sem.run_pure, Bool.false_eq_true, if_false, Bool.not_false, if_true, hk,
      hd0, run_info hi, hb0, or_false, and_false, hc0, hchoose, run_askRoom, hold', hy w.drew rfl, run_zero hi hz, hzc, newRow, run_newObj]
    simp only [List.append_toArray, List.append_assoc]
    rfl


theorem op_append {c : Call} (ho : o.op = .call c) (hcal : c.callee = .builtin .append) (hc : compileBuiltin P res .append c.argTypes c.args.toList = some r) (hr : rop call fl free X H r = some (v, H'))
    (hX : ∀ x rx, res x = some rx → VRel m (X rx) (ρ x)) (hs : Sim n0 base m H w) (hfl : n0 ≤ fl) :
    ∃ v' w', (execOp ρ o).run P w = .ok (.value v') w' ∧ AppRes fl free m H w v H' v' w' := by
  rcases hargs : c.args.toList with _ | ⟨x, _ | ⟨y, _ | ⟨z, rest⟩⟩⟩ <;> simp only [compileBuiltin, hargs, reduceCtorEq] at hc
  case cons.cons.nil =>
    split at hc
    · rename_i t u ht hu
      split at hc
      · rename_i e e2 hte hue
        split at hc
        · rename_i n b z rx ry hsz hby hz h1 h2
          split at hc
          · rename_i hcond
            obtain ⟨hn, hbp, hzl⟩ := hcond
            simp only [Option.some.injEq] at hc; subst hc
            obtain ⟨i, zv, hi, hzv, hcz⟩ := zeroOf_info hz
            obtain ⟨i2, hi2, hin⟩ := szOf_info hsz
            obtain ⟨i3, hi3, hib⟩ := bytesOf_info hby
            rw [hi] at hi2 hi3; cases hi2; cases hi3
            have hzvl : zv.cells.toList.length = i.size := by rw [← (ofConsts_rel m hcz).length, hin]; exact hzl
            have hx := hX _ _ h1
            have hy := hX _ _ h2
            simp only [rop] at hr
            split at hr
            · rename_i k hk
              simp only [Option.bind_eq_some_iff] at hr
              obtain ⟨xs, hxs, hr⟩ := hr
              obtain ⟨hk2, a2, c2, hyv⟩ := lenOf_rel (P := P) hy hk w
              obtain ⟨ys, hys, hxl, hyf⟩ := firstCells_rel (P := P) hs hy hxs
              have hyl := hys.length
              rw [← hin] at hyf
              have RUN := fun {a : Option Addr} {sLen sCap : Nat} (hxv : ρ x = .slice a sLen sCap) => run_append (P := P) ho hcal hargs ht hu hte hue hi (by omega) hzv hzvl (by omega) hxv hk2 hyf
              -- the slice that is appended to
              have hxs' : ∀ a sLen sCap, ρ x = .slice a sLen sCap → sLen ≤ sCap → k = 0 → (execOp ρ o).run P w = .ok (.value (ρ x)) w := fun a sLen sCap hxv hle h0 => by
                have hys0 : ys = [] := by
                  apply List.eq_nil_of_length_eq_zero
                  rw [← hyl, hxl, h0, Nat.zero_mul]
                have := (RUN hxv).1 (by omega) w (fun ad _ => by rw [hys0]; rfl) (fun _ => rfl)
                rw [this, hxv, h0]
                rfl
              unfold rappend at hr
              split at hr
              · rename_i h0
                split at hr
                · rename_i hxe
                  simp only [Option.some.injEq, Prod.mk.injEq] at hr
                  obtain ⟨rfl, rfl⟩ := hr
                  rw [hxe] at hx
                  obtain ⟨a, hxv⟩ := hx
                  exact ⟨_, w, hxs' a 0 0 hxv (Nat.le_refl _) h0, .same (by rw [hxe]; exact ⟨a, hxv⟩)⟩
                · rename_i bb off nn lim hxe
                  simp only [Option.some.injEq, Prod.mk.injEq] at hr
                  obtain ⟨rfl, rfl⟩ := hr
                  rw [hxe] at hx
                  obtain ⟨a, cap, hxv, hcap, hrest⟩ := hx
                  exact ⟨_, w, hxs' a nn cap hxv hcap h0, .same (by rw [hxe]; exact ⟨a, cap, hxv, hcap, hrest⟩)⟩
                · simp at hr
              · rename_i h0
                split at hr
                · -- nothing there: a new row
                  rename_i hxe
                  split at hr
                  · rename_i hb2
                    simp only [Option.some.injEq, Prod.mk.injEq] at hr
                    obtain ⟨rfl, rfl⟩ := hr
                    rw [hxe] at hx
                    obtain ⟨a, hxv⟩ := hx
                    obtain ⟨cap, rest, g1, g2, g3⟩ := (RUN hxv).2 (by omega) (by rw [Nat.zero_add, nextslicecap_zero (by omega), hib]; exact hb2.1) [] (fun w' _ => by
                      rw [hxv]; cases a with
                      | none => rfl
                      | some a => simp only [Builtin.firstCells, Nat.zero_mul]; exact loadCells_zero a w')
                    refine ⟨_, _, g3, ?_⟩
                    simp only [Nat.zero_add, List.nil_append] at g1 g2 ⊢
                    refine .push (nk := { cells := xs, e := n }) ⟨rfl, rfl⟩ hys g1 ?_
                    rw [List.length_append, ← hyl, hxl, g2, hin, ← Nat.add_mul]
                    congr 1; omega
                  · simp at hr
                · rename_i bb off nn lim hxe
                  rw [hxe] at hx
                  obtain ⟨a, cap, hxv, hcap, l, hm, hco, haa⟩ := hx
                  split at hr
                  · simp at hr
                  · rename_i blk hact
                    split at hr
                    · rename_i hcnd
                      obtain ⟨q1, q2, q3, q4⟩ := hcnd
                      obtain ⟨e1, e2', e3⟩ := hs.cells bb blk l hact hm
                      have hle : l.e = n := by rw [e1, q1]
                      have hgrow : cap < nn + k → Builtin.nextslicecap (nn + k) cap * i.bytes ≤ 2 ^ 48 := fun h => by
                        rw [hib]
                        exact Nat.le_trans (Nat.mul_le_mul_right _ (nextslicecap_le_wide h)) q3
                      have hold : ∃ old : List Value, VRels m ((blk.cells.drop off).take (nn * n)) old ∧ old.length = nn * n ∧ ∀ w' : World, w'.heap = w.heap → (Builtin.firstCells i.size nn (ρ x)).run P w' = .ok ⟨old⟩ w' := by
                        obtain ⟨old, o1, o2, o3⟩ := stretch hs hact hm q2
                        refine ⟨old, o1, o2, fun w' hw' => ?_⟩
                        rw [hxv, hin]
                        rcases haa with ha | hc0
                        · subst ha
                          simp only [Builtin.firstCells]
                          have := run_loads (P := P) w' l.cb (l.co + off) old (fun j v hv => by
                            have := o3 j v hv
                            simp only [World.cell?, hw'] at this ⊢
                            exact this)
                          rw [o2] at this
                          exact this
                        · have hnn : nn = 0 := by omega
                          subst hnn
                          have : old = [] := List.eq_nil_of_length_eq_zero (by rw [o2, Nat.zero_mul])
                          subst this
                          cases a with
                          | none => rfl
                          | some a => simp only [Builtin.firstCells, Nat.zero_mul]; exact loadCells_zero a w'
                      obtain ⟨old, o1, o2, o3⟩ := hold
                      have hnew : cap < nn + k → ∃ cap' rest, nn + k ≤ cap' ∧ (old ++ ys ++ rest).length = cap' * n ∧
                          (execOp ρ o).run P w = .ok (.value (.slice (some ⟨w.heap.size, 0, none⟩) (nn + k) cap')) (w.drew.alloc (.cells ((old ++ ys) ++ rest).toArray e)) := fun h => by
                        obtain ⟨cap', rest, g1, g2, g3⟩ := (RUN hxv).2 h (hgrow h) old o3
                        refine ⟨cap', rest, g1, ?_, g3⟩
                        rw [List.length_append, List.length_append, o2, ← hyl, hxl, g2, hin, ← Nat.add_mul, ← Nat.add_mul]
                        congr 1; omega
                      have hput : ∀ H1, rput fl H bb (off + nn * n) xs = some H1 → nn + k ≤ cap →
                          (execOp ρ o).run P w = .ok (.value (.slice a (nn + k) cap)) (w.setCells l.cb (l.co + (off + nn * n)) ys) := fun H1 hp hfit => by
                        obtain ⟨p1, p2, _⟩ := put_step hs hfl hp hm hys
                        refine (RUN hxv).1 hfit _ (fun ad had => ?_) (fun h => ?_)
                        · rcases haa with ha | hc0
                          · rw [ha] at had; cases had
                            rw [add_mk, hin, Nat.add_assoc]
                            have := run_storeCells_cells (P := P) l.cb (l.co + (off + nn * n)) ys 0 w (fun j hj => by simpa using (p1 j hj).1) (fun j hj => by simpa using (p1 j hj).2) p2
                            simpa using this
                          · omega
                        · rcases haa with ha | hc0
                          · rw [ha] at h; simp at h
                          · omega
                      have hin_eq : off + nn * n + k * n = off + (nn + k) * n := by rw [Nat.add_mul, Nat.add_assoc]
                      split at hr
                      · rename_i hlive
                        split at hr
                        · -- the capacity is known
                          rename_i cc
                          obtain ⟨hcc, hcr⟩ := hco
                          split at hr
                          · rename_i hfit
                            split at hr
                            · rename_i hfree
                              simp only [Option.map_eq_some_iff, Prod.mk.injEq] at hr
                              obtain ⟨H1, hp, rfl, rfl⟩ := hr
                              exact ⟨_, _, hput H1 hp (by omega), .put hfree hm hp hys ⟨_, _, rfl, by omega, l, hm, ⟨hcc, hcr⟩, haa⟩⟩
                            · simp at hr
                          · rename_i hfit
                            simp only [Option.some.injEq, Prod.mk.injEq] at hr
                            obtain ⟨rfl, rfl⟩ := hr
                            obtain ⟨cap', rest, g1, g2, g3⟩ := hnew (by omega)
                            exact ⟨_, _, g3, .push (nk := { cells := (blk.cells.drop off).take (nn * n) ++ xs, e := n }) ⟨rfl, rfl⟩ (VRels.append o1 hys) g1 g2⟩
                        · have hco' : off + cap * l.e = l.room := hco
                          split at hr
                          · rename_i hfull
                            unfold rappendTop at hr
                            split at hr
                            · rename_i hcd
                              simp only [Option.some.injEq, Prod.mk.injEq] at hr
                              obtain ⟨rfl, rfl⟩ := hr
                              by_cases hfit : nn + k ≤ cap
                              · obtain ⟨b1, b2⟩ := beyond_sim hs (b := bb) (k := blk) (l := l) (vs := ys) (o := l.co + blk.cells.length) (Nat.le_trans hfl hcd.1) hact hlive hm (Nat.le_refl _) (by
                                  rw [← hyl, hxl]
                                  have : (nn + k) * n ≤ cap * n := Nat.mul_le_mul_right _ hfit
                                  rw [hle] at hco'
                                  omega)
                                refine ⟨_, _, (RUN hxv).1 hfit (w.setCells l.cb (l.co + blk.cells.length) ys) (fun ad had => ?_) (fun h => ?_), ?_⟩
                                · rcases haa with ha | hc0
                                  · rw [ha] at had; cases had
                                    rw [add_mk, hin, Nat.add_assoc, hfull]
                                    have := run_storeCells_cells (P := P) l.cb (l.co + blk.cells.length) ys 0 w (fun j hj => by simpa using (b1 j hj).1) (fun j hj => by simpa using (b1 j hj).2) (hys.oneCells hcd.2)
                                    simpa using this
                                  · omega
                                · rcases haa with ha | hc0
                                  · rw [ha] at h; simp at h
                                  · omega
                                · rcases haa with ha | hc0
                                  · rw [ha]
                                    exact .topIn hcd.1 hact hlive hm hle (by omega) hfull hys hxl hcd.2 (by rw [← hle]; exact hco') hfit
                                  · omega
                              · obtain ⟨cap', rest, g1, g2, g3⟩ := hnew (by omega)
                                refine ⟨_, _, g3, .topNew hcd.1 hact hlive hm ?_ g1 g2⟩
                                have : (blk.cells.drop off).take (nn * n) = blk.cells.drop off := List.take_of_length_le (by simp; omega)
                                rw [this] at o1
                                exact VRels.append o1 hys
                            · simp at hr
                          · rename_i hfull
                            split at hr
                            · rename_i hfree
                              simp only [Option.map_eq_some_iff, Prod.mk.injEq] at hr
                              obtain ⟨H1, hp, rfl, rfl⟩ := hr
                              have hfit : nn + k ≤ cap := by
                                have hpl : off + nn * n + xs.length ≤ blk.cells.length := by
                                  have hp' := hp
                                  unfold rput at hp'
                                  rw [act_blk hact hlive] at hp'
                                  simp only at hp'
                                  split at hp'
                                  · rename_i h; exact h.2.1
                                  · simp at hp'
                                rw [hxl] at hpl
                                rw [hle] at hco'
                                have : (nn + k) * n ≤ cap * n := by omega
                                exact Nat.le_of_mul_le_mul_right this (by omega)
                              exact ⟨_, _, hput H1 hp hfit, .put hfree hm hp hys ⟨_, _, rfl, hfit, l, hm, hco, haa⟩⟩
                            · simp at hr
                      · rename_i hlive
                        split at hr
                        · rename_i cdead hrev
                          split at hr
                          · rename_i hcd
                            obtain ⟨hfree, hfull, hflc⟩ := hcd
                            have hco' : off + cap * l.e = l.room := hco
                            unfold rappendTop at hr
                            split at hr
                            · rename_i hcd2
                              have hlen : (H.kill cdead).length = H.length := by unfold Heap.kill; split <;> simp
                              simp only [Option.some.injEq, Prod.mk.injEq, hlen, hfree, if_true] at hr
                              obtain ⟨rfl, rfl⟩ := hr
                              have hlive' : blk.live = false := by simpa using hlive
                              obtain ⟨w1, w2, w3⟩ := hs.own bb blk l (Nat.le_trans hfl hcd2.1) hact hm
                              by_cases hfit : nn + k ≤ cap
                              · have hroom : blk.cells.length + ys.length ≤ l.room := by
                                  rw [← hyl, hxl]
                                  have : (nn + k) * n ≤ cap * n := Nat.mul_le_mul_right _ hfit
                                  rw [hle] at hco'
                                  omega
                                have b1 : ∀ j, j < ys.length → (w.cell? ⟨l.cb, l.co + blk.cells.length + j, none⟩).isSome = true ∧ w.frozen? ⟨l.cb, l.co + blk.cells.length + j, none⟩ = false := fun j hj => by
                                  have := w3 (blk.cells.length + j) (by omega)
                                  rwa [← Nat.add_assoc] at this
                                refine ⟨_, _, (RUN hxv).1 hfit (w.setCells l.cb (l.co + blk.cells.length) ys) (fun ad had => ?_) (fun h => ?_), ?_⟩
                                · rcases haa with ha | hc0
                                  · rw [ha] at had; cases had
                                    rw [add_mk, hin, Nat.add_assoc, hfull]
                                    have := run_storeCells_cells (P := P) l.cb (l.co + blk.cells.length) ys 0 w (fun j hj => by simpa using (b1 j hj).1) (fun j hj => by simpa using (b1 j hj).2) (hys.oneCells hcd2.2)
                                    simpa using this
                                  · omega
                                · rcases haa with ha | hc0
                                  · rw [ha] at h; simp at h
                                  · omega
                                · rcases haa with ha | hc0
                                  · rw [ha]
                                    exact .reviveIn hfree hcd2.1 hflc hact hlive' hrev hm hle (by omega) hfull hys hxl hcd2.2 (by rw [← hle]; exact hco') hfit
                                  · omega
                              · obtain ⟨cap', rest, g1, g2, g3⟩ := hnew (by omega)
                                refine ⟨_, _, g3, .reviveNew hfree hcd2.1 hflc hact hlive' hrev hm ?_ g1 g2⟩
                                have : (blk.cells.drop off).take (nn * n) = blk.cells.drop off := List.take_of_length_le (by simp; omega)
                                rw [this] at o1
                                exact VRels.append o1 hys
                            · simp at hr
                          · simp at hr
                        · simp at hr
                    · simp at hr
                · simp at hr
            · simp at hr
          · simp at hc
        · simp at hc
      · simp at hc
    · simp at hc

end
end Go.RM
