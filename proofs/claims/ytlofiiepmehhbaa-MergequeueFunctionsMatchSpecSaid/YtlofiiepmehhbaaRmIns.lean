import Derived.Test.YtlofiiepmehhbaaRmRegion7
import Derived.Shelf.Spec.SlicesInsertGrow
/-
  slices.Insert, of elements of any number of cells: its run in the model.
-/
namespace Go.RM
open Go.Proofs Go.Shelf Go.RowKit Go.Lib
set_option linter.unusedVariables false
set_option linter.unusedSimpArgs false

structure InsLaid (P : Program) (g : Nat) (ρ : Ren) (nm : String) (e bytes : Nat) : Prop where
  mixed : P.follows .mixedOrders = true
  fn : P.funcs[g]? = some { Body2.n22 ρ with name := nm }
  nm : nm ≠ "runtime.NumGoroutine"
  ov : ∃ fn, P.funcs[ρ.f 29]? = some fn ∧ (fn.name == "runtime.NumGoroutine") = false ∧ fn.body.isNone = true ∧ Extern.findNext fn = none ∧ Extern.find fn = some (Extern.SlicesOverlaps.overlaps #[(ρ.t 24), (ρ.t 24)] #[(ρ.t 4)])
  t3 : P.underlying (ρ.t 3) = some (TypeDesc.int IntKind.i64)
  a3 : ∀ w, (isAgg (ρ.t 3)).run P w = .ok false w
  z3 : ∀ w, (Go.sizeOf (ρ.t 3)).run P w = .ok 1 w
  v3 : ∀ w, (zeroValue (ρ.t 3)).run P w = .ok (Value.int IntKind.i64 0) w
  t4 : P.underlying (ρ.t 4) = some (TypeDesc.bool)
  a4 : ∀ w, (isAgg (ρ.t 4)).run P w = .ok false w
  z4 : ∀ w, (Go.sizeOf (ρ.t 4)).run P w = .ok 1 w
  v4 : ∀ w, (zeroValue (ρ.t 4)).run P w = .ok (Value.bool false) w
  t24 : P.underlying (ρ.t 24) = some (TypeDesc.slice (ρ.t 9))
  a24 : ∀ w, (isAgg (ρ.t 24)).run P w = .ok false w
  z24 : ∀ w, (Go.sizeOf (ρ.t 24)).run P w = .ok 1 w
  v24 : ∀ w, (zeroValue (ρ.t 24)).run P w = .ok (Value.slice none 0 0) w
  z9 : ∀ w, (Go.sizeOf (ρ.t 9)).run P w = .ok e w
  i9 : ∃ i z, P.info? (ρ.t 9) = some i ∧ i.size = e ∧ i.bytes = bytes ∧ i.zero = some z ∧ z.cells.toList.length = e
  epos : 0 < e
  bpos : 0 < bytes

variable {P : Program} {g : Nat} {ρ : Ren} {nm : String} {e bytes : Nat}

theorem run_app {tS tE : TypeId} (t24 : P.underlying tS = some (TypeDesc.slice tE)) (i9 : ∃ i z, P.info? tE = some i ∧ i.size = e ∧ i.bytes = bytes ∧ i.zero = some z ∧ z.cells.toList.length = e) (he : 0 < e) (hb : 0 < bytes) (ty : TypeId) {a : Option Addr} {n c m : Nat} {v : Value} {w : World} {vs : List Value} (hl : (Builtin.lenOf v).run P w = .ok m w)
    (hv : ∀ w' : World, w'.heap = w.heap → (Builtin.firstCells e m v).run P w' = .ok ⟨vs⟩ w') :
    (n + m ≤ c → ∀ w', (∀ ad, a = some ad → (storeCells (ad.add (n * e)) vs).run P w = .ok () w') → (a = none → w' = w) → (Builtin.append_ #[tS, tS] ty #[.slice a n c, v]).run P w = .ok (.slice a (n + m) c) w') ∧
    (c < n + m → Builtin.nextslicecap (n + m) c * bytes ≤ 2 ^ 48 → ∀ old : List Value, (∀ w' : World, w'.heap = w.heap → (Builtin.firstCells e n (.slice a n c)).run P w' = .ok ⟨old⟩ w') →
      ∃ cap rest, n + m ≤ cap ∧ rest.length = (cap - (n + m)) * e ∧
        (Builtin.append_ #[tS, tS] ty #[.slice a n c, v]).run P w = .ok (.slice (some ⟨w.heap.size, 0, none⟩) (n + m) cap) (w.drew.alloc (.cells (old ++ vs ++ rest).toArray (tE)))) := by
  obtain ⟨i, z, hi, hsz, hby, hz, hzl⟩ := i9
  have hu := run_und (P := P) t24
  constructor
  · intro hfit w' hst hno
    simp only [Builtin.append_, List.getElem?_toArray, List.getElem?_cons_zero, List.getElem?_cons_succ, Sem.run_bind, hu, Result.andThen_ok, run_size hi, hsz, Sem.run_pure, Bool.false_eq_true, if_false, Bool.not_false, if_true, hl, if_pos hfit, hv w rfl]
    cases a with
    | none => rw [hno rfl]; rfl
    | some ad =>
      simp only [Sem.run_bind, hst ad rfl, Result.andThen_ok, Sem.run_pure]
  · intro hnf hcapb old hold
    let cap := (Question.appendCap (n + m) c (tE)).cut (w.tape w.drawn (Question.appendCap (n + m) c (tE)))
    have hcap : n + m ≤ cap := by simp only [cap, Question.cut]; omega
    refine ⟨cap, (List.replicate (cap - (n + m)) z.cells.toList).flatten, hcap, by simp [hzl], ?_⟩
    have hzc : Builtin.zeroCells z.cells (cap - (n + m)) = ⟨(List.replicate (cap - (n + m)) z.cells.toList).flatten⟩ := zeroCells_eq z.cells.toList _ (by omega)
    have hchoose : (choose (.appendCap (n + m) c (tE))).run P w = .ok cap w.drew := by
      simp only [run_choose, Question.forced, Bool.false_eq_true, if_false]
      rfl
    have hb0 : (i.bytes = 0) = False := by simp; omega
    have hc0 : (Builtin.nextslicecap (n + m) c * i.bytes > 2 ^ 48) = False := by simp only [gt_iff_lt, eq_iff_iff, iff_false]; rw [hby]; omega
    have hd0 : (n + m ≤ c) = False := by simp only [eq_iff_iff, iff_false]; omega
    have hold' := hold w.drew rfl
    simp only [Builtin.append_, List.getElem?_toArray, List.getElem?_cons_zero, List.getElem?_cons_succ, Sem.run_bind, hu, Result.andThen_ok, run_size hi, hsz, Sem.run_pure, Bool.false_eq_true, if_false, Bool.not_false, if_true, hl,
      hd0, run_info hi, hb0, or_false, and_false, hc0, hchoose, run_askRoom, hold', hv w.drew rfl, run_zero hi hz, hzc, newRow, run_newObj]
    simp only [List.append_toArray, List.append_assoc]
    rfl

set_option maxHeartbeats 4000000 in
set_option maxRecDepth 100000 in
theorem ins_end (L : InsLaid P g ρ nm e bytes) {a va : Option Addr} {n c m vc : Nat} {w w' : World} {r : Value} (hm : 0 < m) (hn : n < 2 ^ 62) (hnc : n ≤ c)
    (hr : ∀ ty, (Builtin.append_ #[ρ.t 24, ρ.t 24] ty #[.slice a n c, .slice va m vc]).run P w = .ok r w') :
    Calls P g #[.slice a n c, .int .i64 n, .slice va m vc] w fun x W => x = .returned r ∧ W = w' := by
  have t3 := L.t3; have a3 := L.a3; have z3 := L.z3; have v3 := L.v3; have t4 := L.t4; have a4 := L.a4; have z4 := L.z4; have v4 := L.v4; have z9 := L.z9; have t24 := L.t24; have a24 := L.a24; have z24 := L.z24; have v24 := L.v24
  have u3 := run_underlying L.t3; have u4 := run_underlying L.t4; have u24 := run_underlying L.t24
  have mixed := L.mixed
  have hz1 : ¬ ((m : Int) = 0) := by omega
  go_enter L.fn, Body2.n22_ntmps ρ
  go_wp2_with (at_builtin; refine Lib.wpList_append_run _ rfl _ _ _ _ rfl _ _ rfl rfl _ _ (hr _) ?_)
  all_goals (go_ret; exact ⟨rfl, rfl⟩)

theorem run_cpy (L : InsLaid P g ρ nm e bytes) (ty : TypeId) {b o n c : Nat} {v : Value} {m : Nat} {w : World} {vs : List Value} (hl : (Builtin.lenOf v).run P w = .ok m w) (hmin : Nat.min m n * e = vs.length)
    (hv : (Builtin.firstCells e (Nat.min m n) v).run P w = .ok ⟨vs⟩ w)
    (hc : ∀ j, j < vs.length → (w.cell? ⟨b, o + j, none⟩).isSome = true ∧ w.frozen? ⟨b, o + j, none⟩ = false) (h1 : ∀ v ∈ vs, v.oneCell' = true) :
    (Builtin.copy_ #[ρ.t 24, ρ.t 24] ty #[.slice (some ⟨b, o, none⟩) n c, v]).run P w = .ok (.int .i64 (Nat.min m n : Nat)) (w.setCells b o vs) := by
  have hu := run_und (P := P) L.t24
  have hst : (storeCells ⟨b, o, none⟩ vs).run P w = .ok () (w.setCells b o vs) := by
    have := run_storeCells_cells (P := P) b o vs 0 w (fun j hj => by simpa using (hc j hj).1) (fun j hj => by simpa using (hc j hj).2) h1
    simpa using this
  simp only [Builtin.copy_, Sem.run_bind, List.getElem?_toArray, List.getElem?_cons_zero, List.getElem?_cons_succ, hu, Result.andThen_ok]
  rw [hl]
  simp only [Result.andThen_ok, L.z9, hv, Sem.run_bind, hst, Sem.run_pure]
  rfl

theorem run_first {n c b o : Nat} {vs : List Value} {w : World} (hl : vs.length = n * e) (h : ∀ j v, vs[j]? = some v → w.cell? ⟨b, o + j, none⟩ = some v) :
    ∀ {len : Nat}, (Builtin.firstCells e n (.slice (some ⟨b, o, none⟩) len c)).run P w = .ok ⟨vs⟩ w := fun {len} => by
  simp only [Builtin.firstCells]
  have := run_loads (P := P) w b o vs h
  rw [hl] at this
  exact this

set_option maxHeartbeats 4000000 in
set_option maxRecDepth 100000 in
theorem ins_shift (L : InsLaid P g ρ nm e bytes) {b o n c i vb vo m vc : Nat} {w : World} (hi : i < n) (hm : 0 < m) (hroom : n + m ≤ c) (h62 : n + m < 2 ^ 62) (hvb : vb ≠ b)
    {vs ts : List Value} (hvl : vs.length = m * e) (htl : ts.length = (n - i) * e)
    (hts : ∀ j v, ts[j]? = some v → w.cell? ⟨b, o + i * e + j, none⟩ = some v) (hsp : ∀ j, j < (n + m) * e → (w.cell? ⟨b, o + j, none⟩).isSome = true ∧ w.frozen? ⟨b, o + j, none⟩ = false)
    (hvs : ∀ j v, vs[j]? = some v → w.cell? ⟨vb, vo + j, none⟩ = some v) (h1t : ∀ v ∈ ts, v.oneCell' = true) (h1v : ∀ v ∈ vs, v.oneCell' = true)
    (tA tB : TypeId) (kA kB : Nat) (hsa : w.shape? vb = some (tA, kA)) (hsb : w.shape? b = some (tB, kB)) (hkB : kB ≠ 0) (hfa : w.frozen? ⟨vb, vo, none⟩ = false) (hfe : w.frozen? ⟨vb, kA, none⟩ = false) :
    Calls P g #[.slice (some ⟨b, o, none⟩) n c, .int .i64 i, .slice (some ⟨vb, vo, none⟩) m vc] w fun x W =>
      x = .returned (.slice (some ⟨b, o, none⟩) (n + m) c) ∧ W = (w.drew.setCells b (o + (i + m) * e) ts).setCells b (o + i * e) vs := by
  have t3 := L.t3; have a3 := L.a3; have z3 := L.z3; have v3 := L.v3; have t4 := L.t4; have a4 := L.a4; have z4 := L.z4; have v4 := L.v4; have z9 := L.z9; have t24 := L.t24; have a24 := L.a24; have z24 := L.z24; have v24 := L.v24
  have u3 := run_underlying L.t3; have u4 := run_underlying L.t4; have u24 := run_underlying L.t24
  have mixed := L.mixed
  have he := L.epos
  have hz1 : ¬ ((m : Int) = 0) := by omega
  have hz2 : ¬ ((i : Int) = (n : Int)) := by omega
  have hov : ∀ lb cb, (callFunc (ρ.f 29) #[.slice (some ⟨vb, vo, none⟩) m vc, .slice (some ⟨b, o + (i + m) * e, none⟩) lb cb]).run P w = .ok (.value (.bool false)) w := fun lb cb => by
    obtain ⟨fn, f1, f2, f3, f4, f5⟩ := L.ov
    rw [run_callFunc_extern f1 f2 f3 f4 f5, Lib.run_overlaps_apart w (ρ.t 24) (ρ.t 4) (ρ.t 9) L.t24 e L.z9 ⟨vb, vo, none⟩ ⟨b, o + (i + m) * e, none⟩ m vc lb cb hvb tA tB kA kB hsa hsb hkB hfa hfe]
    rfl
  have hw1 : IntKind.i64.wrap ((i : Int) + (m : Int)) = (i : Int) + (m : Int) := by rw [IntKind.wrap_i64]; omega
  have hb1 : (0 : Int) ≤ (i : Int) + (m : Int) := by omega
  have hin : i ≤ n := by omega
  have htn : ((i : Int) + (m : Int)).toNat = i + m := by omega
  have hb2 : ¬ (c = i + m) := by omega
  have hb3 : (i : Int) ≤ (n : Int) + (m : Int) := by omega
  have hb4 : ¬ (c = i) := by omega
  have q1 : (i + m) * e + (n - i) * e = (n + m) * e := by rw [← Nat.add_mul]; congr 1; omega
  have q2 : i * e + m * e ≤ (n + m) * e := by rw [← Nat.add_mul]; exact Nat.mul_le_mul_right _ (by omega)
  have hcp1 : ∀ ty dc sc, (Builtin.copy_ #[(ρ.t 24), (ρ.t 24)] ty #[.slice (some ⟨b, o + (i + m) * e, none⟩) (n + m - (i + m)) dc, .slice (some ⟨b, o + i * e, none⟩) (n + m - i) sc]).run P w.drew = .ok (.int .i64 (n - i : Nat)) (w.drew.setCells b (o + (i + m) * e) ts) := fun ty dc sc => by
    have hmin : Nat.min (n + m - i) (n + m - (i + m)) = n - i := by simp only [Nat.min_def]; split <;> omega
    have := run_cpy L ty (b := b) (o := o + (i + m) * e) (n := n + m - (i + m)) (c := dc) (v := .slice (some ⟨b, o + i * e, none⟩) (n + m - i) sc) (m := n + m - i) (w := w.drew) (vs := ts) rfl (by rw [hmin, htl])
      (by rw [hmin]; exact run_first (w := w.drew) htl fun j v hv => hts j v hv) (fun j hj => by rw [Nat.add_assoc]; exact hsp _ (by omega)) h1t
    rw [hmin] at this
    exact this
  obtain ⟨W1, hW1⟩ : ∃ W1, W1 = w.drew.setCells b (o + (i + m) * e) ts := ⟨_, rfl⟩
  have hsp1 : ∀ k, k < (n + m) * e → (W1.cell? ⟨b, o + k, none⟩).isSome = true ∧ W1.frozen? ⟨b, o + k, none⟩ = false := fun k hk => by
    rw [hW1]
    exact ⟨isSome_setCells b _ _ _ (fun j hj => by rw [Nat.add_assoc]; exact (hsp _ (by omega)).1) _ (hsp k hk).1, by rw [World.frozen?_setCells]; exact (hsp k hk).2⟩
  have hcp2 : ∀ (W : World), (∀ x, W.cell? x = W1.cell? x) → (∀ x, W.frozen? x = W1.frozen? x) → ∀ ty dc, (Builtin.copy_ #[(ρ.t 24), (ρ.t 24)] ty #[.slice (some ⟨b, o + i * e, none⟩) (n + m - i) dc, .slice (some ⟨vb, vo, none⟩) m vc]).run P W = .ok (.int .i64 m) (W.setCells b (o + i * e) vs) := fun W hWc hWf ty dc => by
    have hmin : Nat.min m (n + m - i) = m := by simp only [Nat.min_def]; split <;> omega
    have := run_cpy L ty (b := b) (o := o + i * e) (n := n + m - i) (c := dc) (v := .slice (some ⟨vb, vo, none⟩) m vc) (m := m) (w := W) (vs := vs) rfl (by rw [hmin, hvl])
      (by rw [hmin]; exact run_first hvl fun j v hv => by rw [hWc, hW1, World.cell?_setCells_out b _ _ _ _ (fun h _ => absurd h hvb)]; exact hvs j v hv)
      (fun j hj => by rw [hWc, hWf, Nat.add_assoc]; exact hsp1 _ (by omega)) h1v
    rw [hmin] at this
    exact this
  rw [← hW1] at hcp1
  go_enter L.fn, Body2.n22_ntmps ρ
  go_wp2_with (simp only [hov])
  go_region_law_o (refine step_copy_runI rfl _ _ (ρ.t 24) (ρ.t 24) rfl _ _ (by simp [Act.eval, Act.put]) (by simp [Act.eval, Act.put]) (hcp1 _ _ _) ?_)
  go_wp2_with (at_builtin; refine wpList_copy_runI _ rfl _ _ (ρ.t 24) (ρ.t 24) rfl _ _ rfl rfl (hcp2 _ (fun _ => rfl) (fun _ => rfl) _ _) ?_)
  go_ret
  first | exact ⟨rfl, rfl⟩ | exact ⟨rfl, by rw [hW1]⟩

set_option maxHeartbeats 4000000 in
set_option maxRecDepth 100000 in
theorem ins_grow (L : InsLaid P g ρ nm e bytes) {b o n c i vb vo m vc : Nat} {w : World} (hi : i < n) (hm : 0 < m) (hnc : n ≤ c) (hroom : c < n + m) (hbig : Builtin.nextslicecap (n + m) c * bytes ≤ 281474976710656) (hbig2 : (n + m) * bytes ≤ 281474976710656) (h62 : n + m < 2 ^ 62)
    (hbw : b < w.heap.size) (hvw : vb < w.heap.size)
    {ps vs ts : List Value} (hpl : ps.length = i * e) (hvl : vs.length = m * e) (htl : ts.length = (n - i) * e)
    (hps : ∀ j v, ps[j]? = some v → w.cell? ⟨b, o + j, none⟩ = some v) (hts : ∀ j v, ts[j]? = some v → w.cell? ⟨b, o + i * e + j, none⟩ = some v)
    (hvs : ∀ j v, vs[j]? = some v → w.cell? ⟨vb, vo + j, none⟩ = some v) (h1t : ∀ v ∈ ts, v.oneCell' = true) (h1v : ∀ v ∈ vs, v.oneCell' = true) :
    Calls P g #[.slice (some ⟨b, o, none⟩) n c, .int .i64 i, .slice (some ⟨vb, vo, none⟩) m vc] w fun x W =>
      ∃ G zs rest, n + m ≤ G ∧ zs.length = (n + m - i) * e ∧ rest.length = (G - (n + m)) * e ∧ x = .returned (.slice (some ⟨w.heap.size, 0, none⟩) (n + m) G) ∧
      W = (((w.alloc (.cells (ps ++ zs ++ rest).toArray (ρ.t 9))).drew.setCells w.heap.size (i * e) vs).drew).setCells w.heap.size ((i + m) * e) ts := by
  have t3 := L.t3; have a3 := L.a3; have z3 := L.z3; have v3 := L.v3; have t4 := L.t4; have a4 := L.a4; have z4 := L.z4; have v4 := L.v4; have z9 := L.z9; have t24 := L.t24; have a24 := L.a24; have z24 := L.z24; have v24 := L.v24
  have u3 := run_underlying L.t3; have u4 := run_underlying L.t4; have u24 := run_underlying L.t24
  have mixed := L.mixed
  have he := L.epos
  obtain ⟨i0, z, hi0, hsz0, hby0, hz0, hzl0⟩ := L.i9
  have hz1 : ¬ ((m : Int) = 0) := by omega
  have hz2 : ¬ ((i : Int) = (n : Int)) := by omega
  have hz3 : (c : Int) < (n : Int) + (m : Int) := by omega
  have hkk : (n : Int) + (m : Int) - (i : Int) = ((n + m - i : Nat) : Int) := by omega
  have hik : i + (n + m - i) = n + m := by omega
  have hold : (Builtin.firstCells i0.size i (.slice (some ⟨b, o, none⟩) i c)).run P w.drew = .ok ps.toArray w.drew := by
    rw [hsz0]
    exact run_first (w := w.drew) hpl hps
  have hrz : ∀ ty, (Builtin.append_ #[(ρ.t 24), (ρ.t 3)] ty #[.slice (some ⟨b, o, none⟩) i c, .int .i64 ((n : Int) + (m : Int) - (i : Int))]).run P w =
      .ok (.slice (some ⟨w.heap.size, 0, none⟩) (n + m) (grownCap w (n + m) c (ρ.t 9))) (w.drew.alloc (.cells (ps.toArray ++ Builtin.zeroCells z.cells (n + m - i) ++ Builtin.zeroCells z.cells (grownCap w (n + m) c (ρ.t 9) - (n + m))) (ρ.t 9))) := fun ty => by
    have h := Lib.run_append_grow_zeros w (ρ.t 24) (ρ.t 3) ty (ρ.t 9) i0 z .i64 .i64 L.t24 L.t3 hi0 hz0 (some ⟨b, o, none⟩) i c ps hold (n + m - i) (by omega) (by omega) (by omega) (by omega) (by rw [hby0]; exact Nat.le_trans (Nat.mul_le_mul_right _ (by omega)) hbig2) (by rw [hby0, hik]; exact hbig)
    rw [hik] at h
    rw [hkk]
    exact h
  obtain ⟨G, hG⟩ : ∃ G, G = grownCap w (n + m) c (ρ.t 9) := ⟨_, rfl⟩
  have hGn : n + m ≤ G := by rw [hG]; exact grownCap_ge w _ _ _
  rw [← hG, zeroCells_eq z.cells.toList _ (by omega), zeroCells_eq z.cells.toList _ (by omega)] at hrz
  obtain ⟨zs, hzs⟩ : ∃ zs, zs = (List.replicate (n + m - i) z.cells.toList).flatten := ⟨_, rfl⟩
  obtain ⟨rest, hrest⟩ : ∃ rest, rest = (List.replicate (G - (n + m)) z.cells.toList).flatten := ⟨_, rfl⟩
  rw [← hzs, ← hrest] at hrz
  have hzl : zs.length = (n + m - i) * e := by rw [hzs]; simp [hzl0]
  have hrl : rest.length = (G - (n + m)) * e := by rw [hrest]; simp [hzl0]
  simp only [List.append_toArray] at hrz
  obtain ⟨row, hrow⟩ : ∃ row, row = ps ++ zs ++ rest := ⟨_, rfl⟩
  rw [← hrow] at hrz
  have hrowl : row.length = G * e := by
    rw [hrow, List.length_append, List.length_append, hpl, hzl, hrl, ← Nat.add_mul, ← Nat.add_mul]; congr 1; omega
  have q0 : (n + m) * e ≤ G * e := Nat.mul_le_mul_right _ hGn
  have q1 : (i + m) * e + (n - i) * e = (n + m) * e := by rw [← Nat.add_mul]; congr 1; omega
  have q2 : i * e + m * e ≤ (n + m) * e := by rw [← Nat.add_mul]; exact Nat.mul_le_mul_right _ (by omega)
  obtain ⟨W1, hW1⟩ : ∃ W1, W1 = w.drew.alloc (.cells row.toArray (ρ.t 9)) := ⟨_, rfl⟩
  have hN : ∀ j, j < G * e → (W1.cell? ⟨w.heap.size, j, none⟩).isSome = true ∧ W1.frozen? ⟨w.heap.size, j, none⟩ = false := fun j hj => by
    refine ⟨?_, by rw [hW1]; exact World.frozen?_alloc_at (w := w.drew) row.toArray _ w.heap.size j rfl⟩
    rw [hW1, World.cell?_alloc_at (w := w.drew) row.toArray _ w.heap.size j rfl, List.getElem?_toArray, List.getElem?_eq_getElem (by omega)]; rfl
  have hOb : ∀ j v, w.cell? ⟨b, j, none⟩ = some v → W1.cell? ⟨b, j, none⟩ = some v := fun j v h => by rw [hW1, World.cell?_alloc_past (w := w.drew) _ b j hbw]; exact h
  have hOv : ∀ j v, w.cell? ⟨vb, j, none⟩ = some v → W1.cell? ⟨vb, j, none⟩ = some v := fun j v h => by rw [hW1, World.cell?_alloc_past (w := w.drew) _ vb j hvw]; exact h
  have hcpA : ∀ (W : World), (∀ x, W.cell? x = W1.cell? x) → (∀ x, W.frozen? x = W1.frozen? x) → ∀ ty dc, (Builtin.copy_ #[(ρ.t 24), (ρ.t 24)] ty #[.slice (some ⟨w.heap.size, i * e, none⟩) (n + m - i) dc, .slice (some ⟨vb, vo, none⟩) m vc]).run P W = .ok (.int .i64 m) (W.setCells w.heap.size (i * e) vs) := fun W hWc hWf ty dc => by
    have hmin : Nat.min m (n + m - i) = m := by simp only [Nat.min_def]; split <;> omega
    have := run_cpy L ty (b := w.heap.size) (o := i * e) (n := n + m - i) (c := dc) (v := .slice (some ⟨vb, vo, none⟩) m vc) (m := m) (w := W) (vs := vs) rfl (by rw [hmin, hvl])
      (by rw [hmin]; exact run_first (w := W) hvl fun j v hv => by rw [hWc]; exact hOv _ v (hvs j v hv))
      (fun j hj => by rw [hWc, hWf]; exact hN _ (by omega)) h1v
    rw [hmin] at this
    exact this
  have hGi : ¬ (G = i) := by omega
  have hGim : ¬ (G = i + m) := by omega
  have hci : ¬ (c = i) := by omega
  have hbN : b ≠ w.heap.size := by omega
  have hcpB : ∀ (W : World), (∀ x, W.cell? x = (W1.setCells w.heap.size (i * e) vs).cell? x) → (∀ x, W.frozen? x = (W1.setCells w.heap.size (i * e) vs).frozen? x) → ∀ ty dc sc, (Builtin.copy_ #[(ρ.t 24), (ρ.t 24)] ty #[.slice (some ⟨w.heap.size, (i + m) * e, none⟩) (n + m - (i + m)) dc, .slice (some ⟨b, o + i * e, none⟩) (n - i) sc]).run P W = .ok (.int .i64 (n - i : Nat)) (W.setCells w.heap.size ((i + m) * e) ts) := fun W hWc hWf ty dc sc => by
    have hmin : Nat.min (n - i) (n + m - (i + m)) = n - i := by simp only [Nat.min_def]; split <;> omega
    have hrd : ∀ j v, ts[j]? = some v → W.cell? ⟨b, o + i * e + j, none⟩ = some v := fun j v hv => by
      rw [hWc, World.cell?_setCells_out _ _ _ _ _ (fun h _ => absurd h hbN)]
      exact hOb _ v (hts j v hv)
    have := run_cpy L ty (b := w.heap.size) (o := (i + m) * e) (n := n + m - (i + m)) (c := dc) (v := .slice (some ⟨b, o + i * e, none⟩) (n - i) sc) (m := n - i) (w := W) (vs := ts) rfl (by rw [hmin, htl])
      (by rw [hmin]; exact run_first (w := W) htl hrd)
      (fun j hj => by
        rw [hWc, hWf, World.frozen?_setCells]
        exact ⟨isSome_setCells _ _ _ _ (fun j2 hj2 => (hN _ (by omega)).1) _ (hN _ (by omega)).1, (hN _ (by omega)).2⟩) h1t
    rw [hmin] at this
    exact this
  subst hW1
  have hE1 : ∀ x, ((w.alloc (.cells row.toArray (ρ.t 9))).drew).cell? x = (w.drew.alloc (.cells row.toArray (ρ.t 9))).cell? x := fun x => rfl
  have hE2 : ∀ x, ((w.alloc (.cells row.toArray (ρ.t 9))).drew).frozen? x = (w.drew.alloc (.cells row.toArray (ρ.t 9))).frozen? x := fun x => rfl
  have hF1 : ∀ x, (((w.alloc (.cells row.toArray (ρ.t 9))).drew.setCells w.heap.size (i * e) vs).drew).cell? x = ((w.drew.alloc (.cells row.toArray (ρ.t 9))).setCells w.heap.size (i * e) vs).cell? x := fun x => rfl
  have hF2 : ∀ x, (((w.alloc (.cells row.toArray (ρ.t 9))).drew.setCells w.heap.size (i * e) vs).drew).frozen? x = ((w.drew.alloc (.cells row.toArray (ρ.t 9))).setCells w.heap.size (i * e) vs).frozen? x := fun x => rfl
  have hw1 : IntKind.i64.wrap ((i : Int) + (m : Int)) = (i : Int) + (m : Int) := by rw [IntKind.wrap_i64]; omega
  have hb1 : (0 : Int) ≤ (i : Int) + (m : Int) := by omega
  have hin : i ≤ n := by omega
  have htn : ((i : Int) + (m : Int)).toNat = i + m := by omega
  have hb3 : (i : Int) ≤ (n : Int) := by omega
  have main : Calls P g #[.slice (some ⟨b, o, none⟩) n c, .int .i64 i, .slice (some ⟨vb, vo, none⟩) m vc] w fun x W => x = .returned (.slice (some ⟨w.heap.size, 0, none⟩) (n + m) G) ∧
      W = (((w.alloc (.cells row.toArray (ρ.t 9))).drew.setCells w.heap.size (i * e) vs).drew).setCells w.heap.size ((i + m) * e) ts := by
    clear hkk hik hold hG q0 q1 q2 hrowl hzs hrest hi0 hsz0 hby0 hz0 hzl0 hrow
    go_enter L.fn, Body2.n22_ntmps ρ
    go_wp2_with (first
      | (at_builtin; refine Lib.wpList_append_run _ rfl _ _ _ _ rfl _ _ rfl rfl _ _ (hrz _) ?_)
      | (at_builtin; refine wpList_copy_runI _ rfl _ _ (ρ.t 24) (ρ.t 24) rfl _ _ rfl rfl (hcpA _ hE1 hE2 _ _) ?_)
      | (at_builtin; refine wpList_copy_runI _ rfl _ _ (ρ.t 24) (ρ.t 24) rfl _ _ rfl rfl (hcpB _ (fun _ => rfl) (fun _ => rfl) _ _ _) ?_))
    go_region_law_o (refine step_copy_runI rfl _ _ (ρ.t 24) (ρ.t 24) rfl (.slice (some ⟨w.heap.size, (i + m) * e, none⟩) (n + m - (i + m)) (G - (i + m))) (.slice (some ⟨b, o + i * e, none⟩) (n - i) (c - i)) (by simp [Act.eval, Act.put]) (by simp [Act.eval, Act.put]) (hcpB _ hF1 hF2 (ρ.t 3) (G - (i + m)) (c - i)) ?_)
    go_wp2
    go_ret
    exact ⟨rfl, rfl⟩
  exact Calls.mono main fun x W ⟨h1, h2⟩ => ⟨G, zs, rest, hGn, hzl, hrl, h1, by rw [h2, hrow]⟩


end Go.RM

/-
  slices.Insert: what the abstract machine says of it holds.
-/
namespace Go.RM
open Go.Proofs Go.Shelf Go.RowKit Go.Lib
set_option linter.unusedVariables false
set_option linter.unusedSimpArgs false

theorem hollow_sim {n0 base : Nat} {m : BMap} {H : Heap} {w : World} (hs : Sim n0 base m H w) {b : Nat} {k : Blk} (hb : n0 ≤ b) (hk : H.blk b = some k) :
    Sim n0 base m (H.set b { k with cells := [], clean := false }) w ∧
    (∀ x kx, Heap.act (H.set b { k with cells := [], clean := false }) x = some kx → x = b ∨ H.act x = some kx) := by
  obtain ⟨hact, hlive, hget⟩ := blk_act hk
  have hblen : b < H.length := act_lt hact
  have hless : ∀ k', H[b]? = some k' → (({ k with cells := [], clean := false } : Blk).live && ({ k with cells := [], clean := false } : Blk).clean) = true → (k'.live && k'.clean) = true := fun k' _ h => by simp at h
  have hact' : ∀ x kx, Heap.act (H.set b { k with cells := [], clean := false }) x = some kx → (x = b ∧ kx = { k with cells := [], clean := false }) ∨ (x ≠ b ∧ H.act x = some kx ∧ (kx.live = false → kx.kid ≠ some b)) := fun x kx h => by
    by_cases e : x = b
    · subst e
      have := act_get h
      rw [List.getElem?_set_self hblen] at this
      cases this
      exact .inl ⟨rfl, rfl⟩
    · refine .inr ⟨e, act_set hless h e, fun hd hkid => ?_⟩
      unfold Heap.act at h
      have hg := act_get (act_set hless h e)
      rw [List.getElem?_set_ne (by omega), hg] at h
      simp [hd, Heap.rev, hkid, List.getElem?_set_self hblen] at h
  refine ⟨⟨hs.size, by simp; exact hs.low, ?_, ?_, ?_, hs.ro, ?_, ?_⟩, fun x kx h => (hact' x kx h).imp (·.1) (·.2.1)⟩
  · intro x c kx hx hc
    by_cases e : x = b
    · subst e; rw [List.getElem?_set_self hblen] at hx; cases hx
      simp; exact hs.kids x c k hget hc
    · rw [List.getElem?_set_ne (by omega)] at hx
      simp; exact hs.kids x c kx hx hc
  · intro x kx lx hx hmx
    by_cases e : x = b
    · subst e; rw [List.getElem?_set_self hblen] at hx; cases hx
      exact hs.es x k lx hget hmx
    · rw [List.getElem?_set_ne (by omega)] at hx
      exact hs.es x kx lx hx hmx
  · intro x kx lx ha hmx
    rcases hact' x kx ha with ⟨rfl, rfl⟩ | ⟨hx, ha, hkid⟩
    · obtain ⟨e1, e2, e3⟩ := hs.cells x k lx hact hmx
      exact ⟨e1, Nat.zero_le _, fun j v hv => by simp at hv⟩
    · exact hs.cells x kx lx ha hmx
  · intro x kx lx hx0 ha hmx
    rcases hact' x kx ha with ⟨rfl, rfl⟩ | ⟨hx, ha, hkid⟩
    · exact hs.own x k lx hx0 hact hmx
    · exact hs.own x kx lx hx0 ha hmx
  · have hother : ∀ x kx lx lb, n0 ≤ x → x ≠ b → H.act x = some kx → m x = some lx → m b = some lb → (kx.live = false → kx.kid ≠ some b) → lx.cb ≠ lb.cb := fun x kx lx lb hx0 hx ha hmx hmb hkid he => by
      rcases hs.inj x b kx k lx lb hx0 hb ha hact hmx hmb he with h | ⟨h1, h2, _⟩ | ⟨h1, _, _⟩
      · exact hx h
      · exact hkid h1 h2
      · simp [hlive] at h1
    intro x x' kx kx' lx lx' hx hx' ha ha' hmx hmx' he
    rcases hact' x kx ha with ⟨e1, e2⟩ | ⟨hxb, ha1, hkid⟩ <;> rcases hact' x' kx' ha' with ⟨e3, e4⟩ | ⟨hxb', ha2, hkid'⟩
    · left; rw [e1, e3]
    · exfalso; rw [e1] at hmx; exact hother x' kx' lx' lx hx' hxb' ha2 hmx' hmx hkid' he.symm
    · exfalso; rw [e3] at hmx'; exact hother x kx lx lx' hx hxb ha1 hmx hmx' hkid he
    · exact hs.inj x x' kx kx' lx lx' hx hx' ha1 ha2 hmx hmx' he

theorem hollow_act {H : Heap} {b : Nat} {k : Blk} (hk : H.blk b = some k) : Heap.act (H.set b { k with cells := [], clean := false }) b = some { k with cells := [], clean := false } := by
  obtain ⟨hact, hlive, hget⟩ := blk_act hk
  exact act_of (List.getElem?_set_self (act_lt hact)) (.inl hlive)

variable {P : Program} {n0 base fl : Nat} {m : BMap} {H : Heap} {w : World}

theorem ins_sim (hs : Sim n0 base m H w) (hfl : n0 ≤ fl) {b e : Nat} {k : Blk} {l l2 : Loc} (hflb : fl ≤ b) (hk : H.blk b = some k) (he : k.e = e) (hm : m b = some l) (hn : m H.length = none) {W : World} {cells : List AV}
    (hsim : Sim n0 base m (H.set b { k with cells := [], clean := false }) W) (hl2 : l2.e = e) (hlen : cells.length ≤ l2.room) (hca : CellsAt m W l2 cells) (hcb : base ≤ l2.cb ∧ l2.cb < W.heap.size) (hroom : Room W l2)
    (hwhere : (l2.cb = l.cb ∧ l.co ≤ l2.co) ∨ w.heap.size ≤ l2.cb) (hw : W.os = w.os ∧ W.tape = w.tape ∧ W.output = w.output ∧ w.heap.size ≤ W.heap.size) (hfr : ∀ c, c < w.heap.size → c ≠ l.cb → W.heap[c]? = w.heap[c]?) :
    Step n0 base fl m H w (upd m H.length l2) (H.set b { cells := [], e, live := false, clean := false } ++ [{ cells := cells, e := e }]) W := by
  obtain ⟨h1, h2⟩ := hollow_sim hs (Nat.le_trans hfl hflb) hk
  have hlen1 : (H.set b { k with cells := [], clean := false }).length = H.length := by simp
  have := top_step (fl := fl) (l := l) (l2 := l2) (k2 := { cells := [], e, live := false, clean := false }) (nk := { cells := cells, e := e }) hs hsim hlen1 (b := b) h2 (Nat.le_trans hfl hflb) hflb (blk_act hk).1 (hollow_act hk) (blk_act hk).2.1 hm (by rw [hlen1]; exact hn)
    ⟨rfl, fun h => absurd rfl h, he.symm, fun c hc => by simp at hc⟩ ⟨rfl, rfl⟩ hl2 hlen hca hcb hroom (hwhere.imp (fun h => ⟨h.1, by simp; omega⟩) id) hw hfr
  rw [hlen1, List.set_set] at this
  exact this

variable {g : Nat} {ρ : Ren} {nm : String} {bytes : Nat}

theorem two_cells {e i mm n o : Nat} {w : World} {cb : Nat} {ys ts : List Value} (hin : i ≤ n) (hyl : ys.length = mm * e) (htl : ts.length = (n - i) * e)
    (hc : ∀ j, j < (n + mm) * e → (w.cell? ⟨cb, o + j, none⟩).isSome = true) (x : Nat) :
    ((w.setCells cb (o + (i + mm) * e) ts).setCells cb (o + i * e) ys).cell? ⟨cb, o + x, none⟩ =
      if x < i * e then w.cell? ⟨cb, o + x, none⟩ else if x < (i + mm) * e then ys[x - i * e]? else if x < (n + mm) * e then ts[x - (i + mm) * e]? else w.cell? ⟨cb, o + x, none⟩ := by
  have q1 : (i + mm) * e + (n - i) * e = (n + mm) * e := by rw [← Nat.add_mul]; congr 1; omega
  have q2 : (i + mm) * e = i * e + mm * e := Nat.add_mul _ _ _
  have hc1 : ∀ j, j < ts.length → (w.cell? ⟨cb, o + (i + mm) * e + j, none⟩).isSome = true := fun j hj => by
    have := hc ((i + mm) * e + j) (by omega)
    rwa [← Nat.add_assoc] at this
  rw [cell_setCells (fun j hj => by
    rw [cell_setCells hc1]
    split
    · rename_i h
      rw [List.getElem?_eq_getElem (by omega)]; rfl
    · have := hc (i * e + j) (by omega)
      rwa [← Nat.add_assoc] at this), cell_setCells hc1]
  by_cases h1 : x < i * e
  · rw [if_neg (by omega), if_neg (by omega), if_pos h1]
  · rw [if_neg h1]
    by_cases h2 : x < (i + mm) * e
    · rw [if_pos (by omega), if_pos h2]; congr 1; omega
    · rw [if_neg (by omega), if_neg h2]
      by_cases h3 : x < (n + mm) * e
      · rw [if_pos (by omega), if_pos h3]; congr 1; omega
      · rw [if_neg (by omega), if_neg h3]

theorem parts_get {A B C : List AV} {p q r : Nat} (hA : A.length = p) (hB : B.length = q) (hC : C.length = r) {j : Nat} {v : AV} (h : (A ++ B ++ C)[j]? = some v) :
    (j < p ∧ A[j]? = some v) ∨ (p ≤ j ∧ j < p + q ∧ B[j - p]? = some v) ∨ (p + q ≤ j ∧ j < p + q + r ∧ C[j - (p + q)]? = some v) := by
  by_cases h1 : j < p
  · rw [List.append_assoc, List.getElem?_append_left (by omega)] at h; exact .inl ⟨h1, h⟩
  · by_cases h2 : j < p + q
    · rw [List.getElem?_append_left (by simp; omega), List.getElem?_append_right (by omega)] at h
      refine .inr (.inl ⟨by omega, h2, by rwa [hA] at h⟩)
    · have h3 : j < p + q + r := by
        rcases Nat.lt_or_ge j (p + q + r) with h3 | h3
        · exact h3
        · rw [List.getElem?_eq_none (by simp; omega)] at h; simp at h
      rw [List.getElem?_append_right (by simp; omega)] at h
      refine .inr (.inr ⟨by omega, h3, ?_⟩)
      rw [List.length_append, hA, hB] at h; exact h

theorem ins_inplace (hs : Sim n0 base m H w) (hfl : n0 ≤ fl) {b off n mm e i cap : Nat} {k : Blk} {l : Loc} (hflb : fl ≤ b) (hk : H.blk b = some k) (he : k.e = e) (hm : m b = some l) (hn : m H.length = none)
    (hfull : off + n * e = k.cells.length) (hin : i ≤ n) (hcap : off + cap * e = l.room) (hfit : n + mm ≤ cap) {xs : List AV} {ys ts : List Value} (hr : VRels m xs ys) (hxl : xs.length = mm * e)
    (hrt : VRels m (k.cells.drop (off + i * e)) ts) {w1 : World} (h1 : w1.heap = w.heap) (h2 : w1.os = w.os) (h3 : w1.tape = w.tape) (h4 : w1.output = w.output) :
    Step n0 base fl m H w (upd m H.length ⟨l.cb, l.co + off, l.room - off, e⟩) (H.set b { cells := [], e, live := false, clean := false } ++ [{ cells := (k.cells.drop off).take (i * e) ++ xs ++ k.cells.drop (off + i * e), e := e }])
      ((w1.setCells l.cb (l.co + off + (i + mm) * e) ts).setCells l.cb (l.co + off + i * e) ys) := by
  obtain ⟨hact, hlive, hget⟩ := blk_act hk
  have hb := Nat.le_trans hfl hflb
  obtain ⟨o1, o2, o3⟩ := hs.own b k l hb hact hm
  obtain ⟨c1, c2, c3⟩ := hs.cells b k l hact hm
  have hyl : ys.length = mm * e := by rw [← hr.length]; exact hxl
  have q0 : i * e ≤ n * e := Nat.mul_le_mul_right _ hin
  have q1 : (i + mm) * e + (n - i) * e = (n + mm) * e := by rw [← Nat.add_mul]; congr 1; omega
  have q2 : (i + mm) * e = i * e + mm * e := Nat.add_mul _ _ _
  have q3 : (n + mm) * e ≤ cap * e := Nat.mul_le_mul_right _ hfit
  have q4 : (n + mm) * e = n * e + mm * e := Nat.add_mul _ _ _
  have q5 : (n - i) * e = n * e - i * e := Nat.sub_mul _ _ _
  have htl : ts.length = (n - i) * e := by rw [← hrt.length, List.length_drop]; omega
  have hs1 : Sim n0 base m H w1 := sim_world hs (by rw [h1]; exact Nat.le_refl _) fun c _ => by rw [h1]
  have hroom1 : Room w1 l := room_of_heap (by rw [h1]) o3
  obtain ⟨hh, _⟩ := hollow_sim hs1 hb hk
  obtain ⟨_, b1⟩ := beyond_sim hh (b := b) hb (hollow_act hk) hlive hm (vs := ts) (o := l.co + off + (i + mm) * e) (by simp; omega) (by omega)
  obtain ⟨_, b2⟩ := beyond_sim b1 (b := b) hb (hollow_act hk) hlive hm (vs := ys) (o := l.co + off + i * e) (by simp; omega) (by omega)
  have hcell : ∀ j, j < (n + mm) * e → (w1.cell? ⟨l.cb, l.co + off + j, none⟩).isSome = true := fun j hj => by
    have := hroom1.cell (off + j) (by omega)
    rwa [← Nat.add_assoc] at this
  have hsz : ((w1.setCells l.cb (l.co + off + (i + mm) * e) ts).setCells l.cb (l.co + off + i * e) ys).heap.size = w.heap.size := by rw [setCells_size, setCells_size, h1]
  obtain ⟨s1, s2, s3⟩ := setCells_os l.cb ys (l.co + off + i * e) (w1.setCells l.cb (l.co + off + (i + mm) * e) ts)
  obtain ⟨s4, s5, s6⟩ := setCells_os l.cb ts (l.co + off + (i + mm) * e) w1
  obtain ⟨p1, p2, p3⟩ := b2.own b _ l hb (hollow_act hk) hm
  refine ins_sim hs hfl hflb hk he hm hn b2 rfl ?_ ?_ ⟨o1, by rw [hsz]; exact o2⟩ (room_shift p3 off e) (.inl ⟨rfl, by simp⟩) ⟨by rw [s1, s4, h2], by rw [s2, s5, h3], by rw [s3, s6, h4], by rw [hsz]; exact Nat.le_refl _⟩
    fun c _ hne => by rw [setCells_other _ _ _ _ _ hne, setCells_other _ _ _ _ _ hne, h1]
  · simp only [List.length_append, List.length_take, List.length_drop]; omega
  · intro j v hv
    show ∃ cv, World.cell? _ ⟨l.cb, l.co + off + j, none⟩ = some cv ∧ _
    rw [two_cells hin hyl htl hcell]
    rcases parts_get (p := i * e) (q := mm * e) (r := (n - i) * e) (by rw [List.length_take, List.length_drop]; omega) hxl (by rw [List.length_drop]; omega) hv with ⟨g1, g2⟩ | ⟨g1, g2, g3⟩ | ⟨g1, g2, g3⟩
    · rw [if_pos g1]
      rw [List.getElem?_take_of_lt g1, List.getElem?_drop] at g2
      obtain ⟨cv, d1, d2⟩ := c3 _ _ g2
      refine ⟨cv, ?_, d2⟩
      rw [← d1, Nat.add_assoc]
      exact cell_of_heap (by rw [h1]) _
    · rw [if_neg (by omega), if_pos (by omega)]
      exact hr.get _ _ g3
    · rw [if_neg (by omega), if_neg (by omega), if_pos (by omega)]
      rw [q2]
      exact hrt.get _ _ g3

theorem ins_newrow (hs : Sim n0 base m H w) (hfl : n0 ≤ fl) {b off n mm e i G : Nat} {k : Blk} {l : Loc} (hflb : fl ≤ b) (hk : H.blk b = some k) (he : k.e = e) (hm : m b = some l) (hn : m H.length = none)
    (hfull : off + n * e = k.cells.length) (hin : i ≤ n) (hG : n + mm ≤ G) {xs : List AV} {ys ts ps : List Value} (hr : VRels m xs ys) (hxl : xs.length = mm * e)
    (hrt : VRels m (k.cells.drop (off + i * e)) ts) (hrp : VRels m ((k.cells.drop off).take (i * e)) ps)
    {W : World} (h2 : W.os = w.os) (h3 : W.tape = w.tape) (h4 : W.output = w.output) (hsz : W.heap.size = w.heap.size + 1) (hold : ∀ c, c < w.heap.size → W.heap[c]? = w.heap[c]?) (hroom : Room W ⟨w.heap.size, 0, G * e, e⟩)
    (hp1 : ∀ j v, ps[j]? = some v → W.cell? ⟨w.heap.size, j, none⟩ = some v) (hy1 : ∀ j v, ys[j]? = some v → W.cell? ⟨w.heap.size, i * e + j, none⟩ = some v) (ht1 : ∀ j v, ts[j]? = some v → W.cell? ⟨w.heap.size, (i + mm) * e + j, none⟩ = some v) :
    Step n0 base fl m H w (upd m H.length ⟨w.heap.size, 0, G * e, e⟩) (H.set b { cells := [], e, live := false, clean := false } ++ [{ cells := (k.cells.drop off).take (i * e) ++ xs ++ k.cells.drop (off + i * e), e := e }]) W := by
  have hb := Nat.le_trans hfl hflb
  have q0 : i * e ≤ n * e := Nat.mul_le_mul_right _ hin
  have q1 : (i + mm) * e + (n - i) * e = (n + mm) * e := by rw [← Nat.add_mul]; congr 1; omega
  have q2 : (i + mm) * e = i * e + mm * e := Nat.add_mul _ _ _
  have q3 : (n + mm) * e ≤ G * e := Nat.mul_le_mul_right _ hG
  have q4 : (n + mm) * e = n * e + mm * e := Nat.add_mul _ _ _
  have q5 : (n - i) * e = n * e - i * e := Nat.sub_mul _ _ _
  obtain ⟨hh, _⟩ := hollow_sim hs hb hk
  refine ins_sim hs hfl hflb hk he hm hn (sim_world hh (by rw [hsz]; omega) hold) rfl ?_ ?_ ⟨hs.size, by rw [hsz]; simp⟩ hroom (.inr (Nat.le_refl _)) ⟨h2, h3, h4, by rw [hsz]; omega⟩ fun c hc _ => hold c hc
  · simp only [List.length_append, List.length_take, List.length_drop]; omega
  · intro j v hv
    show ∃ cv, W.cell? ⟨w.heap.size, 0 + j, none⟩ = some cv ∧ _
    rw [Nat.zero_add]
    rcases parts_get (p := i * e) (q := mm * e) (r := (n - i) * e) (by rw [List.length_take, List.length_drop]; omega) hxl (by rw [List.length_drop]; omega) hv with ⟨g1, g2⟩ | ⟨g1, g2, g3⟩ | ⟨g1, g2, g3⟩
    · obtain ⟨cv, d1, d2⟩ := hrp.get _ _ g2
      exact ⟨cv, hp1 _ _ d1, d2⟩
    · obtain ⟨cv, d1, d2⟩ := hr.get _ _ g3
      refine ⟨cv, ?_, d2⟩
      have := hy1 _ _ d1
      rwa [show i * e + (j - i * e) = j by omega] at this
    · obtain ⟨cv, d1, d2⟩ := hrt.get _ _ g3
      refine ⟨cv, ?_, d2⟩
      have := ht1 _ _ d1
      rwa [show (i + mm) * e + (j - (i * e + mm * e)) = j by omega] at this

end Go.RM

/-
  slices.Insert, whole.
-/
namespace Go.RM
open Go.Proofs Go.Shelf Go.RowKit Go.Lib
set_option linter.unusedVariables false
set_option linter.unusedSimpArgs false

variable {P : Program} {n0 base fl : Nat} {m : BMap} {H : Heap} {w : World} {g : Nat} {ρ : Ren} {nm : String} {e bytes : Nat}

theorem get_lt' {α : Type} {l : List α} {j : Nat} {v : α} (h : l[j]? = some v) : j < l.length := by
  rcases Nat.lt_or_ge j l.length with h1 | h1
  · exact h1
  · rw [List.getElem?_eq_none h1] at h; cases h

theorem shape_of_cell {w : World} {b o : Nat} {v : Value} (h : w.cell? ⟨b, o, none⟩ = some v) : ∃ t k, w.shape? b = some (t, k) ∧ o < k := by
  unfold World.cell? at h
  simp only at h
  split at h
  · rename_i c t fz hh
    simp only [Option.isSome_none, Bool.false_eq_true, if_false] at h
    refine ⟨t, c.size, by simp only [World.shape?, hh], ?_⟩
    rcases Nat.lt_or_ge o c.size with h1 | h1
    · exact h1
    · rw [Array.getElem?_eq_none h1] at h; cases h
  · cases h

theorem bigs {n mm c bytes : Nat} (h : (n + mm + (n + mm) / 4 + 192) * bytes ≤ 2 ^ 46) (hc : c < n + mm) : Builtin.nextslicecap (n + mm) c * bytes ≤ 281474976710656 ∧ (n + mm) * bytes ≤ 281474976710656 := by
  constructor
  · exact Nat.le_trans (Nat.mul_le_mul_right _ (nextslicecap_le_wide hc)) (by omega)
  · exact Nat.le_trans (Nat.mul_le_mul_right _ (by omega)) (show (n + mm + (n + mm) / 4 + 192) * bytes ≤ _ by omega)

theorem ins_run_new (L : InsLaid P g ρ nm e bytes) {b o n c i vb vo mm vc : Nat} (hin : i ≤ n) (hm : 0 < mm) (hnc : n ≤ c) (hroom : c < n + mm) (hbig : (n + mm + (n + mm) / 4 + 192) * bytes ≤ 2 ^ 46) (h62 : n + mm < 2 ^ 40)
    (hbw : b < w.heap.size) (hvw : vb < w.heap.size) {ps vs ts : List Value} (hpl : ps.length = i * e) (hvl : vs.length = mm * e) (htl : ts.length = (n - i) * e) {a : Option Addr} (ha : a = some ⟨b, o, none⟩ ∨ c = 0)
    (hps : ∀ j v, ps[j]? = some v → w.cell? ⟨b, o + j, none⟩ = some v) (hts : ∀ j v, ts[j]? = some v → w.cell? ⟨b, o + i * e + j, none⟩ = some v)
    (hvs : ∀ j v, vs[j]? = some v → w.cell? ⟨vb, vo + j, none⟩ = some v) (h1t : ∀ v ∈ ts, v.oneCell' = true) (h1v : ∀ v ∈ vs, v.oneCell' = true) :
    Calls P g #[.slice a n c, .int .i64 i, .slice (some ⟨vb, vo, none⟩) mm vc] w fun x W =>
      ∃ G, n + mm ≤ G ∧ x = .returned (.slice (some ⟨w.heap.size, 0, none⟩) (n + mm) G) ∧ W.os = w.os ∧ W.tape = w.tape ∧ W.output = w.output ∧ W.heap.size = w.heap.size + 1 ∧ (∀ c, c < w.heap.size → W.heap[c]? = w.heap[c]?) ∧ Room W ⟨w.heap.size, 0, G * e, e⟩ ∧
      (∀ j v, ps[j]? = some v → W.cell? ⟨w.heap.size, j, none⟩ = some v) ∧ (∀ j v, vs[j]? = some v → W.cell? ⟨w.heap.size, i * e + j, none⟩ = some v) ∧ (∀ j v, ts[j]? = some v → W.cell? ⟨w.heap.size, (i + mm) * e + j, none⟩ = some v) := by
  obtain ⟨hb1, hb2⟩ := bigs hbig hroom
  have q2 : (i + mm) * e = i * e + mm * e := Nat.add_mul _ _ _
  have q1 : (i + mm) * e + (n - i) * e = (n + mm) * e := by rw [← Nat.add_mul]; congr 1; omega
  have hal : ∀ (row : List Value) (t : TypeId) (j : Nat), (w.drew.alloc (.cells row.toArray t)).cell? ⟨w.heap.size, j, none⟩ = row[j]? := fun row t j => by
    rw [World.cell?_alloc_at (w := w.drew) row.toArray _ w.heap.size j rfl, List.getElem?_toArray]
  have hfr : ∀ (row : List Value) (t : TypeId) (j : Nat), (w.drew.alloc (.cells row.toArray t)).frozen? ⟨w.heap.size, j, none⟩ = false := fun row t j => World.frozen?_alloc_at (w := w.drew) row.toArray _ w.heap.size j rfl
  by_cases hi : i = n
  · subst hi
    have hts0 : ts = [] := List.eq_nil_of_length_eq_zero (by rw [htl]; simp)
    obtain ⟨G, rest, g1, g2, g3⟩ := (run_app L.t24 L.i9 L.epos L.bpos (ρ.t 24) (a := a) (n := i) (c := c) (m := mm) (v := .slice (some ⟨vb, vo, none⟩) mm vc) (w := w) (vs := vs) rfl fun w' hw' => run_first (w := w') hvl fun j v hv => by
      have := hvs j v hv
      simp only [World.cell?, hw'] at this ⊢; exact this).2 hroom hb1 ps (fun w' hw' => by
        rcases ha with ha | h0
        · rw [ha]
          exact run_first (w := w') hpl fun j v hv => by
            have := hps j v hv
            simp only [World.cell?, hw'] at this ⊢; exact this
        · have hi0 : i = 0 := by omega
          subst hi0
          have : ps = [] := List.eq_nil_of_length_eq_zero (by rw [hpl, Nat.zero_mul])
          subst this
          cases a with
          | none => rfl
          | some a => simp only [Builtin.firstCells, Nat.zero_mul]; exact loadCells_zero a w')
    have hty : ∀ ty, (Builtin.append_ #[ρ.t 24, ρ.t 24] ty #[.slice a i c, .slice (some ⟨vb, vo, none⟩) mm vc]).run P w = .ok (.slice (some ⟨w.heap.size, 0, none⟩) (i + mm) G) (w.drew.alloc (.cells (ps ++ vs ++ rest).toArray (ρ.t 9))) := fun ty => g3
    refine Calls.mono (ins_end L hm (by omega) hnc hty) fun x W ⟨h1, h2⟩ => ?_
    subst h2
    have hrl : (ps ++ vs ++ rest).length = G * e := by
      rw [List.length_append, List.length_append, hpl, hvl, g2, ← Nat.add_mul, ← Nat.add_mul]; congr 1; omega
    refine ⟨G, g1, h1, rfl, rfl, rfl, by simp, fun c hc => drew_alloc_old w _ c hc, ⟨fun j hj => ?_, fun j => hfr _ _ _⟩, fun j v hv => ?_, fun j v hv => ?_, fun j v hv => by rw [hts0] at hv; simp at hv⟩
    · show (World.cell? _ ⟨w.heap.size, 0 + j, none⟩).isSome = true
      have hj' : j < G * e := hj
      rw [hal, List.getElem?_eq_getElem (by omega)]; rfl
    · have hj : j < ps.length := get_lt' hv
      rw [hal, List.append_assoc, List.getElem?_append_left hj]; exact hv
    · have hj : j < vs.length := get_lt' hv
      rw [hal, List.getElem?_append_left (by simp; omega), List.getElem?_append_right (by omega), ← hv]
      congr 1; omega
  · have ha' : a = some ⟨b, o, none⟩ := ha.resolve_right (by omega)
    subst ha'
    refine Calls.mono (ins_grow L (i := i) (by omega) hm hnc hroom hb1 hb2 (by omega) hbw hvw hpl hvl htl hps hts hvs h1t h1v) fun x W ⟨G, zs, rest, g1, g2, g3, h1, h2⟩ => ?_
    subst h2
    have q3 : (n + mm) * e ≤ G * e := Nat.mul_le_mul_right _ g1
    have hrl : (ps ++ zs ++ rest).length = G * e := by
      rw [List.length_append, List.length_append, hpl, g2, g3, ← Nat.add_mul, ← Nat.add_mul]; congr 1; omega
    have e0 : (((w.alloc (.cells (ps ++ zs ++ rest).toArray (ρ.t 9))).drew.setCells w.heap.size (i * e) vs).drew).setCells w.heap.size ((i + mm) * e) ts =
      (((w.alloc (.cells (ps ++ zs ++ rest).toArray (ρ.t 9))).drew.setCells w.heap.size (i * e) vs).drew).setCells w.heap.size ((i + mm) * e) ts := rfl
    have hA : ∀ j, ((w.alloc (.cells (ps ++ zs ++ rest).toArray (ρ.t 9))).drew).cell? ⟨w.heap.size, j, none⟩ = (ps ++ zs ++ rest)[j]? := fun j => hal _ _ j
    have hB : ∀ j, (((w.alloc (.cells (ps ++ zs ++ rest).toArray (ρ.t 9))).drew.setCells w.heap.size (i * e) vs).drew).cell? ⟨w.heap.size, j, none⟩ = if i * e ≤ j ∧ j < i * e + vs.length then vs[j - i * e]? else (ps ++ zs ++ rest)[j]? := fun j => by
      show ((w.alloc (.cells (ps ++ zs ++ rest).toArray (ρ.t 9))).drew.setCells w.heap.size (i * e) vs).cell? ⟨w.heap.size, j, none⟩ = _
      rw [cell_setCells (fun j hj => by rw [hA, List.getElem?_eq_getElem (by omega)]; rfl), hA]
    have hC : ∀ j, ((((w.alloc (.cells (ps ++ zs ++ rest).toArray (ρ.t 9))).drew.setCells w.heap.size (i * e) vs).drew).setCells w.heap.size ((i + mm) * e) ts).cell? ⟨w.heap.size, j, none⟩ =
        if (i + mm) * e ≤ j ∧ j < (i + mm) * e + ts.length then ts[j - (i + mm) * e]? else if i * e ≤ j ∧ j < i * e + vs.length then vs[j - i * e]? else (ps ++ zs ++ rest)[j]? := fun j => by
      rw [cell_setCells (fun j hj => by
        rw [hB]
        split
        · rw [List.getElem?_eq_getElem (by omega)]; rfl
        · rw [List.getElem?_eq_getElem (by omega)]; rfl), hB]
    have hos : ∀ (w' : World), w'.drew.os = w'.os ∧ w'.drew.tape = w'.tape ∧ w'.drew.output = w'.output ∧ w'.drew.heap = w'.heap := fun _ => ⟨rfl, rfl, rfl, rfl⟩
    obtain ⟨s1, s2, s3⟩ := setCells_os w.heap.size ts ((i + mm) * e) (((w.alloc (.cells (ps ++ zs ++ rest).toArray (ρ.t 9))).drew.setCells w.heap.size (i * e) vs).drew)
    obtain ⟨s4, s5, s6⟩ := setCells_os w.heap.size vs (i * e) ((w.alloc (.cells (ps ++ zs ++ rest).toArray (ρ.t 9))).drew)
    refine ⟨G, g1, h1, s1.trans s4, s2.trans s5, s3.trans s6, ?_, fun c hc => ?_, ⟨fun j hj => ?_, fun j => ?_⟩, fun j v hv => ?_, fun j v hv => ?_, fun j v hv => ?_⟩
    · rw [setCells_size]
      show ((w.alloc (.cells (ps ++ zs ++ rest).toArray (ρ.t 9))).drew.setCells w.heap.size (i * e) vs).heap.size = _
      rw [setCells_size]
      show (w.alloc _).heap.size = _
      simp
    · rw [setCells_other _ _ _ _ _ (by omega)]
      show ((w.alloc (.cells (ps ++ zs ++ rest).toArray (ρ.t 9))).drew.setCells w.heap.size (i * e) vs).heap[c]? = _
      rw [setCells_other _ _ _ _ _ (by omega)]
      exact drew_alloc_old w _ c hc
    · show (World.cell? _ ⟨w.heap.size, 0 + j, none⟩).isSome = true
      have hj' : j < G * e := hj
      rw [Nat.zero_add, hC]
      split
      · rw [List.getElem?_eq_getElem (by omega)]; rfl
      · split
        · rw [List.getElem?_eq_getElem (by omega)]; rfl
        · rw [List.getElem?_eq_getElem (by omega)]; rfl
    · rw [World.frozen?_setCells]
      show ((w.alloc (.cells (ps ++ zs ++ rest).toArray (ρ.t 9))).drew.setCells w.heap.size (i * e) vs).frozen? _ = _
      rw [World.frozen?_setCells]
      exact hfr _ _ _
    · have hj : j < ps.length := get_lt' hv
      rw [hC, if_neg (by omega), if_neg (by omega), List.append_assoc, List.getElem?_append_left hj]; exact hv
    · have hj : j < vs.length := get_lt' hv
      rw [hC, if_neg (by omega), if_pos (by omega), ← hv]; congr 1; omega
    · have hj : j < ts.length := get_lt' hv
      rw [hC, if_pos (by omega), ← hv]; congr 1; omega

theorem prim_insert (L : InsLaid P g ρ nm e bytes) : PrimOk P g (.insert e bytes) := by
  intro flx args H v H' h
  have hfn : ∃ fn, P.funcs[g]? = some fn ∧ fn.body.isSome = true ∧ fn.name ≠ "runtime.NumGoroutine" := ⟨_, L.fn, rfl, L.nm⟩
  refine ⟨hfn, ?_⟩
  unfold rprim at h
  split at h
  case h_2 => rename_i hpe; cases hpe
  case h_3 => cases h
  rename_i e' bytes' s i vv hpe
  cases hpe
  unfold rinsert at h
  split at h
  case h_2 => cases h
  rename_i vb voff mm vlim
  split at h
  case h_2 => cases h
  rename_i xs kv hxs hkv
  rw [Option.ite_none_right_eq_some] at h
  obtain ⟨⟨hmm, hep, hflv⟩, h⟩ := h
  intro n0 base m w cargs hfl hs hargs hfresh
  -- the arguments
  rcases cargs with _ | ⟨cs, _ | ⟨ci, _ | ⟨cv, _ | ⟨_, _⟩⟩⟩⟩
  · exact hargs.elim
  · exact hargs.2.elim
  · exact hargs.2.2.elim
  case cons.cons.cons.cons => exact hargs.2.2.2.elim
  obtain ⟨hcs, hci, hcv, _⟩ := hargs
  have hci : ci = .int .i64 i := hci
  subst hci
  obtain ⟨va, vc, rfl, hmc, lv, hmv, _, hva⟩ := hcv
  have hva : va = some ⟨lv.cb, lv.co + voff, none⟩ := hva.resolve_right (by omega)
  subst hva
  obtain ⟨hactv, hlivev, _⟩ := blk_act hkv
  have hxs' : voff + mm * e ≤ kv.cells.length ∧ xs = (kv.cells.drop voff).take (mm * e) := by
    unfold sliceCells at hxs
    dsimp only at hxs
    rw [if_neg (by omega), if_neg (by omega), hactv] at hxs
    simp only at hxs
    split at hxs
    · rename_i hc; exact ⟨hc, (Option.some.inj hxs).symm⟩
    · cases hxs
  obtain ⟨hxf, hxe⟩ := hxs'
  obtain ⟨ys, y1, y2, y3⟩ := stretch hs hactv hmv hxf
  rw [← hxe] at y1
  have hxl : xs.length = mm * e := by rw [y1.length, y2]
  have hbv := Nat.le_trans hfl hflv
  obtain ⟨v1, v2, v3⟩ := hs.own vb kv lv hbv hactv hmv
  split at h
  · -- nothing there
    rw [Option.ite_none_right_eq_some] at h
    obtain ⟨⟨rfl, hbb, hm40⟩, h⟩ := h
    simp only [Option.some.injEq, Prod.mk.injEq] at h
    obtain ⟨rfl, rfl⟩ := h
    obtain ⟨a, rfl⟩ := hcs
    obtain ⟨G, rest, g1, g2, g3⟩ := (run_app L.t24 L.i9 L.epos L.bpos (ρ.t 24) (a := a) (n := 0) (c := 0) (m := mm) (v := .slice (some ⟨lv.cb, lv.co + voff, none⟩) mm vc) (w := w) (vs := ys) rfl fun w' hw' => run_first (w := w') y2 fun j v hv => by
      have := y3 j v hv
      simp only [World.cell?, hw'] at this ⊢; exact this).2 (by omega) (by rw [Nat.zero_add, nextslicecap_zero (by omega)]; omega) [] (fun w' hw' => by
        cases a with
        | none => rfl
        | some a => simp only [Builtin.firstCells, Nat.zero_mul]; exact loadCells_zero a w')
    have hty : ∀ ty, (Builtin.append_ #[ρ.t 24, ρ.t 24] ty #[.slice a 0 0, .slice (some ⟨lv.cb, lv.co + voff, none⟩) mm vc]).run P w = .ok (.slice (some ⟨w.heap.size, 0, none⟩) (0 + mm) G) (w.drew.alloc (.cells (ys ++ rest).toArray (ρ.t 9))) := fun ty => by
      have := g3
      rwa [List.nil_append] at this
    have hE := ins_end L hmm (by omega) (Nat.le_refl 0) hty
    refine Calls.mono hE fun x W ⟨h1, h2⟩ => ?_
    subst h2
    have hres : AppRes flx true m H w (.slice H.length 0 mm none) (H ++ [{ cells := xs, e := e }]) (.slice (some ⟨w.heap.size, 0, none⟩) mm G) (w.drew.alloc (.cells (ys ++ rest).toArray (ρ.t 9))) :=
      .push (nk := { cells := xs, e := e }) ⟨rfl, rfl⟩ y1 (by omega) (by
        show (ys ++ rest).length = G * e
        rw [List.length_append, y2, g2, ← Nat.add_mul]; congr 1; omega)
    obtain ⟨m', a1, a2⟩ := app_step hres hs hfl (fun hl => hfresh _ (Nat.le_refl _) hl)
    rw [Nat.zero_add] at h1
    exact ⟨_, m', h1, a1, a2⟩
  · rename_i b off n
    split at h
    case h_2 => cases h
    rename_i k hk
    rw [Option.ite_none_right_eq_some] at h
    obtain ⟨⟨hflb, hbne, hke, hi0, hin', hoff, hsx, hsk, hbig, h40⟩, h⟩ := h
    obtain ⟨j, rfl⟩ : ∃ j : Nat, i = j := ⟨i.toNat, by omega⟩
    have hin : j ≤ n := by omega
    simp only [Int.toNat_natCast] at h
    obtain ⟨a, C, rfl, hnC, l, hm, hcap, haa⟩ := hcs
    obtain ⟨hact, hlive, hget⟩ := blk_act hk
    have hb := Nat.le_trans hfl hflb
    obtain ⟨e1, e2, e3⟩ := hs.cells b k l hact hm
    obtain ⟨o1, o2, o3⟩ := hs.own b k l hb hact hm
    have hle : l.e = e := by rw [e1, hke]
    have hcap' : off + C * e = l.room := by have : off + C * l.e = l.room := hcap; rwa [hle] at this
    have q0 : j * e ≤ n * e := Nat.mul_le_mul_right _ hin
    have q2 : (j + mm) * e = j * e + mm * e := Nat.add_mul _ _ _
    have q4 : (n + mm) * e = n * e + mm * e := Nat.add_mul _ _ _
    have q5 : (n - j) * e = n * e - j * e := Nat.sub_mul _ _ _
    obtain ⟨ps, p1, p2, p3⟩ := stretch hs (off := off) (n := j * e) hact hm (by omega)
    obtain ⟨ts, t1, t2, t3⟩ := stretch hs (off := off + j * e) (n := (n - j) * e) hact hm (by omega)
    have hone : ∀ v ∈ ts, v.oneCell' = true := t1.oneCells hsk
    have honey : ∀ v ∈ ys, v.oneCell' = true := y1.oneCells hsx
    have hts : ∀ (x : Nat) v, ts[x]? = some v → w.cell? ⟨l.cb, l.co + off + j * e + x, none⟩ = some v := fun x v hv => by
      have := t3 x v hv
      rwa [← Nat.add_assoc] at this
    -- another row
    have hvne : lv.cb ≠ l.cb := fun he => by
      rcases hs.inj vb b kv k lv l hbv hb hactv hact hmv hm he with h1 | ⟨h1, _⟩ | ⟨h1, _⟩
      · exact hbne h1.symm
      · rw [hlivev] at h1; cases h1
      · rw [hlive] at h1; cases h1
    -- in place
    have hinp : n + mm ≤ C → Calls P g #[.slice a n C, .int .i64 j, .slice (some ⟨lv.cb, lv.co + voff, none⟩) mm vc] w fun x W =>
        x = .returned (.slice (some ⟨l.cb, l.co + off, none⟩) (n + mm) C) ∧ ∃ w1 : World, w1.heap = w.heap ∧ w1.os = w.os ∧ w1.tape = w.tape ∧ w1.output = w.output ∧ W = (w1.setCells l.cb (l.co + off + (j + mm) * e) ts).setCells l.cb (l.co + off + j * e) ys := fun hfit => by
      have ha : a = some ⟨l.cb, l.co + off, none⟩ := haa.resolve_right (by omega)
      subst ha
      have q3 : (n + mm) * e ≤ C * e := Nat.mul_le_mul_right _ hfit
      have hsp : ∀ x, x < (n + mm) * e → (w.cell? ⟨l.cb, l.co + off + x, none⟩).isSome = true ∧ w.frozen? ⟨l.cb, l.co + off + x, none⟩ = false := fun x hx => by
        have := o3.at (off + x) (by omega)
        rwa [← Nat.add_assoc] at this
      by_cases hjn : j = n
      · subst hjn
        have hts0 : ts = [] := List.eq_nil_of_length_eq_zero (by rw [t2]; simp)
        have hty : ∀ ty, (Builtin.append_ #[ρ.t 24, ρ.t 24] ty #[.slice (some ⟨l.cb, l.co + off, none⟩) j C, .slice (some ⟨lv.cb, lv.co + voff, none⟩) mm vc]).run P w = .ok (.slice (some ⟨l.cb, l.co + off, none⟩) (j + mm) C) (w.setCells l.cb (l.co + off + j * e) ys) := fun ty =>
          (run_app L.t24 L.i9 L.epos L.bpos ty (a := some ⟨l.cb, l.co + off, none⟩) (n := j) (c := C) (m := mm) (v := .slice (some ⟨lv.cb, lv.co + voff, none⟩) mm vc) (w := w) (vs := ys) rfl fun w' hw' => run_first (w := w') y2 fun x v hv => by
            have := y3 x v hv
            simp only [World.cell?, hw'] at this ⊢; exact this).1 hfit _ (fun ad had => by
              cases had
              rw [add_mk]
              have := run_storeCells_cells (P := P) l.cb (l.co + off + j * e) ys 0 w (fun x hx => by
                have := (hsp (j * e + x) (by omega)).1
                rw [← Nat.add_assoc] at this; simpa using this) (fun x hx => by
                have := (hsp (j * e + x) (by omega)).2
                rw [← Nat.add_assoc] at this; simpa using this) honey
              simpa using this) (fun h => by cases h)
        refine Calls.mono (ins_end L hmm (by omega) hnC hty) fun x W ⟨h1, h2⟩ => ⟨h1, w, rfl, rfl, rfl, rfl, ?_⟩
        rw [h2, hts0]; rfl
      · obtain ⟨y0, hy0⟩ : ∃ y0, ys[0]? = some y0 := ⟨ys[0]'(by rw [y2]; exact Nat.mul_pos hmm hep), List.getElem?_eq_getElem _⟩
        obtain ⟨tA, kA, sA, sA2⟩ := shape_of_cell (y3 0 y0 hy0)
        obtain ⟨t0, ht0⟩ : ∃ t0, ts[0]? = some t0 := ⟨ts[0]'(by rw [t2]; exact Nat.mul_pos (by omega) hep), List.getElem?_eq_getElem _⟩
        obtain ⟨tB, kB, sB, sB2⟩ := shape_of_cell (hts 0 t0 ht0)
        have hfrv : ∀ x, lv.co ≤ x → w.frozen? ⟨lv.cb, x, none⟩ = false := fun x hx => by
          have := v3.soft (x - lv.co)
          rwa [show lv.co + (x - lv.co) = x by omega] at this
        refine Calls.mono (ins_shift L (i := j) (by omega) hmm hfit (by omega) hvne y2 t2 hts hsp y3 hone honey tA tB kA kB sA sB (by omega) (hfrv _ (by omega)) (hfrv _ (by omega))) fun x W ⟨h1, h2⟩ => ⟨h1, w.drew, rfl, rfl, rfl, rfl, h2⟩
    split at h
    · -- full
      rename_i hfull
      simp only [Option.some.injEq, Prod.mk.injEq] at h
      obtain ⟨rfl, rfl⟩ := h
      have hn := hfresh H.length (Nat.le_refl _) (by simp)
      have hrt : VRels m (k.cells.drop (off + j * e)) ts := by
        have : (k.cells.drop (off + j * e)).take ((n - j) * e) = k.cells.drop (off + j * e) := List.take_of_length_le (by rw [List.length_drop]; omega)
        rwa [this] at t1
      by_cases hfit : n + mm ≤ C
      · refine Calls.mono (hinp hfit) fun x W ⟨h1, w1, g1, g2, g3, g4, h2⟩ => ?_
        subst h2
        refine ⟨_, _, h1, ⟨_, _, rfl, hfit, _, upd_same _ _ _, ?_, .inl (by simp)⟩, ins_inplace hs hfl hflb hk hke hm hn hfull hin hcap' hfit y1 hxl hrt g1 g2 g3 g4⟩
        show 0 + C * e = l.room - off
        omega
      · refine Calls.mono (ins_run_new L hin hmm hnC (by omega) hbig h40 o2 v2 p2 y2 t2 (vo := lv.co + voff) haa p3 hts y3 hone honey) fun x W ⟨G, g1, h1, g2, g3, g4, g5, g6, g7, g8, g9, g10⟩ => ?_
        refine ⟨_, _, h1, ⟨_, _, rfl, g1, _, upd_same _ _ _, ?_, .inl (by simp)⟩, ins_newrow hs hfl hflb hk hke hm hn hfull hin g1 y1 hxl hrt p1 g2 g3 g4 g5 g6 g7 g8 g9 g10⟩
        show 0 + G * e = G * e
        omega
    · -- written in place
      rename_i hnfull
      simp only [Option.bind_eq_some_iff, Option.map_eq_some_iff, Prod.mk.injEq] at h
      obtain ⟨H1, r1, H2, r2, rfl, rfl⟩ := h
      have r1' := r1
      unfold rput at r1'
      rw [hk] at r1'
      simp only at r1'
      split at r1'
      case isFalse => cases r1'
      rename_i hc1
      obtain ⟨_, hc2, hc3⟩ := hc1
      have hfit : n + mm ≤ C := by
        have h1 : off + (j + mm) * e + (n - j) * e ≤ k.cells.length := by
          rw [List.length_take, List.length_drop] at hc2; omega
        have h2 : (n + mm) * e ≤ C * e := by omega
        exact Nat.le_of_mul_le_mul_right h2 hep
      refine Calls.mono (hinp hfit) fun x W ⟨h1, w1, g1, g2, g3, g4, h2⟩ => ?_
      subst h2
      have hs1 : Step n0 base flx m H w m H w1 := ⟨Ext.refl m, fun b l h1 h2 => by simp [h1] at h2, sim_world hs (by rw [g1]; exact Nat.le_refl _) fun c _ => by rw [g1], g2, g3, g4, by rw [g1]; exact Nat.le_refl _, Nat.le_refl _, fun c _ _ => by rw [g1], fun _ _ h => h⟩
      have s1 := (put_step hs1.sim hfl r1 hm t1).2.2
      have s2 := (put_step s1.sim hfl r2 hm y1).2.2
      refine ⟨_, m, h1, ⟨_, _, rfl, hfit, l, hm, hcap, .inl rfl⟩, ?_⟩
      have := (hs1.trans s1).trans s2
      rwa [← Nat.add_assoc, ← Nat.add_assoc] at this
  · cases h

end Go.RM

/-
  slices.Clone, of elements of any number of cells: its run in the model, and what the abstract machine says of it.
-/
namespace Go.RM
open Go.Proofs Go.Shelf Go.RowKit Go.Lib
set_option linter.unusedVariables false
set_option linter.unusedSimpArgs false

structure ClnLaid (P : Program) (g : Nat) (ρ : Ren) (nm : String) (e bytes : Nat) : Prop where
  mixed : P.follows .mixedOrders = true
  fn : P.funcs[g]? = some { Body2.n16 ρ with name := nm }
  nm : nm ≠ "runtime.NumGoroutine"
  t4 : P.underlying (ρ.t 4) = some (TypeDesc.bool)
  a4 : ∀ w, (isAgg (ρ.t 4)).run P w = .ok false w
  z4 : ∀ w, (Go.sizeOf (ρ.t 4)).run P w = .ok 1 w
  v4 : ∀ w, (zeroValue (ρ.t 4)).run P w = .ok (Value.bool false) w
  t24 : P.underlying (ρ.t 24) = some (TypeDesc.slice (ρ.t 9))
  a24 : ∀ w, (isAgg (ρ.t 24)).run P w = .ok false w
  z24 : ∀ w, (Go.sizeOf (ρ.t 24)).run P w = .ok 1 w
  v24 : ∀ w, (zeroValue (ρ.t 24)).run P w = .ok (Value.slice none 0 0) w
  z9 : ∀ w, (Go.sizeOf (ρ.t 9)).run P w = .ok e w
  i9 : ∃ i z, P.info? (ρ.t 9) = some i ∧ i.size = e ∧ i.bytes = bytes ∧ i.zero = some z ∧ z.cells.toList.length = e
  epos : 0 < e
  bpos : 0 < bytes

variable {P : Program} {g : Nat} {ρ : Ren} {nm : String} {e bytes : Nat}

set_option maxHeartbeats 4000000 in
set_option maxRecDepth 100000 in
theorem cln_nil (L : ClnLaid P g ρ nm e bytes) {w : World} : Calls P g #[.slice none 0 0] w fun x W => x = .returned (.slice none 0 0) ∧ W = w := by
  have t4 := L.t4; have a4 := L.a4; have z4 := L.z4; have v4 := L.v4; have z9 := L.z9; have t24 := L.t24; have a24 := L.a24; have z24 := L.z24; have v24 := L.v24
  have u4 := run_underlying L.t4; have u24 := run_underlying L.t24
  have mixed := L.mixed
  have qT : ∀ (w : World) (a : Option Addr) n c, (binOp .eql (ρ.t 24) (.slice a n c) (.slice none 0 0)).run P w = .ok (.bool a.isNone) w := fun w a n c => Lib.run_eql_slice_nil w _ _ _ _ _ _ _ L.t24
  go_enter L.fn, Body2.n16_ntmps ρ
  go_wp2
  all_goals (go_ret; exact ⟨rfl, rfl⟩)

set_option maxHeartbeats 4000000 in
set_option maxRecDepth 100000 in
theorem cln_some (L : ClnLaid P g ρ nm e bytes) {ad : Addr} {n c : Nat} {w w' : World} {r : Value}
    (hr : ∀ ty, (Builtin.append_ #[ρ.t 24, ρ.t 24] ty #[.slice (some ⟨w.heap.size, 0, none⟩) 0 0, .slice (some ad) n c]).run P (w.alloc (.cells #[] (ρ.t 9))) = .ok r w') :
    Calls P g #[.slice (some ad) n c] w fun x W => x = .returned r ∧ W = w' := by
  have t4 := L.t4; have a4 := L.a4; have z4 := L.z4; have v4 := L.v4; have z9 := L.z9; have t24 := L.t24; have a24 := L.a24; have z24 := L.z24; have v24 := L.v24
  have u4 := run_underlying L.t4; have u24 := run_underlying L.t24
  have mixed := L.mixed
  have qT : ∀ (w : World) (a : Option Addr) n c, (binOp .eql (ρ.t 24) (.slice a n c) (.slice none 0 0)).run P w = .ok (.bool a.isNone) w := fun w a n c => Lib.run_eql_slice_nil w _ _ _ _ _ _ _ L.t24
  go_enter L.fn, Body2.n16_ntmps ρ
  go_wp2_with (at_builtin; refine Lib.wpList_append_run _ rfl _ _ _ _ rfl _ _ rfl rfl _ _ (hr _) ?_)
  all_goals (go_ret; exact ⟨rfl, rfl⟩)


theorem prim_clone (L : ClnLaid P g ρ nm e bytes) : PrimOk P g (.clone e bytes) := by
  intro flx args H v H' h
  have hfn : ∃ fn, P.funcs[g]? = some fn ∧ fn.body.isSome = true ∧ fn.name ≠ "runtime.NumGoroutine" := ⟨_, L.fn, rfl, L.nm⟩
  refine ⟨hfn, ?_⟩
  unfold rprim at h
  split at h
  case h_1 => rename_i hpe; cases hpe
  case h_3 => cases h
  rename_i e' bytes' s hpe
  cases hpe
  intro n0 base m w cargs hfl hs hargs hfresh
  rcases cargs with _ | ⟨cs, _ | ⟨_, _⟩⟩
  · exact hargs.elim
  case cons.cons => exact hargs.2.elim
  obtain ⟨hcs, _⟩ := hargs
  unfold rclone at h
  split at h
  · cases h
  rename_i n hn
  obtain ⟨hlen, a, c, rfl⟩ := lenOf_rel (P := P) hcs hn w
  -- a row of no elements is laid ahead
  have hsz1 : (w.alloc (.cells #[] (ρ.t 9))).heap.size = w.heap.size + 1 := by simp
  have hold1 : ∀ c, c < w.heap.size → (w.alloc (.cells #[] (ρ.t 9))).heap[c]? = w.heap[c]? := fun c hc => by
    simp only [World.alloc]
    rw [Array.getElem?_push, if_neg (by omega)]
  have hs1 : Sim n0 base m H (w.alloc (.cells #[] (ρ.t 9))) := sim_world hs (by omega) hold1
  have st1 : Step n0 base flx m H w m H (w.alloc (.cells #[] (ρ.t 9))) := ⟨Ext.refl m, fun b l h1 h2 => by simp [h1] at h2, hs1, rfl, rfl, rfl, by omega, Nat.le_refl _, fun c hc _ => hold1 c hc, fun _ _ h => h⟩
  split at h
  · -- nothing
    rename_i h0
    subst h0
    simp only [Option.some.injEq, Prod.mk.injEq] at h
    obtain ⟨rfl, rfl⟩ := h
    cases a with
    | none =>
      have hc0 : c = 0 := by
        cases s with
        | slice b off k lim =>
          simp only [sliceLen, Option.some.injEq] at hn; subst hn
          obtain ⟨a', cap, hv, hle, l, hm, hcap, ha⟩ := hcs
          cases hv
          rcases ha with ha | ha
          · cases ha
          · exact ha
        | empty => obtain ⟨a', hv⟩ := hcs; cases hv; rfl
        | _ => simp [sliceLen] at hn
      subst hc0
      exact Calls.mono (cln_nil L) fun x W ⟨h1, h2⟩ => by subst h2; exact ⟨_, m, h1, ⟨none, rfl⟩, Step.refl hs⟩
    | some ad =>
      have hr : ∀ ty, (Builtin.append_ #[ρ.t 24, ρ.t 24] ty #[.slice (some ⟨w.heap.size, 0, none⟩) 0 0, .slice (some ad) 0 c]).run P (w.alloc (.cells #[] (ρ.t 9))) = .ok (.slice (some ⟨w.heap.size, 0, none⟩) 0 0) (w.alloc (.cells #[] (ρ.t 9))) := fun ty =>
        (run_app L.t24 L.i9 L.epos L.bpos ty (a := some ⟨w.heap.size, 0, none⟩) (n := 0) (c := 0) (m := 0) (v := .slice (some ad) 0 c) (vs := []) rfl (fun w' _ => by
          simp only [Builtin.firstCells, Nat.zero_mul]; exact loadCells_zero ad w')).1 (Nat.le_refl _) _ (fun ad had => rfl) (fun h => by cases h)
      exact Calls.mono (cln_some L hr) fun x W ⟨h1, h2⟩ => by subst h2; exact ⟨_, m, h1, ⟨_, rfl⟩, st1⟩
  · rename_i h0
    rw [Option.ite_none_right_eq_some] at h
    obtain ⟨⟨hep, hbb, h40⟩, h⟩ := h
    simp only [Option.map_eq_some_iff, Prod.mk.injEq] at h
    obtain ⟨xs, hxs, rfl, rfl⟩ := h
    obtain ⟨ys, y1, y2, y3⟩ := firstCells_rel (P := P) hs1 hcs hxs
    have hyl : ys.length = n * e := by rw [← y1.length]; exact y2
    cases a with
    | none =>
      exfalso
      cases s with
      | slice b off k lim =>
        simp only [sliceLen, Option.some.injEq] at hn; subst hn
        obtain ⟨a', cap, hv, hle, l, hm, hcap, ha⟩ := hcs
        cases hv
        rcases ha with ha | ha
        · cases ha
        · omega
      | empty => simp only [sliceLen, Option.some.injEq] at hn; omega
      | _ => simp [sliceLen] at hn
    | some ad =>
      obtain ⟨G, rest, g1, g2, g3⟩ := (run_app L.t24 L.i9 L.epos L.bpos (ρ.t 24) (a := some ⟨w.heap.size, 0, none⟩) (n := 0) (c := 0) (m := n) (v := .slice (some ad) n c) (w := w.alloc (.cells #[] (ρ.t 9))) (vs := ys) rfl y3).2 (by omega) (by rw [Nat.zero_add, nextslicecap_zero (by omega)]; omega) [] (fun w' _ => by
        simp only [Builtin.firstCells, Nat.zero_mul]; exact loadCells_zero _ w')
      have hr : ∀ ty, (Builtin.append_ #[ρ.t 24, ρ.t 24] ty #[.slice (some ⟨w.heap.size, 0, none⟩) 0 0, .slice (some ad) n c]).run P (w.alloc (.cells #[] (ρ.t 9))) = .ok (.slice (some ⟨(w.alloc (.cells #[] (ρ.t 9))).heap.size, 0, none⟩) (0 + n) G) ((w.alloc (.cells #[] (ρ.t 9))).drew.alloc (.cells (ys ++ rest).toArray (ρ.t 9))) := fun ty => by
        have := g3
        rwa [List.nil_append] at this
      refine Calls.mono (cln_some L hr) fun x W ⟨h1, h2⟩ => ?_
      subst h2
      rw [Nat.zero_add] at h1
      have hres : AppRes flx true m H (w.alloc (.cells #[] (ρ.t 9))) (.slice H.length 0 n none) (H ++ [{ cells := xs, e := e }]) (.slice (some ⟨(w.alloc (.cells #[] (ρ.t 9))).heap.size, 0, none⟩) n G) ((w.alloc (.cells #[] (ρ.t 9))).drew.alloc (.cells (ys ++ rest).toArray (ρ.t 9))) :=
        .push (nk := { cells := xs, e := e }) ⟨rfl, rfl⟩ y1 (by omega) (by
          show (ys ++ rest).length = G * e
          rw [List.length_append, hyl, g2, ← Nat.add_mul]; congr 1; omega)
      obtain ⟨m', a1, a2⟩ := app_step hres hs1 hfl (fun hl => hfresh _ (Nat.le_refl _) hl)
      exact ⟨_, m', h1, a1, st1.trans a2⟩


/-! ### A seat's facts -/

theorem size_of {P : Program} {t : TypeId} {n : Nat} {z : Value} (h : (P.info? t).map (fun i => (i.size, i.zero)) = some (n, some z)) : (∀ w, (Go.sizeOf t).run P w = .ok n w) ∧ ∀ w, (zeroValue t).run P w = .ok z w := by
  cases hi : P.info? t with
  | none => rw [hi] at h; simp at h
  | some i =>
    rw [hi] at h
    simp only [Option.map_some, Option.some.injEq, Prod.mk.injEq] at h
    obtain ⟨rfl, h2⟩ := h
    exact ⟨fun w => run_size hi w, fun w => run_zero hi h2 w⟩
theorem elem_of {P : Program} {t : TypeId} {e bytes : Nat} (h : (P.info? t).map (fun i => (i.size, i.bytes, i.zero.map fun z => z.cells.toList.length)) = some (e, bytes, some e)) :
    (∀ w, (Go.sizeOf t).run P w = .ok e w) ∧ ∃ i z, P.info? t = some i ∧ i.size = e ∧ i.bytes = bytes ∧ i.zero = some z ∧ z.cells.toList.length = e := by
  cases hi : P.info? t with
  | none => rw [hi] at h; simp at h
  | some i =>
    rw [hi] at h
    simp only [Option.map_some, Option.some.injEq, Prod.mk.injEq, Option.map_eq_some_iff] at h
    obtain ⟨rfl, h2, z, h3, h4⟩ := h
    exact ⟨fun w => run_size hi w, i, z, rfl, rfl, h2, h3, h4⟩

theorem InsLaid.of {P : Program} {g : Nat} {ρ : Ren} {nm : String} {e bytes : Nat} {fo : Func} (mixed : P.follows .mixedOrders = true) (fn : P.funcs[g]? = some { Body2.n22 ρ with name := nm }) (hnm : nm ≠ "runtime.NumGoroutine")
    (o1 : P.funcs[ρ.f 29]? = some fo) (o2 : (fo.name == "runtime.NumGoroutine") = false) (o3 : fo.body.isNone = true) (o4 : Extern.findNext fo = none) (o5 : Extern.find fo = some (Extern.SlicesOverlaps.overlaps #[(ρ.t 24), (ρ.t 24)] #[(ρ.t 4)]))
    (t3 : P.underlying (ρ.t 3) = some (TypeDesc.int IntKind.i64)) (t4 : P.underlying (ρ.t 4) = some (TypeDesc.bool)) (t24 : P.underlying (ρ.t 24) = some (TypeDesc.slice (ρ.t 9)))
    (i3 : (P.info? (ρ.t 3)).map (fun i => (i.size, i.zero)) = some (1, some (Value.int IntKind.i64 0))) (i4 : (P.info? (ρ.t 4)).map (fun i => (i.size, i.zero)) = some (1, some (Value.bool false))) (i24 : (P.info? (ρ.t 24)).map (fun i => (i.size, i.zero)) = some (1, some (Value.slice none 0 0)))
    (i9 : (P.info? (ρ.t 9)).map (fun i => (i.size, i.bytes, i.zero.map fun z => z.cells.toList.length)) = some (e, bytes, some e)) (epos : 0 < e) (bpos : 0 < bytes) : InsLaid P g ρ nm e bytes where
  mixed := mixed
  fn := fn
  nm := hnm
  ov := ⟨fo, o1, o2, o3, o4, o5⟩
  t3 := t3
  a3 := isAgg_plain t3 rfl
  z3 := (size_of i3).1
  v3 := (size_of i3).2
  t4 := t4
  a4 := isAgg_plain t4 rfl
  z4 := (size_of i4).1
  v4 := (size_of i4).2
  t24 := t24
  a24 := isAgg_plain t24 rfl
  z24 := (size_of i24).1
  v24 := (size_of i24).2
  z9 := (elem_of i9).1
  i9 := (elem_of i9).2
  epos := epos
  bpos := bpos

theorem ClnLaid.of {P : Program} {g : Nat} {ρ : Ren} {nm : String} {e bytes : Nat} (mixed : P.follows .mixedOrders = true) (fn : P.funcs[g]? = some { Body2.n16 ρ with name := nm }) (hnm : nm ≠ "runtime.NumGoroutine")
    (t4 : P.underlying (ρ.t 4) = some (TypeDesc.bool)) (t24 : P.underlying (ρ.t 24) = some (TypeDesc.slice (ρ.t 9)))
    (i4 : (P.info? (ρ.t 4)).map (fun i => (i.size, i.zero)) = some (1, some (Value.bool false))) (i24 : (P.info? (ρ.t 24)).map (fun i => (i.size, i.zero)) = some (1, some (Value.slice none 0 0)))
    (i9 : (P.info? (ρ.t 9)).map (fun i => (i.size, i.bytes, i.zero.map fun z => z.cells.toList.length)) = some (e, bytes, some e)) (epos : 0 < e) (bpos : 0 < bytes) : ClnLaid P g ρ nm e bytes where
  mixed := mixed
  fn := fn
  nm := hnm
  t4 := t4
  a4 := isAgg_plain t4 rfl
  z4 := (size_of i4).1
  v4 := (size_of i4).2
  t24 := t24
  a24 := isAgg_plain t24 rfl
  z24 := (size_of i24).1
  v24 := (size_of i24).2
  z9 := (elem_of i9).1
  i9 := (elem_of i9).2
  epos := epos
  bpos := bpos

end Go.RM

