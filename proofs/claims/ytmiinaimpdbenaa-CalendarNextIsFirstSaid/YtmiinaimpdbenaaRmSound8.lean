/-
  Slices of slices and of strings; len, min, max, copy, clear.
-/
import Derived.Test.YtmiinaimpdbenaaRmSound7
namespace Go.RM
set_option linter.unusedSimpArgs false

variable {P : Program}

section
variable {ρ : Operand → Value} {o : Oper} {n0 base fl : Nat} {m : BMap} {H H' : Heap} {w : World} {X : RX → AV} {res : Operand → Option RX} {r : ROp} {v : AV} {call : Nat → Nat → List AV → Heap → Option (AV × Heap)} {free : Bool} {ap : List RX}

theorem optX_rel (hX : ∀ x rx, res x = some rx → VRel m (X rx) (ρ x)) {x : Option Operand} {r : Option RX} (h : optX res x = some r) :
    (x = none ∧ r = none) ∨ ∃ y rx, x = some y ∧ r = some rx ∧ VRel m (X rx) (ρ y) := by
  cases x with
  | none => simp only [optX, Option.some.injEq] at h; exact .inl ⟨rfl, h.symm⟩
  | some y =>
    simp only [optX, Option.map_eq_some_iff] at h
    obtain ⟨rx, h1, rfl⟩ := h
    exact .inr ⟨y, rx, rfl, rfl, hX _ _ h1⟩

/-- A bound, where there is one, and what it is in the model. -/
theorem bound_rel (hX : ∀ x rx, res x = some rx → VRel m (X rx) (ρ x)) {x : Option Operand} {r : Option RX} (h : optX res x = some r) {d n : Nat} (hb : boundOf (r.map X) d = some n) :
    (x = none ∧ r = none ∧ n = d) ∨ ∃ y k i, x = some y ∧ r.isSome = true ∧ ρ y = .int k i ∧ 0 ≤ i ∧ i.toNat = n := by
  rcases optX_rel hX h with ⟨rfl, rfl⟩ | ⟨y, rx, rfl, rfl, hv⟩
  · simp only [Option.map_none, boundOf, Option.some.injEq] at hb
    exact .inl ⟨rfl, rfl, hb.symm⟩
  · simp only [Option.map_some] at hb
    unfold boundOf at hb
    split at hb
    · rename_i he; simp at he
    · rename_i k i he
      split at hb
      · rename_i h0
        simp only [Option.some.injEq] at hb he
        rw [he] at hv
        exact .inr ⟨y, k, i, rfl, rfl, hv.int_inv, h0, hb⟩
      · simp at hb
    · simp at hb

theorem run_sliceBound {v : Value} {k : IntKind} {i : Int} {y n : Nat} (hv : v = .int k i) (h0 : 0 ≤ i) (hn : i.toNat = n) (hy : n ≤ y) (c : BoundsCode) (w : World) : (Instr.sliceBound v y c).run P w = .ok n w := by
  subst hv
  simp only [Instr.sliceBound, Sem.run_bind, run_asIntOf, Result.andThen_ok, Sem.run_ite, if_pos (show 0 ≤ i ∧ i ≤ (y : Int) by omega), Sem.run_pure, hn]

/-- The three bounds of a slice expression, reckoned. -/
theorem run_sliceBounds (hX : ∀ x rx, res x = some rx → VRel m (X rx) (ρ x)) {lo hi mx : Option Operand} {rl rh rm : Option RX}
    (h1 : optX res lo = some rl) (h2 : optX res hi = some rh) (h3 : optX res mx = some rm) (hmx : mx.isSome = true → hi.isSome = true) {len cap l h q : Nat} {isS : Bool}
    (b1 : boundOf (rl.map X) 0 = some l) (b2 : boundOf (rh.map X) len = some h) (b3 : mx.isSome = true → boundOf (rm.map X) 0 = some q) (b4 : mx = none → q = cap)
    (c1 : l ≤ h) (c2 : h ≤ q) (c3 : q ≤ cap) (w : World) : (Instr.sliceBounds isS len cap (lo.map ρ) (hi.map ρ) (mx.map ρ)).run P w = .ok (l, h, q) w := by
  have e1 := bound_rel hX h1 b1
  have e2 := bound_rel hX h2 b2
  cases mx with
  | none =>
    have hq := b4 rfl
    subst hq
    rcases e1 with ⟨rfl, _, rfl⟩ | ⟨y, k, i, rfl, _, hy, hi0, hin⟩ <;> rcases e2 with ⟨rfl, _, rfl⟩ | ⟨y', k', i', rfl, _, hy', hi0', hin'⟩
    · simp [Instr.sliceBounds]
    · simp [Instr.sliceBounds, run_sliceBound hy' hi0' hin' c2]
    · simp [Instr.sliceBounds, run_sliceBound hy hi0 hin c1]
    · simp [Instr.sliceBounds, run_sliceBound hy' hi0' hin' c2, run_sliceBound hy hi0 hin c1]
  | some mx =>
    have e3 := bound_rel hX h3 (b3 rfl)
    rcases e3 with ⟨h, _⟩ | ⟨y3, k3, i3, h3', _, hy3, hi3, hin3⟩
    · simp at h
    · simp only [Option.some.injEq] at h3'
      subst h3'
      rcases e2 with ⟨rfl, _, rfl⟩ | ⟨y', k', i', rfl, _, hy', hi0', hin'⟩
      · simp at hmx
      · rcases e1 with ⟨rfl, _, rfl⟩ | ⟨y, k, i, rfl, _, hy, hi0, hin⟩
        · simp [Instr.sliceBounds, run_sliceBound hy' hi0' hin' c2, run_sliceBound hy3 hi3 hin3 c3]
        · simp [Instr.sliceBounds, run_sliceBound hy' hi0' hin' c2, run_sliceBound hy3 hi3 hin3 c3, run_sliceBound hy hi0 hin c1]

theorem op_slice {t : TypeId} {x : Operand} {lo hi mx : Option Operand} (ho : o.op = .slice t x lo hi mx) (hc : compileOp P res ap (.slice t x lo hi mx) = some r) (hr : rop call fl free X H r = some (v, H'))
    (hX : ∀ x rx, res x = some rx → VRel m (X rx) (ρ x)) (hs : Sim n0 base m H w) : OpOk P ρ o n0 base fl m H w v H' := by
  simp only [compileOp] at hc
  split at hc
  · rename_i e rx rl rh rm hu h1 hl hh hm
    split at hc
    · simp at hc
    · rename_i hmh
      simp only [Option.map_eq_some_iff] at hc
      obtain ⟨n, hsz, rfl⟩ := hc
      obtain ⟨i, hi', hi2⟩ := szOf_info hsz
      have hmx : mx.isSome = true → hi.isSome = true := fun h => by
        rcases optX_rel hX hm with ⟨rfl, rfl⟩ | ⟨_, _, rfl, rfl, _⟩
        · simp at h
        · rcases optX_rel hX hh with ⟨rfl, rfl⟩ | ⟨_, _, rfl, rfl, _⟩
          · simp at hmh
          · rfl
      have hms : mx.isSome = rm.isSome := by
        rcases optX_rel hX hm with ⟨rfl, rfl⟩ | ⟨_, _, rfl, rfl, _⟩ <;> rfl
      have hx := hX _ _ h1
      simp only [rop, Option.map_eq_some_iff, Prod.mk.injEq] at hr
      obtain ⟨v0, hv, rfl, rfl⟩ := hr
      have hexec : ∀ (a : Option Addr) (len cap l h q : Nat), ρ x = .slice a len cap → (Instr.sliceBounds true len cap (lo.map ρ) (hi.map ρ) (mx.map ρ)).run P w = .ok (l, h, q) w →
          (execOp ρ o).run P w = .ok (.value (.slice (if q = l then a else a.map (·.add (l * n))) (h - l) (q - l))) w := fun a len cap l h q hxv hb => by
        simp only [execOp, ho, Instr.sliceAt, Sem.run_bind, run_und hu, Result.andThen_ok, Instr.slice, hxv, hb, run_size hi', hi2, Sem.run_pure]
      have bmx : ∀ d q, boundOf (rm.map X) d = some q → rm.isSome = true → boundOf (rm.map X) 0 = some q := fun d q h hs => by
        cases rm with
        | none => simp at hs
        | some rm => rw [← h]; simp only [Option.map_some]; cases X rm <;> rfl
      unfold rslice at hv
      split at hv
      · rename_i hxe
        rw [hxe] at hx
        obtain ⟨a, hxv⟩ := hx
        split at hv
        · rename_i g1 g2 g3
          simp only [Option.some.injEq] at hv; subst hv
          have hb := run_sliceBounds (P := P) (isS := true) hX hl hh hm hmx (len := 0) (cap := 0) g1 g2 (fun h => bmx _ _ g3 (by rw [← hms]; exact h)) (fun _ => rfl) (Nat.le_refl 0) (Nat.le_refl 0) (Nat.le_refl 0) w
          exact ok_value hs (hexec a 0 0 0 0 0 hxv hb) ⟨a, by simp⟩
        · simp at hv
      · rename_i b off len lim hxe
        rw [hxe] at hx
        obtain ⟨a, cap, hxv, hcap, ll, hml, hco, haa⟩ := hx
        split at hv
        · rename_i l h q g1 g2 g3
          split at hv
          · rename_i hcond
            obtain ⟨d1, d2, d3, d4⟩ := hcond
            simp only [Option.some.injEq] at hv; subst hv
            have hlim : lim.getD len ≤ cap := by
              cases lim with
              | none => exact hcap
              | some c => simp [hco.1]
            -- the bound that the model takes: the third one, or the capacity
            obtain ⟨Q, hQs, hQn⟩ : ∃ Q, (mx.isSome = true → Q = q) ∧ (mx = none → Q = cap) := by
              cases mx with
              | none => exact ⟨cap, by simp, fun _ => rfl⟩
              | some _ => exact ⟨q, fun _ => rfl, by simp⟩
            have hq : mx = none → q = lim.getD len := fun h => by
              have : rm = none := by rw [h] at hms; cases rm <;> simp at hms ⊢
              subst this
              simp only [Option.map_none, boundOf, Option.some.injEq] at g3
              exact g3.symm
            have hqQ : q ≤ Q := by
              cases mx with
              | none => rw [hQn rfl, hq rfl]; exact hlim
              | some _ => rw [hQs rfl]; exact Nat.le_refl _
            have hQc : Q ≤ cap := by
              cases mx with
              | none => rw [hQn rfl]; exact Nat.le_refl _
              | some _ => rw [hQs rfl]; omega
            have hb := run_sliceBounds (P := P) (isS := true) hX hl hh hm hmx (len := len) (cap := cap) (q := Q) g1 g2 (fun h => by rw [hQs h]; exact bmx _ _ g3 (by rw [← hms]; exact h)) hQn d1 (by omega) hQc w
            refine ok_value hs (hexec a len cap l h Q hxv hb) ⟨_, _, rfl, by omega, ?_⟩
            have hboth : (rm.isSome || lim.isSome) = true → q = Q := fun h => by
              cases mx with
              | some _ => rw [hQs rfl]
              | none =>
                have hr0 : rm = none := by cases rm <;> simp at hms ⊢
                subst hr0
                cases lim with
                | none => simp at h
                | some c =>
                  rw [hQn rfl, hq rfl]
                  simp [hco.1]
            have hle : l = 0 ∨ ll.e = n := by
              rcases d4 with h | h
              · exact .inl h
              · right
                simp only [Option.map_eq_some_iff] at h
                obtain ⟨kb, hkb, hke⟩ := h
                rw [hs.es b kb ll hkb hml, hke]
            have hoff : ∀ x, l ≤ x → off + l * n + (x - l) * ll.e = off + x * ll.e := fun x hx => by
              rcases hle with h | h
              · subst h; simp
              · rw [h, Nat.add_assoc, ← Nat.add_mul]; congr 2; omega
            refine ⟨ll, hml, ?_, ?_⟩
            · split
              · rename_i hsome
                have hqe := hboth (by simpa using hsome)
                refine ⟨by omega, ?_⟩
                rw [hoff q (by omega)]
                cases lim with
                | none =>
                  have hco' : off + cap * ll.e = ll.room := hco
                  have : q * ll.e ≤ cap * ll.e := Nat.mul_le_mul_right _ (by omega)
                  omega
                | some c =>
                  obtain ⟨e1, e2⟩ := hco
                  have : q * ll.e ≤ c * ll.e := Nat.mul_le_mul_right _ (by omega)
                  omega
              · rename_i hnone
                have hr0 : rm = none := by cases rm <;> simp at hnone ⊢
                have hl0 : lim = none := by cases lim <;> simp at hnone ⊢
                have hm0 : mx = none := by rw [hr0] at hms; cases mx <;> simp at hms ⊢
                subst hl0
                have hco' : off + cap * ll.e = ll.room := hco
                show off + l * n + (Q - l) * ll.e = ll.room
                rw [hoff Q (by omega), hQn hm0]
                exact hco'
            · by_cases hz : Q = l
              · right; omega
              · rcases haa with ha | h0
                · left
                  rw [if_neg hz, ha]
                  simp only [Option.map_some, add_mk, Nat.add_assoc]
                · omega
          · simp at hv
        · simp at hv
      · simp at hv
  · rename_i rx rl rh hu h1 hl hh hm
    simp only [Option.some.injEq] at hc; subst hc
    have hx := hX _ _ h1
    simp only [rop] at hr
    split at hr
    · rename_i s hxe
      rw [hxe] at hx
      split at hr
      · rename_i l h g1 g2
        split at hr
        · rename_i hcond
          simp only [Option.some.injEq, Prod.mk.injEq] at hr
          obtain ⟨rfl, rfl⟩ := hr
          have hm0 : mx = none := by
            rcases optX_rel hX hm with ⟨h, _⟩ | ⟨_, _, _, h, _⟩
            · exact h
            · simp at h
          subst hm0
          have hb := run_sliceBounds (P := P) (isS := false) hX hl hh hm (by simp) (len := s.size) (cap := s.size) (q := s.size) g1 g2 (by simp) (fun _ => rfl) hcond.1 hcond.2 (Nat.le_refl _) w
          refine ok_value hs (v' := .string (s.extract l h)) ?_ rfl
          simp only [Option.map_none] at hb
          simp only [execOp, ho, Instr.sliceAt, Sem.run_bind, run_und hu, Result.andThen_ok, Instr.slice, hx.str_inv, Option.map_none, Option.isSome_none, Bool.false_eq_true, if_false, hb, Sem.run_pure]
        · simp at hr
      · simp at hr
    · simp at hr
  · simp at hc

end
end Go.RM
