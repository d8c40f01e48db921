import Derived.Test.YtlcoalimkpjjpaaRmSound12
import Derived.LoopN
import Derived.Laws.Sem
/-
  A region: one operation's step, whatever it is.
-/
namespace Go.RM
set_option linter.unusedSimpArgs false
set_option linter.unusedVariables false

theorem run_enter {P : Program} {f : FuncId} {fn : Func} (hf : P.funcs[f]? = some fn) (hb : fn.body.isSome = true) (hname : fn.name ≠ "runtime.NumGoroutine") (args : Array Value) (w : World) :
    (callFunc f args).run P w = .ok (.enter f args) w := by
  obtain ⟨c, hc⟩ := Option.isSome_iff_exists.1 hb
  simp [callFunc, hf, hname, hc]

theorem solid_touches {o : Oper} {free : Bool} (h : solidB o free = true) : touches o.op = true ∧ isLoad o.op = false := by
  unfold solidB at h
  cases hop : o.op with
  | call c =>
    rw [hop] at h
    obtain ⟨cal, args, ts⟩ := c
    cases cal with
    | builtin b => cases b <;> simp_all [touches, isLoad, isStore, mustWrite, isCallOp, isAppendOp]
    | value f => simp [touches, isLoad]
    | invoke a b => simp [touches, isLoad]
  | _ => rw [hop] at h; simp_all [touches, isLoad, isStore, mustWrite, isCallOp, isAppendOp]

theorem rop_fl {call : Nat → Nat → List AV → Heap → Option (AV × Heap)} {fl fl' : Nat} {free : Bool} {X : RX → AV} {H : Heap} {r : ROp} {op : Op} (hk : kindOk op r = true)
    (h1 : isStore op = false) (h2 : mustWrite op = false) (h3 : isCallOp op = false) (h4 : isAppendOp op = false) : rop call fl free X H r = rop call fl' free X H r := by
  cases r <;> simp only [kindOk, h1, h2, h3, h4, Bool.false_eq_true] at hk <;> rfl

/-- A heap of which nothing is in force. -/
def deaden (H : Heap) : Heap := H.map killed
theorem deaden_get (H : Heap) (b : Nat) : (deaden H)[b]? = (H[b]?).map killed := by simp [deaden]
theorem deaden_act (H : Heap) (b : Nat) : (deaden H).act b = none := by
  cases h : H[b]? with
  | none => unfold Heap.act; rw [deaden_get, h]; rfl
  | some k => exact killed_act (k := k) (by rw [deaden_get, h]; rfl)

section
variable {P : Program} {vars : List Nat} {nt : Nat} {draw : Bool} {all : List Oper} {l : List ROper} {call : Nat → Nat → List AV → Heap → Option (AV × Heap)} {fl : Nat} {E L : List AV} {Hs : Nat → Heap} {n0 base : Nat}
variable {m0 : BMap} {w0 : World} {S : Nat → Bool} {p d : Nat} {m : BMap} {a : Act} {w : World}

theorem Act.put_defers' (a : Act) (x : Option Tmp) (v : Value) : (a.put x v).defers = a.defers := by cases x <;> rfl

theorem wpOp_of_ok {Q : Exit → Act → World → Prop} {K : Act → World → Prop} {i : Nat} {o : Oper} (ho : all[i]? = some o) (hw : Region.wanted o (yielded all.toArray a.tmps) = true)
    {fl' : Nat} {H H' : Heap} {v : AV} (h : OpOk P a.eval o n0 base fl' m H w v H')
    (hK : ∀ v' w' m', VRel m' v v' → Step n0 base fl' m H w m' H' w' → K (a.put o.dst v') w') : wpOp P all.toArray Q i K a w := by
  obtain ⟨v', w', m', h1, h2, h3⟩ := h
  have := hK v' w' m' h2 h3
  unfold wpOp
  simp only [List.getElem?_toArray, ho, hw, if_true, Oper.wp]
  left
  rcases h1 with h1 | ⟨h1, rfl⟩
  · rw [h1]; exact this
  · rw [h1]; exact this

theorem run_callOp {ρ : Operand → Value} {o : Oper} {c : Call} {x : Operand} {g : FuncId} {cs : List Value} (ho : o.op = .call c) (hc : c.callee = .value x) (hx : ρ x = .func (.func g) #[] ⟨cs⟩) (w : World) :
    (execOp ρ o).run P w = (callFunc g ⟨c.args.toList.map ρ ++ cs⟩).run P w := by
  have h1 : c.args.map ρ = ⟨c.args.toList.map ρ⟩ := by rw [← Array.toList_inj]; simp
  simp only [execOp, ho, resolve, hc, hx, Deferred.ofValue, Sem.run_bind, Sem.run_pure, Result.andThen_ok, invoke, h1]
  congr 2
  simp

theorem wpOp_call {Q : Exit → Act → World → Prop} {K : Act → World → Prop} {i : Nat} {o : Oper} (ho : all[i]? = some o) (hw : Region.wanted o (yielded all.toArray a.tmps) = true)
    {res : Operand → Option RX} {ap : List RX} {r : ROp} {X : RX → AV} {free : Bool} {H H' : Heap} {v : AV} (hco : compileOp P res ap o.op = some r) (hcl : isCallOp o.op = true) (hrun : rop call fl free X H r = some (v, H'))
    (hX : ∀ x rx, res x = some rx → VRel m (X rx) (a.eval x)) (hsound : CallSound P call) (hfl : n0 ≤ if free then fl else H.length) (hs : Sim n0 base m H w) (hfresh : ∀ b, H.length ≤ b → b < H'.length → m b = none)
    (hK : ∀ v' w' m', VRel m' v v' → Step n0 base (if free then fl else H.length) m H w m' H' w' → K (a.put o.dst v') w') : wpOp P all.toArray Q i K a w := by
  have key : ∀ (g : Nat) (args : List AV) (cargs : List Value), call (if free then fl else H.length) g args H = some (v, H') → VRels m args cargs →
      (∀ fn, P.funcs[g]? = some fn → fn.body.isSome = true → fn.name ≠ "runtime.NumGoroutine" → (execOp a.eval o).run P w = .ok (.enter g ⟨cargs⟩) w) → wpOp P all.toArray Q i K a w := fun g args cargs hcall hargs hrn => by
    obtain ⟨⟨fn, f1, f2, f3⟩, hh⟩ := hsound _ _ _ _ _ _ hcall
    have hcalls := hh n0 base m w cargs hfl hs hargs hfresh
    unfold wpOp
    simp only [List.getElem?_toArray, ho, hw, if_true, Oper.wp]
    left
    rw [hrn fn f1 f2 f3, Oper.upon_enter]
    refine Calls.mono hcalls fun e w' he => ?_
    obtain ⟨v', m', rfl, h1, h2⟩ := he
    exact hK v' w' m' h1 h2
  cases hop : o.op with
  | call c =>
    rw [hop] at hco hcl
    obtain ⟨cal, args, ts⟩ := c
    cases cal with
    | builtin b => simp [isCallOp] at hcl
    | invoke a b => simp [compileOp] at hco
    | value x =>
      by_cases hxf : ∃ f, x = .func f
      · obtain ⟨f, rfl⟩ := hxf
        simp only [compileOp, Option.map_eq_some_iff] at hco
        obtain ⟨l', hl', rfl⟩ := hco
        refine key f _ _ hrun (resL_rel hX hl') fun fn f1 f2 f3 => ?_
        rw [run_callOp (cs := []) hop rfl rfl, run_enter f1 f2 f3]
        simp
      · have hco2 : (match res x, resL res args.toList with | some a, some l => some (ROp.call a l) | _, _ => none) = some r := by
          cases x <;> simp only [compileOp] at hco <;> first | exact hco | exact absurd ⟨_, rfl⟩ hxf
        split at hco2
        · rename_i rx l' h1 h2
          simp only [Option.some.injEq] at hco2; subst hco2
          simp only [rop] at hrun
          have hx := hX _ _ h1
          split at hrun
          · rename_i g caps hXx
            rw [hXx] at hx
            obtain ⟨cs, hcs, hrel⟩ := hx
            refine key g _ _ hrun (VRels.append (resL_rel hX h2) hrel) fun fn f1 f2 f3 => ?_
            rw [run_callOp hop rfl hcs, run_enter f1 f2 f3]
          · simp at hrun
        · simp at hco2
  | _ => rw [hop] at hcl; simp [isCallOp] at hcl

/-! ### Loads -/

theorem ls_of {j : Nat} {o : Oper} (h : lsOnly all = true) (ho : all[j]? = some o) : touches o.op = false ∨ isLoad o.op = true ∨ isStore o.op = true := by
  have := List.all_eq_true.1 h o (List.mem_of_getElem? ho)
  simpa [or_assoc] using this

theorem apartB_ne {H : Heap} {b bs off : Nat} : ∀ {l : List AV}, apartB H bs l = true → AV.ptr b off ∈ l → b ≠ bs ∧ notKid H b bs = true
  | .ptr b' o' :: l, h, hm => by
    simp only [apartB, Bool.and_eq_true, bne_iff_ne] at h
    rcases List.mem_cons.1 hm with e | e
    · cases e; exact h.1
    · exact apartB_ne h.2 e
  | .int .. :: _, h, _ => by simp [apartB] at h
  | .bool _ :: _, h, _ => by simp [apartB] at h
  | .str _ :: _, h, _ => by simp [apartB] at h
  | .nilptr :: _, h, _ => by simp [apartB] at h
  | .slice .. :: _, h, _ => by simp [apartB] at h
  | .empty :: _, h, _ => by simp [apartB] at h
  | .func .. :: _, h, _ => by simp [apartB] at h
  | .nilfunc :: _, h, _ => by simp [apartB] at h
  | .agg _ :: _, h, _ => by simp [apartB] at h
  | .tuple _ :: _, h, _ => by simp [apartB] at h

theorem load_inv {res : Operand → Option RX} {ap : List RX} {op : Op} {r : ROp} (hco : compileOp P res ap op = some r) (h : isLoad op = true) : ∃ t x sz rx, op = .load t x ∧ r = .load sz rx ∧ res x = some rx := by
  cases op with
  | load t x =>
    simp only [compileOp] at hco
    split at hco
    · rename_i sz rx h1 h2
      simp only [Option.some.injEq] at hco
      exact ⟨t, x, sz, rx, rfl, hco.symm, h2⟩
    · simp at hco
  | _ => simp [isLoad] at h

theorem store_inv {res : Operand → Option RX} {ap : List RX} {op : Op} {r : ROp} (hco : compileOp P res ap op = some r) (h : isStore op = true) : ∃ n x v, r = .store n x v ap := by
  cases op with
  | store t x v =>
    simp only [compileOp] at hco
    split at hco
    · rename_i n a b h1 h2 h3
      simp only [Option.some.injEq] at hco
      exact ⟨n, a, b, hco.symm⟩
    · simp at hco
  | _ => simp [isStore] at h

/-- A step beside a load, in a region of loads and stores, leaves the load's block alone. -/
theorem Ctx.keeps (C : Ctx P vars nt draw all l call fl E L Hs n0) {i s : Nat} {o : Oper} {t : TypeId} {x : Operand} {rx : RX} {b off : Nat} (ho : all[i]? = some o) (hop : o.op = .load t x)
    (hres : resAt vars draw (ancs [] all) all i x = some rx) (hev : RX.ev (L.take i) E rx = .ptr b off) (hls : lsOnly all = true) (hs : s < all.length) (hun : solidAt all l s → ordB draw (ancs [] all) s i = false) :
    (Hs (s + 1))[b]? = (Hs s)[b]? ∧ ∀ k c, (Hs s)[b]? = some k → k.kid = some c → (Hs (s + 1))[c]? = (Hs s)[c]? := by
  obtain ⟨os, hos⟩ : ∃ o, all[s]? = some o := ⟨_, List.getElem?_eq_getElem hs⟩
  obtain ⟨rs, hrs, hc, hst⟩ := C.comp s os hos
  rcases hst with ⟨_, v, _, hrun⟩ | ⟨_, _, h⟩
  · obtain ⟨ap, hap, hco, _⟩ := hc.code
    rcases ls_of hls hos with h | h | h
    · rw [(rop_pure (touches_pure hco h) hrun).1]; exact ⟨rfl, fun _ _ _ _ => rfl⟩
    · obtain ⟨_, _, sz, rx', _, hr, _⟩ := load_inv hco h
      rw [hr] at hrun
      simp only [rop] at hrun
      split at hrun
      · simp only [Option.map_eq_some_iff, Prod.mk.injEq] at hrun
        obtain ⟨_, _, _, h⟩ := hrun
        rw [h]; exact ⟨rfl, fun _ _ _ _ => rfl⟩
      · simp at hrun
    · have hsol : solidAt all l s := ⟨os, rs, hos, hrs, by simp [solidB, h]⟩
      have hunord := hun hsol
      rw [if_pos h] at hap
      have hne : s ≠ i := fun e => by
        subst e; rw [hos] at ho; cases ho
        rw [hop] at h; simp [isStore] at h
      rcases apartOf_ord hap i o ho (by simpa using Ne.symm hne) (by rw [hop]; rfl) with h' | ⟨t', x', y, h1, h2, h3⟩
      · rw [Nat.zero_add, hunord] at h'; simp at h'
      · rw [hop] at h1; cases h1
        rw [Nat.zero_add, hres] at h2; cases h2
        obtain ⟨n, xs, vs, hr⟩ := store_inv hco h
        rw [hr] at hrun
        simp only [rop] at hrun
        split at hrun
        · rename_i bs offs hbs
          split at hrun
          · rename_i hcond
            simp only [Option.map_eq_some_iff, Prod.mk.injEq] at hrun
            obtain ⟨H', hput, _, rfl⟩ := hrun
            obtain ⟨hb, hkid⟩ := apartB_ne hcond.2 (List.mem_map.2 ⟨.var y, h3, hev⟩)
            unfold rput at hput
            split at hput
            · split at hput
              · simp only [Option.some.injEq] at hput
                refine ⟨by rw [← hput, List.getElem?_set_ne (by omega)], fun k c hk hc => ?_⟩
                have hcb : c ≠ bs := fun e => by
                  unfold notKid at hkid
                  split at hkid
                  · rename_i k' hk'
                    have := act_get hk'
                    rw [hk] at this; cases this
                    rw [hc, e] at hkid; simp at hkid
                  · cases hkid
                rw [← hput, List.getElem?_set_ne (by omega)]
              · simp at hput
            · simp at hput
          · simp at hrun
        · simp at hrun
  · rw [h]; exact ⟨rfl, fun _ _ _ _ => rfl⟩

theorem Ctx.keepsTo (C : Ctx P vars nt draw all l call fl E L Hs n0) {i : Nat} {o : Oper} {t : TypeId} {x : Operand} {rx : RX} {b off : Nat} (ho : all[i]? = some o) (hop : o.op = .load t x)
    (hres : resAt vars draw (ancs [] all) all i x = some rx) (hev : RX.ev (L.take i) E rx = .ptr b off) (hls : lsOnly all = true) {q : Nat} : ∀ {r : Nat}, q ≤ r → r ≤ all.length → (∀ s, q ≤ s → s < r → solidAt all l s → ordB draw (ancs [] all) s i = false) → (Hs r)[b]? = (Hs q)[b]? ∧ ∀ k c, (Hs q)[b]? = some k → k.kid = some c → (Hs r)[c]? = (Hs q)[c]? := by
  intro r
  induction r with
  | zero => intro h _ _; have : q = 0 := by omega
            rw [this]; exact ⟨rfl, fun _ _ _ _ => rfl⟩
  | succ r ih =>
    intro h1 h2 h3
    by_cases e : q = r + 1
    · rw [e]; exact ⟨rfl, fun _ _ _ _ => rfl⟩
    · obtain ⟨a1, a2⟩ := C.keeps ho hop hres hev hls (by omega) (h3 r (by omega) (by omega))
      obtain ⟨b1, b2⟩ := ih (by omega) (by omega) fun s g1 g2 => h3 s g1 (by omega)
      exact ⟨a1.trans b1, fun k c hk hc => (a2 k c (by rw [b1]; exact hk) hc).trans (b2 k c hk hc)⟩

theorem act_same2 {H H' : Heap} {b : Nat} (h : H'[b]? = H[b]?) (hk : ∀ k c, H[b]? = some k → k.kid = some c → H'[c]? = H[c]?) : H'.act b = H.act b := by
  unfold Heap.act
  rw [h]
  cases hb : H[b]? with
  | none => rfl
  | some k =>
    simp only
    have : H'.rev k = H.rev k := by
      unfold Heap.rev
      cases hc : k.kid with
      | none => rfl
      | some c => simp only [hk k c hb hc]
    rw [this]

theorem same_symm {H H' : Heap} {b : Nat} (h : H'[b]? = H[b]? ∧ ∀ k c, H[b]? = some k → k.kid = some c → H'[c]? = H[c]?) : H[b]? = H'[b]? ∧ ∀ k c, H'[b]? = some k → k.kid = some c → H[c]? = H'[c]? :=
  ⟨h.1.symm, fun k c hk hc => (h.2 k c (by rw [← h.1]; exact hk) hc).symm⟩

/-- The load sees, in the world as it is, what it sees at its own place. -/
theorem Inv.loadAt (C : Ctx P vars nt draw all l call fl E L Hs n0) (I : Inv vars nt draw all l fl E L Hs n0 base m0 w0 S p d m a w) {i : Nat} {o : Oper} {ro : ROper} (ho : all[i]? = some o) (hro : l[i]? = some ro) (hc : Comp P vars nt draw (ancs [] all) all i o ro)
    (hr : Ready draw all S i) (hld : isLoad o.op = true) {v : AV} (hrun : rop call fl ro.free (RX.ev (L.take i) E) (Hs i) ro.op = some (v, Hs (i + 1))) :
    ∃ G, n0 ≤ G.length ∧ Sim n0 base m G w ∧ rop call G.length ro.free (RX.ev (L.take i) E) G ro.op = some (v, G) := by
  have hil : i < all.length := (List.getElem?_eq_some_iff.1 ho).1
  obtain ⟨ap, hap, hco, hls0⟩ := hc.code
  obtain ⟨t, x, sz, rx, hop, hrop, hres⟩ := load_inv hco hld
  have hlow : ∀ j, j ≤ all.length → n0 ≤ (Hs j).length := fun j hj => Nat.le_trans C.low0 (C.len (Nat.zero_le j) hj)
  rw [hrop] at hrun ⊢
  simp only [rop] at hrun ⊢
  split at hrun
  · rename_i b off hev
    simp only [Option.map_eq_some_iff, Prod.mk.injEq] at hrun
    obtain ⟨v0, hv0, rfl, _⟩ := hrun
    by_cases hin : p ≤ i ∧ i ≤ p + d
    · exact ⟨Hs i, hlow i (by omega), I.sim C hin.1 hin.2, by simp only [hev, hv0, Option.map_some]⟩
    · have hnsi : ¬ solidAt all l i := fun ⟨o', r', a1, a2, a3⟩ => by
        rw [ho] at a1; cases a1
        have := (solid_touches a3).2; rw [hld] at this; simp at this
      -- a solid operation between: it is open against the load
      have hopen : ∀ s, solidAt all l s → (i < s ∧ s < p) ∨ (p ≤ s ∧ s < i) → ordB draw (ancs [] all) s i = false := fun s hs hw => by
        cases ho' : ordB draw (ancs [] all) s i with
        | false => rfl
        | true =>
          exfalso
          rcases pre_of_ord ho' with ⟨h, hp⟩ | ⟨h, hp⟩
          · rcases hw with ⟨_, h2⟩ | ⟨_, h2⟩
            · have := I.closed s i ((I.solid s hs).2 h2) hp
              rw [hr.un] at this; simp at this
            · omega
          · rcases hw with ⟨h1, _⟩ | ⟨h1, h2⟩
            · omega
            · have := (I.solid s hs).1 (hr.pre s hp); omega
      have hls : lsOnly all = true := by
        obtain ⟨s, hs, hw⟩ : ∃ s, solidAt all l s ∧ ((i < s ∧ s < p) ∨ (p ≤ s ∧ s < i)) := by
          rcases Nat.lt_or_ge i p with h | h
          · rcases I.pstart with h0 | h0
            · omega
            · refine ⟨p - 1, h0, .inl ⟨?_, by omega⟩⟩
              have : p - 1 ≠ i := fun e => hnsi (e ▸ h0)
              omega
          · rcases I.qend with h0 | h0
            · omega
            · exact ⟨p + d, h0, .inr ⟨by omega, by omega⟩⟩
        have hord := hopen s hs hw
        obtain ⟨os, rs, hos, hrs, hsol⟩ := hs
        obtain ⟨rs', g1, g2, _⟩ := C.comp s os hos
        rw [hrs] at g1; cases g1
        have hne : i ≠ s := by omega
        have ht : touches o.op = true := by rw [hop]; rfl
        have hnf : rs.free = false := by
          cases hf : rs.free with
          | false => rfl
          | true => have := freeAt_ord (g2.free ▸ hf) ho hne ht; rw [hord] at this; simp at this
        have hnm : mustWrite os.op = false := by
          cases hf : mustWrite os.op with
          | false => rfl
          | true => have := freeAt_ord (g2.must hf) ho hne ht; rw [hord] at this; simp at this
        have hst : isStore os.op = true := by
          unfold solidB at hsol
          simpa [hnf, hnm] using hsol
        obtain ⟨aps, haps, _, hlsx⟩ := g2.code
        rw [if_pos hst] at haps
        rcases apartOf_ord haps i o ho (by simpa using hne) ht with h' | ⟨_, _, y, _, _, h3⟩
        · rw [Nat.zero_add, hord] at h'; simp at h'
        · cases aps with
          | nil => simp at h3
          | cons _ _ => simpa using hlsx
      have hsame : (Hs p)[b]? = (Hs i)[b]? ∧ ∀ k c, (Hs i)[b]? = some k → k.kid = some c → (Hs p)[c]? = (Hs i)[c]? := by
        have hpl : p ≤ all.length := by have := I.hq; omega
        rcases Nat.lt_or_ge i p with h | h
        · exact C.keepsTo ho hop hres hev hls (by omega) hpl fun s g1 g2 hs => hopen s hs (.inl ⟨by
            have : s ≠ i := fun e => hnsi (e ▸ hs)
            omega, g2⟩)
        · exact same_symm (C.keepsTo ho hop hres hev hls h (by omega) fun s g1 g2 hs => hopen s hs (.inr ⟨g1, g2⟩))
      refine ⟨Hs p, hlow p (by have := I.hq; omega), I.sim C (Nat.le_refl _) (by omega), ?_⟩
      have hblk : (Hs p).act b = (Hs i).act b := act_same2 hsame.1 hsame.2
      have : rload (Hs p) sz b off = some v0 := by
        unfold rload at hv0 ⊢; rw [hblk]; exact hv0
      simp only [hev, this, Option.map_some]
  · simp at hrun

theorem appAt {o : Oper} {ρ : Operand → Value} {res : Operand → Option RX} {ap : List RX} {r : ROp} {X : RX → AV} {free : Bool} {H H' : Heap} {v : AV} (hco : compileOp P res ap o.op = some r) (happ : isAppendOp o.op = true)
    (hrun : rop call fl free X H r = some (v, H')) (hX : ∀ x rx, res x = some rx → VRel m (X rx) (ρ x)) (hs : Sim n0 base m H w) (hfl : n0 ≤ fl) :
    ∃ v' w', (execOp ρ o).run P w = .ok (.value v') w' ∧ AppRes fl free m H w v H' v' w' := by
  cases hop : o.op with
  | call c =>
    rw [hop] at hco happ
    obtain ⟨cal, args, ts⟩ := c
    cases cal with
    | builtin b =>
      cases b <;> simp [isAppendOp] at happ
      exact op_append hop rfl hco hrun hX hs hfl
    | invoke a b => simp [isAppendOp] at happ
    | value x => simp [isAppendOp] at happ
  | _ => rw [hop] at happ; simp [isAppendOp] at happ

theorem Inv.appStep (C : Ctx P vars nt draw all l call fl E L Hs n0) (I : Inv vars nt draw all l fl E L Hs n0 base m0 w0 S p d m a w) {i : Nat} {o : Oper} {ro : ROper} (ho : all[i]? = some o) (hc : Comp P vars nt draw (ancs [] all) all i o ro)
    (hr : Ready draw all S i) (hn : ¬ solidAt all l i) (h1 : p ≤ i) (h2 : i < p + d) {v : AV} {v' : Value} {w' : World} (hL : L[i]? = some v) (h : AppRes fl false m (Hs i) w v (Hs (i + 1)) v' w') :
    ∃ m', Inv vars nt draw all l fl E L Hs n0 base m0 w0 (setS S i) p d m' (a.put o.dst v') w' := by
  have hil : i < all.length := by have := I.hq; omega
  have hs := I.sim C h1 (by omega)
  have hlow : n0 ≤ (Hs i).length := Nat.le_trans C.low0 (C.len (Nat.zero_le i) (by omega))
  have hn' : (Hs i).length < (Hs (i + 1)).length → m (Hs i).length = none := fun h => I.fresh C h1 hil hr.un (Nat.le_refl _) h
  generalize hH1 : Hs (i + 1) = H1 at h
  cases h with
  | same hv => exact ⟨m, I.still C ho hc hr hn ⟨rfl, rfl, rfl, Nat.le_refl _⟩ (fun _ _ => rfl) hL hv⟩
  | push hk hrel hle hcap =>
    obtain ⟨m', hv, hst⟩ := app_step (fl := (Hs i).length) (AppRes.push (fl := (Hs i).length) (free := false) (H := Hs i) (w := w) (m := m) hk hrel hle hcap) hs hlow (fun h => hn' (by rw [hH1]; exact h))
    rw [← hH1] at hst
    exact ⟨m', I.quiet C ho hc hr hn h1 h2 hst hL hv⟩
  | put hfree => simp at hfree
  | topIn hflb hact hlive hm he hoff hfull hrel hxs hsc hcap hle =>
    rename_i b off n k e cap blk lb xs ys
    have hyl := hrel.length
    have hn0b := Nat.le_trans C.flow hflb
    have hroom : lb.co + blk.cells.length + ys.length ≤ lb.co + lb.room := by
      rw [← hyl, hxs]
      have : (n + k) * e ≤ cap * e := Nat.mul_le_mul_right _ hle
      rw [Nat.add_mul] at this
      have := (hs.cells b blk lb hact hm).2.1
      omega
    obtain ⟨b1, b2⟩ := beyond_sim hs hn0b hact hlive hm (vs := ys) (Nat.le_refl _) hroom
    obtain ⟨p1, p2, p3⟩ := b2.own b blk lb hn0b hact hm
    obtain ⟨s1, s2, s3⟩ := setCells_os lb.cb ys (lb.co + blk.cells.length) w
    have ssz := setCells_size lb.cb ys (lb.co + blk.cells.length) w
    have hcl : (blk.cells.drop off ++ xs).length ≤ lb.room - off := by
      simp only [List.length_append, List.length_drop]; omega
    refine ⟨_, I.top C ho hc hr hn h1 h2 (l2 := ⟨lb.cb, lb.co + off, lb.room - off, e⟩) hflb hact hlive hm hH1 ⟨rfl, rfl⟩ rfl hcl
      (tail_cells (hs.cells b blk lb hact hm).2.2 hrel hoff _ _ fun j hj => (b1 j hj).1) ⟨p1, p2⟩ (room_shift p3 off e) (.inl ⟨rfl, by simp only [List.length_append, List.length_drop]; omega⟩) ⟨s1, s2, s3, by rw [ssz]; exact Nat.le_refl _⟩
      (fun c hc hne => setCells_other _ _ _ _ _ hne) (fun off' ho' => by rw [cell_setCells (fun j hj => (b1 j hj).1), if_neg (by omega)])
      (fun lo hlo hR j hj => ⟨by
        rw [hlo, cell_setCells (fun j hj => (b1 j hj).1)]
        split
        · rw [List.getElem?_eq_getElem (by omega)]; rfl
        · have := (hR j hj).1; rwa [hlo] at this, by rw [World.frozen?_setCells]; exact (hR j hj).2⟩) hL ⟨_, _, rfl, hle, _, upd_same _ _ _, ?_, .inl (by simp)⟩⟩
    show 0 + cap * e = lb.room - off
    omega
  | topNew hflb hact hlive hm hrel hle hcap =>
    rename_i b off n k e cap blk lb xs cs rest t
    obtain ⟨c1, c2⟩ := new_cells (w := w) (rest := rest) hrel t e
    have hsz : (w.drew.alloc (.cells (cs ++ rest).toArray t)).heap.size = w.heap.size + 1 := by simp
    have hlb := (hs.own b blk lb (Nat.le_trans C.flow hflb) hact hm).2.1
    refine ⟨_, I.top C ho hc hr hn h1 h2 (l2 := ⟨w.heap.size, 0, (cs ++ rest).length, e⟩) hflb hact hlive hm hH1 ⟨rfl, rfl⟩ rfl (by simp [hrel.length]) c1 ⟨hs.size, by rw [hsz]; simp⟩ c2 (.inr (Nat.le_refl _)) ⟨rfl, rfl, rfl, by rw [hsz]; omega⟩
      (fun c hc _ => drew_alloc_old w _ c hc) (fun off' _ => cell_of_heap (drew_alloc_old w _ _ hlb) _) (fun lo hlo hR => room_of_heap (drew_alloc_old w _ _ (by omega)) hR) hL ⟨_, _, rfl, hle, _, upd_same _ _ _, ?_, .inl (by simp)⟩⟩
    show 0 + cap * e = _
    rw [hcap]; simp
  | reviveIn hfree => simp at hfree
  | reviveNew hfree => simp at hfree

theorem Inv.step (C : Ctx P vars nt draw all l call fl E L Hs n0) (I : Inv vars nt draw all l fl E L Hs n0 base m0 w0 S p d m a w) {i : Nat} (hil : i < all.length) (hr : Ready draw all S i)
    {Q : Exit → Act → World → Prop} {K : Act → World → Prop} (hK : ∀ p' d' m' a' w', a'.defers = a.defers → Inv vars nt draw all l fl E L Hs n0 base m0 w0 (setS S i) p' d' m' a' w' → K a' w') : wpOp P all.toArray Q i K a w := by
  obtain ⟨o, ho⟩ : ∃ o, all[i]? = some o := ⟨_, List.getElem?_eq_getElem hil⟩
  obtain ⟨ro, hro, hc, hst⟩ := C.comp i o ho
  have hsolid : solidAt all l i ↔ solidB o ro.free = true := ⟨fun ⟨o', r', a1, a2, a3⟩ => by rw [ho] at a1; rw [hro] at a2; cases a1; cases a2; exact a3, fun h => ⟨o, ro, ho, hro, h⟩⟩
  have hguard := I.guard C ho hc hr.pre
  rcases hst with ⟨hw, v, hL, hrun⟩ | ⟨hw, hL, hHs⟩
  · -- the operation runs
    rw [hw] at hguard
    obtain ⟨ap, hap, hco, hls⟩ := hc.code
    have hX : ∀ x rx, resAt vars draw (ancs [] all) all i x = some rx → VRel m (RX.ev (L.take i) E rx) (a.eval x) := fun x rx h => I.opnd C hil hr.un hr.pre h
    have hXk : ∀ v, RX.ev (L.take i) E (.k v) = v := fun _ => rfl
    have hkind := compile_kind hco
    by_cases ht : touches o.op = true
    · by_cases hld : isLoad o.op = true
      · -- a load
        have hns : ¬ solidAt all l i := fun h => by have := (solid_touches (hsolid.1 h)).2; rw [hld] at this; simp at this
        have hcl : isCallOp o.op = false := by cases hop : o.op <;> rw [hop] at hld <;> simp_all [isLoad, isCallOp]
        obtain ⟨G, hG1, hG2, hG3⟩ := I.loadAt C ho hro hc hr hld hrun
        refine wpOp_of_ok ho hguard (op_sound hco hG3 hX hXk hG2 hG1 (fun h => by omega) hcl) fun v' w' m' hv hstep => ?_
        have hmm : m' = m := by
          funext b
          cases hb : m b with
          | some lo => exact hstep.ext b lo hb
          | none =>
            cases hb' : m' b with
            | none => rfl
            | some lo => have := hstep.new b lo hb' hb; omega
        subst hmm
        exact hK p d m' _ w' (Act.put_defers' _ _ _) (I.still C ho hc hr hns ⟨hstep.os, hstep.tape, hstep.output, hstep.size⟩ (fun c hcl => hstep.frame c hcl fun ⟨b, k, lo, h1, ha, _⟩ => by have := act_lt ha; omega) hL hv)
      · simp only [Bool.not_eq_true] at hld
        obtain ⟨hp1, hpos⟩ := I.pos C ho hro ht hld hr.un hr.pre
        rcases hpos with ⟨hp2, hns⟩ | ⟨hp2, hsol⟩
        · have hnsolid : ¬ solidAt all l i := fun h => by rw [hsolid.1 h] at hns; simp at hns
          have hs := I.sim C hp1 (by omega)
          have hlow : n0 ≤ (Hs i).length := Nat.le_trans C.low0 (C.len (Nat.zero_le i) (by omega))
          unfold solidB at hns
          simp only [Bool.or_eq_false_iff, Bool.and_eq_false_iff] at hns
          obtain ⟨⟨hns1, hns2⟩, hns3⟩ := hns
          by_cases hcl : isCallOp o.op = true
          · have hnf : ro.free = false := by rcases hns3 with ⟨h, _⟩ | h; · rw [hcl] at h; simp at h
                                             · exact h
            rw [hnf] at hrun
            refine wpOp_call ho hguard hco hcl hrun hX C.sound (by simpa using hlow) hs (fun b g1 g2 => I.fresh C hp1 hil hr.un g1 g2) fun v' w' m' hv hstep => ?_
            exact hK p d m' _ w' (Act.put_defers' _ _ _) (I.quiet C ho hc hr hnsolid hp1 hp2 (by simpa using hstep) hL hv)
          · simp only [Bool.not_eq_true] at hcl
            by_cases happ : isAppendOp o.op = true
            · have hnf : ro.free = false := by rcases hns3 with ⟨_, h⟩ | h; · rw [happ] at h; simp at h
                                               · exact h
              rw [hnf] at hrun
              obtain ⟨v', w', hex, hres⟩ := appAt hco happ hrun hX hs C.flow
              obtain ⟨m', I'⟩ := I.appStep C ho hc hr hnsolid hp1 hp2 hL hres
              have hgo : K (a.put o.dst v') w' := hK p d m' _ w' (Act.put_defers' _ _ _) I'
              unfold wpOp
              simp only [List.getElem?_toArray, ho, hguard, if_true, Oper.wp]
              left
              rw [hex]; exact hgo
            · simp only [Bool.not_eq_true] at happ
              have hrun' := hrun
              rw [rop_fl (fl' := (Hs i).length) hkind hns1 hns2 hcl happ] at hrun'
              refine wpOp_of_ok ho hguard (op_sound hco hrun' hX hXk hs hlow (fun h => I.fresh C hp1 hil hr.un (Nat.le_refl _) h) hcl) fun v' w' m' hv hstep => ?_
              exact hK p d m' _ w' (Act.put_defers' _ _ _) (I.quiet C ho hc hr hnsolid hp1 hp2 hstep hL hv)
        · have hs := I.sim C hp1 (by omega)
          have hfin : ∀ v' w' m', VRel m' v v' → Step n0 base fl m (Hs i) w m' (Hs (i + 1)) w' → K (a.put o.dst v') w' := fun v' w' m' hv hstep => by
            obtain ⟨p', d', I'⟩ := I.solidStep C ho hc hr (hsolid.2 hsol) hp2 hstep hL hv
            exact hK p' d' m' _ w' (Act.put_defers' _ _ _) I'
          by_cases hcl : isCallOp o.op = true
          · have hfree : ro.free = true := by
              unfold solidB at hsol
              cases hop : o.op with
              | call c =>
                rw [hop] at hsol hcl
                obtain ⟨cal, args, ts⟩ := c
                cases cal <;> simp_all [isStore, mustWrite, isCallOp, isAppendOp]
              | _ => rw [hop] at hcl; simp [isCallOp] at hcl
            rw [hfree] at hrun
            exact wpOp_call ho hguard hco hcl hrun hX C.sound (by simpa using C.flow) hs (fun b g1 g2 => I.fresh C hp1 hil hr.un g1 g2) fun v' w' m' hv hstep => hfin v' w' m' hv (by simpa using hstep)
          · simp only [Bool.not_eq_true] at hcl
            exact wpOp_of_ok ho hguard (op_sound hco hrun hX hXk hs C.flow (fun h => I.fresh C hp1 hil hr.un (Nat.le_refl _) h) hcl) hfin
    · -- a pure operation
      simp only [Bool.not_eq_true] at ht
      have hns : ¬ solidAt all l i := fun h => by have := (solid_touches (hsolid.1 h)).1; rw [ht] at this; simp at this
      have hcl : isCallOp o.op = false := by
        cases hop : o.op with
        | call c => rw [hop] at ht; obtain ⟨cal, args, ts⟩ := c; cases cal <;> simp_all [touches, isCallOp]
        | _ => rfl
      have hpure := touches_pure hco ht
      obtain ⟨hHs, hp⟩ := rop_pure hpure hrun
      have hrun' := hp (deaden (Hs i)) fun b => by rw [deaden_get]; cases (Hs i)[b]? <;> rfl
      have hs : Sim n0 base m (deaden (Hs i)) w := by
        refine ⟨I.wsz, by simpa [deaden] using Nat.le_trans C.low0 (C.len (Nat.zero_le i) (by omega)), fun b c k hk hkc => ?_, fun b k lo hk hm => ?_, fun b k lo ha => ?_, I.ro, fun b k lo _ ha => ?_, fun b b' k k' lo lo' _ _ ha => ?_⟩
        · rw [deaden_get, Option.map_eq_some_iff] at hk; obtain ⟨_, _, rfl⟩ := hk; simp [killed] at hkc
        · rw [deaden_get, Option.map_eq_some_iff] at hk; obtain ⟨k0, hk0, rfl⟩ := hk
          show lo.e = k0.e
          exact I.esAt C (i := i) (by omega) hk0 hm
        · rw [deaden_act] at ha; simp at ha
        · rw [deaden_act] at ha; simp at ha
        · rw [deaden_act] at ha; simp at ha
      refine wpOp_of_ok ho hguard (op_sound hco hrun' hX hXk hs C.flow (fun h => by omega) hcl) fun v' w' m' hv hstep => ?_
      have hmm : m' = m := by
        funext b
        cases hb : m b with
        | some lo => exact hstep.ext b lo hb
        | none =>
          cases hb' : m' b with
          | none => rfl
          | some lo => have := hstep.new b lo hb' hb; omega
      subst hmm
      exact hK p d m' _ w' (Act.put_defers' _ _ _) (I.still C ho hc hr hns ⟨hstep.os, hstep.tape, hstep.output, hstep.size⟩ (fun c hcl => hstep.frame c hcl fun ⟨b, k, lo, _, ha, _⟩ => by rw [deaden_act] at ha; simp at ha) hL hv)
  · -- the operation is passed over
    rw [hw] at hguard
    have hgo : K (a.put o.dst undef) w := by
      by_cases hsol : solidAt all l i
      · obtain ⟨ht, hl⟩ := solid_touches (hsolid.1 hsol)
        obtain ⟨hp1, hpos⟩ := I.pos C ho hro ht hl hr.un hr.pre
        rcases hpos with ⟨_, h⟩ | ⟨hp2, _⟩
        · rw [hsolid.1 hsol] at h; simp at h
        · have hs := I.sim C hp1 (by omega)
          obtain ⟨p', d', I'⟩ := I.solidStep C ho hc hr hsol hp2 (m' := m) (w' := w) (by rw [hHs]; exact Step.refl hs) hL (VRel.undef m)
          exact hK p' d' m _ w (Act.put_defers' _ _ _) I'
      · exact hK p d m _ w (Act.put_defers' _ _ _) (I.still C ho hc hr hsol ⟨rfl, rfl, rfl, Nat.le_refl _⟩ (fun _ _ => rfl) hL (VRel.undef m))
    unfold wpOp
    simp only [List.getElem?_toArray, ho, hguard, Bool.false_eq_true, if_false]
    exact hgo

end
end Go.RM

/-
  A region, whole.
-/
namespace Go.RM
set_option linter.unusedSimpArgs false
set_option linter.unusedVariables false

/-! ### The trace of a run -/

/-! ### The environment -/

structure EnvOk (vars : List Nat) (nt : Nat) (E : List AV) (m : BMap) (a : Act) : Prop where
  size : nt ≤ a.tmps.size
  len : E.length = vars.length
  rel : ∀ (y t : Nat), vars[y]? = some t → VRel m (E.getD y .undef) (a.tmps.getD t undef)

theorem putDst_len (d : Option Nat) (v : AV) (E : List AV) : (putDst d v E).length = E.length := by cases d <;> simp [putDst]
theorem putAll_len : ∀ (l : List ROper) (L E : List AV), (putAll l L E).length = E.length
  | [], _, _ => rfl
  | _ :: _, [], _ => rfl
  | o :: l, v :: L, E => by rw [putAll, putAll_len l L, putDst_len]

theorem putDst_ne {d : Option Nat} {v : AV} {E : List AV} {y : Nat} (h : d ≠ some y) : (putDst d v E).getD y .undef = E.getD y .undef := by
  cases d with
  | none => rfl
  | some x =>
    have : x ≠ y := fun e => h (by rw [e])
    simp only [putDst, List.getD_eq_getElem?_getD, List.getElem?_set_ne this]

theorem putAll_ne {y : Nat} : ∀ {l : List ROper} {L E : List AV}, (∀ (j : Nat) (ro : ROper), l[j]? = some ro → ro.dst ≠ some y) → (putAll l L E).getD y .undef = E.getD y .undef
  | [], _, _, _ => rfl
  | _ :: _, [], _, _ => rfl
  | o :: l, v :: L, E, h => by
    rw [putAll, putAll_ne (fun j ro hj => h (j + 1) ro (by simpa using hj)), putDst_ne (h 0 o rfl)]

theorem putAll_get {y : Nat} : ∀ {l : List ROper} {L E : List AV} {j : Nat} {ro : ROper} {v : AV}, l[j]? = some ro → ro.dst = some y → L[j]? = some v → y < E.length →
    (∀ (j' : Nat) (ro' : ROper), l[j']? = some ro' → ro'.dst = some y → j' = j) → (putAll l L E).getD y .undef = v
  | [], _, _, j, ro, v, h, _, _, _, _ => by simp at h
  | _ :: _, [], _, j, ro, v, _, _, h, _, _ => by simp at h
  | o :: l, u :: L, E, 0, ro, v, h, hd, hv, hy, hu => by
    simp only [List.getElem?_cons_zero, Option.some.injEq] at h hv; subst h; subst hv
    rw [putAll, putAll_ne fun j ro hj e => by have := hu (j + 1) ro (by simpa using hj) e; omega, hd]
    simp [putDst, hy]
  | o :: l, u :: L, E, j + 1, ro, v, h, hd, hv, hy, hu => by
    rw [putAll]
    exact putAll_get (by simpa using h) hd (by simpa using hv) (by rw [putDst_len]; exact hy) fun j' ro' hj' e => by have := hu (j' + 1) ro' (by simpa using hj') e; omega

section
variable {P : Program} {vars : List Nat} {nt : Nat} {draw : Bool} {all : List Oper} {l : List ROper} {call : Nat → Nat → List AV → Heap → Option (AV × Heap)} {fl : Nat} {E L : List AV} {Hs : Nat → Heap} {n0 base : Nat}
variable {m0 : BMap} {w0 : World} {S : Nat → Bool} {p d : Nat} {m : BMap} {a : Act} {w : World}

theorem Inv.done (C : Ctx P vars nt draw all l call fl E L Hs n0) (I : Inv vars nt draw all l fl E L Hs n0 base m0 w0 S p d m a w) (hl : l.length = all.length) (hE : E.length = vars.length) (hS : ∀ j, j < all.length → S j = true) :
    EnvOk vars nt (putAll l L E) m a ∧ Step n0 base fl m0 (Hs 0) w0 m (Hs all.length) w := by
  have hpd : p + d = all.length := by
    rcases I.qend with h | h
    · exact h
    · have h' := h
      obtain ⟨o, ro, ho, _⟩ := h'
      have := (I.solid _ h).1 (hS _ (List.getElem?_eq_some_iff.1 ho).1)
      omega
  have hsim := I.sim C (i := all.length) (by omega) (by omega)
  refine ⟨⟨I.tmps.size, by rw [putAll_len]; exact hE, fun y t hy => ?_⟩, ⟨I.ext, I.new, hsim, I.os, I.tape, I.output, I.size, C.len (Nat.zero_le _) (Nat.le_refl _), I.frame, ?_⟩⟩
  · have hyl : y < E.length := by rw [hE]; exact (List.getElem?_eq_some_iff.1 hy).1
    have hidx := idx_of_get C.nodup hy
    -- who writes the variable
    have huniq : ∀ (j : Nat) (ro : ROper), l[j]? = some ro → ro.dst = some y → writer t all 0 = some j := fun j ro hj hd => by
      obtain ⟨o, ho⟩ : ∃ o, all[j]? = some o := ⟨_, List.getElem?_eq_getElem (by rw [← hl]; exact (List.getElem?_eq_some_iff.1 hj).1)⟩
      obtain ⟨ro', h1, h2, _⟩ := C.comp j o ho
      rw [hj] at h1; cases h1
      rw [h2.rdst, Option.bind_eq_some_iff] at hd
      obtain ⟨t', ht', hi⟩ := hd
      have := idx_some hi
      rw [hy] at this; cases this
      exact (h2.dst t ht').2
    cases hwr : writer t all 0 with
    | none =>
      rw [putAll_ne fun j ro hj hd => by have := huniq j ro hj hd; rw [hwr] at this; simp at this]
      exact I.tmps.old y t hy fun j hj => by rw [hwr] at hj; simp at hj
    | some j =>
      obtain ⟨_, o, ho, hod⟩ := writer_some hwr
      rw [Nat.sub_zero] at ho
      obtain ⟨ro, h1, h2, _⟩ := C.comp j o ho
      have hjl := (List.getElem?_eq_some_iff.1 ho).1
      have hjL : j < L.length := by rw [C.llen]; exact hjl
      have hLj : L[j]? = some L[j] := List.getElem?_eq_getElem hjL
      rw [putAll_get h1 (by rw [h2.rdst, hod]; exact hidx) hLj hyl fun j' ro' hj' hd' => by have := huniq j' ro' hj' hd'; rw [hwr] at this; cases this; rfl]
      exact I.tmps.done t j _ hwr (hS j hjl) hLj
  · rintro c hcl ⟨b, k, lo, g1, ha, hm, rfl⟩
    exact I.hits _ hcl ⟨b, k, lo, g1, (I.kd C (by omega) (by omega)).act (C.kids (Nat.le_refl _)) ha, hm, rfl⟩

/-! ### The two ways through a region -/

end

end Go.RM

/-
  Code and calls: what the abstract machine computes, the model computes.
-/
namespace Go.RM
set_option linter.unusedSimpArgs false
set_option linter.unusedVariables false

def exitOf : Out → Exit
  | .normal => .normal
  | .exit id => .exit id
  | .ret => .ret

def Post (vars : List Nat) (nt fl n0 base : Nat) (m : BMap) (H : Heap) (w : World) (ds : List Deferred) (o : Out) (E' : List AV) (H' : Heap) : Exit → Act → World → Prop := fun e a' w' =>
  e = exitOf o ∧ a'.defers = ds ∧ ∃ m', EnvOk vars nt E' m' a' ∧ Step n0 base fl m H w m' H' w'

theorem Post.after {vars : List Nat} {nt fl n0 base : Nat} {m m1 : BMap} {H H1 : Heap} {w w1 : World} {ds : List Deferred} {o : Out} {E' : List AV} {H' : Heap} (s : Step n0 base fl m H w m1 H1 w1) {e : Exit} {a : Act} {w' : World}
    (h : Post vars nt fl n0 base m1 H1 w1 ds o E' H' e a w') : Post vars nt fl n0 base m H w ds o E' H' e a w' :=
  let ⟨h1, h2, m', h3, h4⟩ := h; ⟨h1, h2, m', h3, s.trans h4⟩

theorem rounds_mono {P : Program} {c : Code} {Q Q' : Exit → Act → World → Prop} (h : ∀ e a w, Q e a w → Q' e a w) : ∀ (r : Nat) (a : Act) (w : World), Code.rounds P c Q r a w → Code.rounds P c Q' r a w
  | 0, _, _, hr => hr
  | r + 1, a, w, hr => by
    rw [rounds_succ] at hr ⊢
    refine wp_mono hr fun e a w hq => ?_
    cases e <;> simp only [Exit.then] at hq ⊢ <;> first | exact rounds_mono h r _ _ hq | exact h _ _ _ hq

theorem Step.fresh {n0 base fl : Nat} {m m1 : BMap} {H H1 : Heap} {w w1 : World} (s : Step n0 base fl m H w m1 H1 w1) {n : Nat} (hf : ∀ b, H.length ≤ b → b < n → m b = none) : ∀ b, H1.length ≤ b → b < n → m1 b = none := fun b h1 h2 => by
  cases hm : m1 b with
  | none => rfl
  | some l => have := s.new b l hm (hf b (Nat.le_trans s.len h1) h2); omega

theorem EnvOk.mono {vars : List Nat} {nt : Nat} {E : List AV} {m m' : BMap} {a : Act} (h : EnvOk vars nt E m a) (he : Ext m m') : EnvOk vars nt E m' a := ⟨h.size, h.len, fun y t hy => (h.rel y t hy).mono he⟩

def CodeSound (P : Program) (n : Nat) : Prop := ∀ (c : Code) (vars : List Nat) (nt fl : Nat) (E : List AV) (H : Heap) (o : Out) (E' : List AV) (H' : Heap), nodupB vars = true → rexec (table P) n fl (compileCode P vars nt c) E H = some (o, E', H') →
  ∀ (n0 base : Nat) (m : BMap) (w : World) (a : Act), n0 ≤ fl → Sim n0 base m H w → EnvOk vars nt E m a → (∀ b, H.length ≤ b → b < H'.length → m b = none) → c.wp P (Post vars nt fl n0 base m H w a.defers o E' H') a w

def LoopSound (P : Program) (n : Nat) : Prop := ∀ (c : Code) (vars : List Nat) (nt fl : Nat) (E : List AV) (H : Heap) (o : Out) (E' : List AV) (H' : Heap), nodupB vars = true → rexec (table P) n fl (.loop (compileCode P vars nt c)) E H = some (o, E', H') →
  ∃ r, ∀ (n0 base : Nat) (m : BMap) (w : World) (a : Act), n0 ≤ fl → Sim n0 base m H w → EnvOk vars nt E m a → (∀ b, H.length ≤ b → b < H'.length → m b = none) → Code.rounds P c (Post vars nt fl n0 base m H w a.defers o E' H') r a w

theorem loop_step {P : Program} {n : Nat} (hc : CodeSound P n) (hl : LoopSound P n) : LoopSound P (n + 1) := by
  intro c vars nt fl E H o E' H' hnd h
  simp only [rexec] at h
  split at h
  · rename_i E1 H1 h1
    obtain ⟨r, hr⟩ := hl c vars nt fl E1 H1 o E' H' hnd h
    have f1 := rexec_facts _ _ _ _ _ _ _ _ _ h1
    have f2 := rexec_facts _ _ _ _ _ _ _ _ _ h
    refine ⟨r + 1, fun n0 base m w a hfl hs hE hf => ?_⟩
    rw [rounds_succ]
    refine wp_mono (hc c vars nt fl E H _ E1 H1 hnd h1 n0 base m w a hfl hs hE fun b g1 g2 => hf b g1 (Nat.lt_of_lt_of_le g2 f2.len)) fun e a1 w1 hp => ?_
    obtain ⟨rfl, hd, m1, hE1, hst⟩ := hp
    have := hr n0 base m1 w1 a1 hfl hst.sim hE1 (hst.fresh hf)
    rw [hd] at this
    exact rounds_mono (fun e a w h => h.after hst) r a1 w1 this
  · rename_i hne
    refine ⟨1, fun n0 base m w a hfl hs hE hf => ?_⟩
    rw [rounds_succ]
    refine wp_mono (hc c vars nt fl E H o E' H' hnd h n0 base m w a hfl hs hE hf) fun e a1 w1 hp => ?_
    have he := hp.1
    cases o with
    | normal => exact absurd h (by intro h; exact hne _ _ h)
    | exit id => rw [he] at hp ⊢; exact hp
    | ret => rw [he] at hp ⊢; exact hp

/-! ### Calls -/

theorem res_run {P : Program} {vars : List Nat} {nt : Nat} {E : List AV} {m : BMap} {a : Act} {H : Heap} {w : World} {n0 base : Nat} (hs : Sim n0 base m H w) (hE : EnvOk vars nt E m a) :
    ∀ {rl : List ResultVar} {rs : List RRes} {vs : List AV}, compileResL P vars rl = some rs → resAll E H rs = some vs →
      ∃ cvs, (rl.mapM (fun (r : ResultVar) => (match r with | .tmp t => pure (a.tmps.getD t undef) | .cell x t => do loadVar t (← asAddr (a.tmps.getD x undef)) : Sem Value))).run P w = .ok cvs w ∧ VRels m vs cvs
  | [], rs, vs, hc, hr => by
    simp only [compileResL, Option.some.injEq] at hc; subst hc
    simp only [resAll, Option.some.injEq] at hr; subst hr
    exact ⟨[], rfl, trivial⟩
  | r :: rl, rs, vs, hc, hr => by
    simp only [compileResL] at hc
    split at hc
    · rename_i x l h1 h2
      simp only [Option.some.injEq] at hc; subst hc
      simp only [resAll] at hr
      split at hr
      · rename_i v hv
        simp only [Option.map_eq_some_iff] at hr
        obtain ⟨vs', hvs, rfl⟩ := hr
        obtain ⟨cvs, e1, e2⟩ := res_run hs hE h2 hvs
        have hone : ∃ cv, ((match r with | .tmp t => pure (a.tmps.getD t undef) | .cell x t => do loadVar t (← asAddr (a.tmps.getD x undef)) : Sem Value)).run P w = .ok cv w ∧ VRel m v cv := by
          cases r with
          | tmp t =>
            simp only [compileRes, Option.map_eq_some_iff] at h1
            obtain ⟨y, hy, rfl⟩ := h1
            simp only [resOf, Option.some.injEq] at hv; subst hv
            exact ⟨_, rfl, hE.rel y t (idx_some hy)⟩
          | cell t ty =>
            simp only [compileRes] at h1
            split at h1
            · rename_i y sz hy hsz
              simp only [Option.some.injEq] at h1; subst h1
              simp only [resOf] at hv
              split at hv
              · rename_i b off hb
                have := hE.rel y t (idx_some hy)
                rw [hb] at this
                obtain ⟨lo, hm, hval⟩ := this
                obtain ⟨cv, g1, g2⟩ := run_loadVar_rel (P := P) hs hsz hv hm
                refine ⟨cv, ?_, g2⟩
                simp only [Sem.run_bind, hval, asAddr, Sem.run_pure, Result.andThen_ok]
                exact g1
              · simp at hv
            · simp at h1
        obtain ⟨cv, f1, f2⟩ := hone
        refine ⟨cv :: cvs, ?_, f2, e2⟩
        rw [List.mapM_cons, Sem.run_bind, f1]
        simp only [Result.andThen_ok, Sem.run_bind, e1, Sem.run_pure]
      · simp at hr
    · simp at hc

theorem results_run {P : Program} {fn : Func} {vars : List Nat} {nt : Nat} {E : List AV} {m : BMap} {a : Act} {H : Heap} {w : World} {n0 base : Nat} (hs : Sim n0 base m H w) (hE : EnvOk vars nt E m a) {rs : List RRes} {vs : List AV}
    (hc : compileResL P vars fn.results.toList = some rs) (hr : resAll E H rs = some vs) : ∃ v, (results fn a.tmps).run P w = .ok v w ∧ VRel m (resVal vs) v := by
  obtain ⟨cvs, h1, h2⟩ := res_run hs hE hc hr
  have hfr : fn.results = fn.results.toList.toArray := by simp
  have hlen := h2.length
  have hmap : (fn.results.mapM (fun (r : ResultVar) => (match r with | .tmp t => pure (a.tmps.getD t undef) | .cell x t => do loadVar t (← asAddr (a.tmps.getD x undef)) : Sem Value))).run P w = .ok cvs.toArray w := by
    rw [hfr, List.mapM_toArray]
    rw [map_eq_pure_bind, Sem.run_bind, h1]
    rfl
  refine ⟨if h : cvs.toArray.size = 1 then cvs.toArray[0] else .tuple cvs.toArray, ?_, ?_⟩
  · unfold results
    rw [Sem.run_bind]
    refine Eq.trans (congrArg (fun r => Result.andThen r _) hmap) ?_
    simp only [Result.andThen_ok, Sem.run_pure]
  rcases vs with _ | ⟨v, _ | ⟨v2, vs⟩⟩ <;> rcases cvs with _ | ⟨cv, _ | ⟨cv2, cvs⟩⟩ <;> simp at hlen
  · exact ⟨_, rfl, trivial⟩
  · exact h2.1
  · exact ⟨_, rfl, h2⟩

theorem call_step {P : Program} {n : Nat} (hc : CodeSound P n) : CallSound P (rcall (table P) (n + 1)) := by
  intro flx g args H v H' h
  simp only [rcall] at h
  split at h
  · simp at h
  · rename_i rf hrf
    rw [Option.ite_none_right_eq_some] at h
    obtain ⟨hlen, h⟩ := h
    unfold table at hrf
    rw [Option.bind_eq_some_iff] at hrf
    obtain ⟨fn, hfn, hcf⟩ := hrf
    unfold compileFunc at hcf
    split at hcf
    · simp at hcf
    · rename_i c hbody
      simp only at hcf
      split at hcf
      · rename_i res hres
        rw [Option.ite_none_right_eq_some] at hcf
        obtain ⟨hcond, hcf⟩ := hcf
        simp only [Option.some.injEq] at hcf
        subst hcf
        simp only [Bool.and_eq_true, bne_iff_ne, ne_eq, decide_eq_true_eq] at hcond
        obtain ⟨⟨⟨hname, hnd⟩, hlt⟩, htake⟩ := hcond
        refine ⟨⟨fn, hfn, by rw [hbody]; rfl, hname⟩, fun n0 base m w cargs hfl hs hargs hfresh => ?_⟩
        simp only at h hlen
        generalize hvars : varsOf fn c = vars at *
        generalize hna : fn.params.size + fn.nfree = na at *
        have hnal : na ≤ vars.length := by
          have := congrArg List.length htake
          simp only [List.length_take, List.length_range] at this
          omega
        have hcl : cargs.length = na := by rw [← hargs.length]; exact hlen
        -- the run
        have hrun : ∃ o E1, rexec (table P) n flx (compileCode P vars fn.ntmps c) (args ++ List.replicate (vars.length - na) .undef) H = some (o, E1, H') ∧ (o = .normal ∨ o = .ret) ∧ ∃ vs, resAll E1 H' res = some vs ∧ resVal vs = v := by
          split at h
          · rename_i E1 H1 h1
            simp only [Option.map_eq_some_iff, Prod.mk.injEq] at h
            obtain ⟨vs, g1, g2, rfl⟩ := h
            exact ⟨_, E1, h1, .inl rfl, vs, g1, g2⟩
          · rename_i E1 H1 h1
            simp only [Option.map_eq_some_iff, Prod.mk.injEq] at h
            obtain ⟨vs, g1, g2, rfl⟩ := h
            exact ⟨_, E1, h1, .inr rfl, vs, g1, g2⟩
          · simp at h
        obtain ⟨o, E1, hex, ho, vs, hvs, rfl⟩ := hrun
        have hE : EnvOk vars fn.ntmps (args ++ List.replicate (vars.length - na) .undef) m { tmps := ⟨cargs⟩ ++ Array.replicate (fn.ntmps - (⟨cargs⟩ : Array Value).size) undef, defers := [] } := by
          refine ⟨by simp; omega, by simp; omega, fun y t hy => ?_⟩
          by_cases hyn : y < na
          · have hty : t = y := by
              have h1 : (vars.take na)[y]? = some t := by rw [List.getElem?_take_of_lt hyn]; exact hy
              rw [htake, List.getElem?_range hyn] at h1
              exact (Option.some.inj h1).symm
            subst hty
            obtain ⟨cv, g1, g2⟩ := hargs.get t args[t] (List.getElem?_eq_getElem (by omega))
            rw [List.getD_eq_getElem?_getD, List.getElem?_append_left (by omega), List.getElem?_eq_getElem (by omega)]
            have hcv : (⟨cargs⟩ ++ Array.replicate (fn.ntmps - (⟨cargs⟩ : Array Value).size) undef : Array Value).getD t undef = cv := by
              rw [Array.getD_eq_getD_getElem?, Array.getElem?_append_left (by simp; omega)]
              simp [g1]
            simp only [hcv]
            exact g2
          · have hyl := (List.getElem?_eq_some_iff.1 hy).1
            have htn : na ≤ t := by
              rcases Nat.lt_or_ge t na with h | h
              · exfalso
                have h1 : (vars.take na)[t]? = some t := by rw [htake, List.getElem?_range h]
                rw [List.getElem?_take_of_lt h] at h1
                have e1 := idx_of_get hnd h1
                have e2 := idx_of_get hnd hy
                rw [e1] at e2; cases e2; omega
              · exact h
            have hE1 : (args ++ List.replicate (vars.length - na) AV.undef).getD y .undef = .undef := by
              rw [List.getD_eq_getElem?_getD, List.getElem?_append_right (by omega), List.getElem?_replicate]
              split <;> rfl
            have hE2 : (⟨cargs⟩ ++ Array.replicate (fn.ntmps - (⟨cargs⟩ : Array Value).size) undef : Array Value).getD t undef = undef := by
              rw [Array.getD_eq_getD_getElem?, Array.getElem?_append_right (by simp; omega), Array.getElem?_replicate]
              split <;> rfl
            simp only [hE1, hE2]
            exact VRel.undef m
        refine calls_of_wp hfn hbody (wp_mono (hc c vars fn.ntmps flx _ H o E1 H' hnd hex n0 base m w _ hfl hs hE hfresh) fun e a w' hp => ?_)
        obtain ⟨rfl, hd, m', hE', hst⟩ := hp
        obtain ⟨rv, r1, r2⟩ := results_run hst.sim hE' hres hvs
        rcases ho with rfl | rfl
        · exact ⟨hd, rv, r1, rv, m', rfl, r2, hst⟩
        · exact ⟨hd, rv, r1, rv, m', rfl, r2, hst⟩
      · simp at hcf

theorem sound_all {P : Program} (hmix : P.follows .mixedOrders = true) : ∀ n, CodeSound P n ∧ LoopSound P n ∧ CallSound P (rcall (table P) n)
  | 0 => ⟨fun c vars nt fl E H o E' H' _ h => by simp [rexec] at h, fun c vars nt fl E H o E' H' _ h => by simp [rexec] at h, fun flx g args H v H' h => by simp [rcall] at h⟩
  | n + 1 => by
    obtain ⟨h1, h2, h3⟩ := sound_all hmix n
    have hl := loop_step h1 h2
    exact ⟨code_step hmix h1 hl h3, hl, call_step h1⟩

/-- WHAT THE ABSTRACT MACHINE COMPUTES, A CALL COMPUTES. -/
theorem call_sound {P : Program} (hmix : P.follows .mixedOrders = true) (n : Nat) : CallSound P (rcall (table P) n) := (sound_all hmix n).2.2

end Go.RM

/-
  Variables that nobody points at are taken out of the heap: a pass over the abstract machine's code, and that it keeps what the code computes.
-/
namespace Go.RM
set_option linter.unusedSimpArgs false
set_option linter.unusedVariables false

inductive LK where
  | plain
  | no
  | addr (x off : Nat) (g : Option (Nat × Bool))
  deriving Inhabited

/-- Where a variable's value stands now; true: the variable was made anew in this list. -/
abbrev Curs := List (Nat × RX × Bool)

def Curs.get (c : Curs) (x : Nat) : RX :=
  match c with
  | [] => .var x
  | (y, r, _) :: l => if y = x then r else Curs.get l x
def Curs.fresh (c : Curs) (x : Nat) : Bool :=
  match c with
  | [] => false
  | (y, _, f) :: l => (if y = x then f else false) || Curs.fresh l x
def Curs.has (c : Curs) (x : Nat) : Bool := c.any fun p => p.1 == x

def plainRX (bv : List Nat) (ks : List LK) : RX → Bool
  | .var y => !memN y bv
  | .loc j => (match ks[j]? with | some .plain => true | _ => false)
  | .k _ => true

def ROp.rxs : ROp → List RX
  | .fail => []
  | .move x => [x]
  | .pick c a b => [c, a, b]
  | .alloc _ _ => []
  | .box _ x => [x]
  | .build _ ps => ps.map (·.2.2)
  | .buildSlice _ _ ps _ => ps.map (·.2.2)
  | .load _ x => [x]
  | .store _ x v ap => x :: v :: ap
  | .nilCheck x => [x]
  | .bin _ _ x y => [x, y]
  | .un _ x => [x]
  | .convInt _ x => [x]
  | .makeFunc _ l => l
  | .makeSlice _ _ _ a b => [a, b]
  | .slice _ x a b c => x :: (a.toList ++ b.toList ++ c.toList)
  | .sliceStr x a b => x :: (a.toList ++ b.toList)
  | .fieldAddr _ x => [x]
  | .field _ _ x => [x]
  | .indexAddr _ x i => [x, i]
  | .indexArr _ _ x i => [x, i]
  | .indexStr x i => [x, i]
  | .extract x _ => [x]
  | .call f l => f :: l
  | .callS _ l => l
  | .len x => [x]
  | .lenStr x => [x]
  | .append _ _ x y => [x, y]
  | .copy _ x y => [x, y]
  | .clear _ _ x => [x]
  | .min x l => x :: l
  | .max x l => x :: l
  | .tomb _ x => [x]
  | .upd _ _ x v => [x, v]

def dstPlain (bv : List Nat) (d : Option Nat) : Bool := match d with | some y => !memN y bv | none => true

def guardPlain (ks : List LK) (g : Option (Nat × Bool)) : Bool :=
  match g with
  | none => true
  | some (j, _) => (match ks[j]? with | some .plain => true | _ => false)

/-- An operand as the address of a taken variable. -/
def asBox (bv : List Nat) (ks : List LK) (c : Curs) : RX → Option (Nat × Nat × Option (Nat × Bool))
  | .var x => if memN x bv && !c.fresh x then some (x, 0, none) else none
  | .loc j => (match ks[j]? with | some (.addr x off g) => some (x, off, g) | _ => none)
  | .k _ => none

def LK.names (x : Nat) : LK → Bool
  | .addr y _ _ => y == x
  | _ => false

def optPlain (bv : List Nat) (ks : List LK) (c : Curs) (o : ROper) : Option (ROper × LK × Curs) :=
  if o.op.rxs.all (plainRX bv ks) && dstPlain bv o.dst && guardPlain ks o.guard then some (o, .plain, c) else none

def optMake (bv : List Nat) (ks : List LK) (c : Curs) (i : Nat) (o : ROper) (e : Nat) (v : RX) : Option (ROper × LK × Curs) :=
  match o.dst with
  | some x =>
    if memN x bv then
      if o.guard.isNone && plainRX bv ks v && !c.has x && !(ks.any (LK.names x)) then some ({ op := .tomb e v, guard := none, dst := some x, free := o.free }, .addr x 0 none, (x, .loc i, true) :: c) else none
    else optPlain bv ks c o
  | none => optPlain bv ks c o

def sameGuard (g h : Option (Nat × Bool)) : Bool :=
  match g, h with
  | none, _ => true
  | some (i, b), some (j, b') => i == j && b == b'
  | _, _ => false

def optOper (bv : List Nat) (ks : List LK) (c : Curs) (i : Nat) (o : ROper) : Option (ROper × LK × Curs) :=
  match o.op with
  | .alloc e z => optMake bv ks c i o e (.k (.agg z))
  | .box e v => optMake bv ks c i o e v
  | .load sz p =>
    match asBox bv ks c p with
    | some (x, off, g) => if sameGuard g o.guard && dstPlain bv o.dst && guardPlain ks o.guard then some ({ o with op := .field off sz (c.get x) }, .plain, c) else none
    | none => optPlain bv ks c o
  | .fieldAddr off p =>
    match asBox bv ks c p with
    | some (x, off', g) => if sameGuard g o.guard && o.dst.isNone && guardPlain ks o.guard then some ({ o with op := .field 0 none (c.get x) }, .addr x (off' + off) o.guard, c) else none
    | none => optPlain bv ks c o
  | .store n p v ap =>
    match asBox bv ks c p with
    | some (x, off, g) => if g.isNone && o.guard.isNone && o.dst.isNone && ap.isEmpty && plainRX bv ks v then some ({ op := .upd n off (c.get x) v, guard := none, dst := some x, free := o.free }, .no, (x, .loc i, c.fresh x) :: c) else none
    | none => optPlain bv ks c o
  | _ => optPlain bv ks c o

def optOps (bv : List Nat) : List ROper → List LK → Curs → Option (List ROper)
  | [], _, _ => some []
  | o :: l, ks, c =>
    match optOper bv ks c ks.length o with
    | some (o', k, c') => (optOps bv l (ks ++ [k]) c').map (o' :: ·)
    | none => none

def optCode (bv : List Nat) : RCode → Option RCode
  | .ops l => (optOps bv l [] []).map .ops
  | .seq a b =>
    match optCode bv a, optCode bv b with
    | some a, some b => some (.seq a b)
    | _, _ => none
  | .cond x a b =>
    if plainRX bv [] x then
      match optCode bv a, optCode bv b with
      | some a, some b => some (.cond x a b)
      | _, _ => none
    else none
  | .block id c => (optCode bv c).map (.block id)
  | .loop c => (optCode bv c).map .loop
  | c => some c

def optRes (bv : List Nat) : RRes → Option RRes
  | .var x => if memN x bv then none else some (.var x)
  | .cell x sz => if memN x bv then some (.part x sz) else some (.cell x sz)
  | .part x sz => if memN x bv then none else some (.part x sz)

def optResL (bv : List Nat) : List RRes → Option (List RRes)
  | [] => some []
  | r :: l =>
    match optRes bv r, optResL bv l with
    | some a, some b => some (a :: b)
    | _, _ => none

def optFuncW (bv : List Nat) (f : RFunc) : Option RFunc :=
  if bv.all (fun x => decide (f.nargs ≤ x) && decide (x < f.nvars)) && decide (f.nargs ≤ f.nvars) then
    match optResL bv f.res, optCode bv f.body with
    | some r, some c => some { f with res := r, body := c }
    | _, _ => none
  else none

def RCode.made : RCode → List Nat
  | .ops l => l.filterMap fun o => match o.op with | .alloc .. => o.dst | .box .. => o.dst | _ => none
  | .seq a b => a.made ++ b.made
  | .cond _ a b => a.made ++ b.made
  | .block _ c => c.made
  | .loop c => c.made
  | _ => []

def optFunc (f : RFunc) : Option RFunc :=
  let bv := (dedup [] f.body.made).filter fun x => (optFuncW [x] f).isSome
  match optFuncW bv f with
  | some g => some g
  | none => optFuncW [] f

/-- The table of the functions, with such variables taken out. -/
def tableO (P : Program) (f : Nat) : Option RFunc := (table P f).bind optFunc

/-! ### The heaps -/

def Tomb (H : Heap) (b : Nat) : Prop := ∃ k, H[b]? = some k ∧ k.live = false ∧ k.kid = none

structure Le (HB HA : Heap) : Prop where
  len : HB.length = HA.length
  get : ∀ b : Nat, HB[b]? = HA[b]? ∨ (Tomb HB b ∧ ∃ k k', HB[b]? = some k ∧ HA[b]? = some k' ∧ k.e = k'.e)

theorem Le.refl (H : Heap) : Le H H := ⟨rfl, fun _ => .inl rfl⟩

theorem Tomb.not_live {H : Heap} {b : Nat} {k : Blk} (h : Tomb H b) (hg : H[b]? = some k) : k.live = false ∧ k.kid = none := by
  obtain ⟨k', h1, h2⟩ := h; rw [hg] at h1; cases h1; exact h2

theorem Tomb.act {H : Heap} {b : Nat} (h : Tomb H b) : H.act b = none := by
  obtain ⟨k, h1, h2, h3⟩ := h
  unfold Heap.act; rw [h1]; simp [h2, Heap.rev, h3]

theorem Le.live {HB HA : Heap} (h : Le HB HA) {b : Nat} {k : Blk} (hg : HB[b]? = some k) (hn : k.live = true ∨ k.kid ≠ none) : HA[b]? = some k := by
  rcases h.get b with e | ⟨t, _⟩
  · rw [← e]; exact hg
  · have := t.not_live hg
    rcases hn with hn | hn
    · rw [this.1] at hn; simp at hn
    · exact absurd this.2 hn

theorem Le.blk {HB HA : Heap} (h : Le HB HA) {b : Nat} {k : Blk} (hb : HB.blk b = some k) : HA.blk b = some k := by
  obtain ⟨_, hl, hg⟩ := blk_act hb
  have := h.live hg (.inl hl)
  unfold Heap.blk; rw [this]; simp [hl]

theorem Le.rev {HB HA : Heap} (h : Le HB HA) {k : Blk} {c : Nat} (hr : HB.rev k = some c) : HA.rev k = some c := by
  obtain ⟨hd, hk⟩ := rev_kid hr
  unfold Heap.rev at hr ⊢
  simp only [hd, hk] at hr ⊢
  cases hc : HB[c]? with
  | none => simp [hc] at hr
  | some kc =>
    simp only [hc] at hr
    have hl : kc.live = true := by
      by_cases h1 : (kc.live && kc.clean) = true
      · simp only [Bool.and_eq_true] at h1; exact h1.1
      · simp [h1] at hr
    rw [h.live hc (.inl hl)]; exact hr

theorem Le.act {HB HA : Heap} (h : Le HB HA) {b : Nat} {k : Blk} (ha : HB.act b = some k) : HA.act b = some k := by
  have hg := act_get ha
  have hcase : k.live = true ∨ ∃ c, HB.rev k = some c := by
    unfold Heap.act at ha
    rw [hg] at ha
    by_cases hl : k.live = true
    · exact .inl hl
    · simp only [hl, Bool.false_or] at ha
      split at ha
      · rename_i hr; exact .inr (Option.isSome_iff_exists.1 hr)
      · simp at ha
  rcases hcase with hl | ⟨c, hr⟩
  · exact act_of (h.live hg (.inl hl)) (.inl hl)
  · exact act_of (h.live hg (.inr (by rw [(rev_kid hr).2]; simp))) (.inr (by rw [h.rev hr]; rfl))

/-- The two runs' heaps stay alike, and what only the one has is left alone. -/
structure Mono (HB HA HB' HA' : Heap) : Prop where
  le : Le HB' HA'
  len : HB.length ≤ HB'.length
  fr : ∀ b, Tomb HB b → HA'[b]? = HA[b]? ∧ Tomb HB' b

theorem Mono.refl {HB HA : Heap} (h : Le HB HA) : Mono HB HA HB HA := ⟨h, Nat.le_refl _, fun b t => ⟨rfl, t⟩⟩

theorem Mono.trans {HB HA HB1 HA1 HB2 HA2 : Heap} (a : Mono HB HA HB1 HA1) (b : Mono HB1 HA1 HB2 HA2) : Mono HB HA HB2 HA2 :=
  ⟨b.le, Nat.le_trans a.len b.len, fun x t => ⟨(b.fr x (a.fr x t).2).1.trans (a.fr x t).1, (b.fr x (a.fr x t).2).2⟩⟩

theorem Tomb.lt {H : Heap} {b : Nat} (h : Tomb H b) : b < H.length := by obtain ⟨k, h1, _⟩ := h; exact get_lt h1

theorem Mono.set {HB HA : Heap} (h : Le HB HA) {b : Nat} {k : Blk} (hn : ¬ Tomb HB b) : Mono HB HA (HB.set b k) (HA.set b k) := by
  have hg : ∀ x, x ≠ b → (HB.set b k)[x]? = HB[x]? ∧ (HA.set b k)[x]? = HA[x]? := fun x hx => ⟨List.getElem?_set_ne (by omega), List.getElem?_set_ne (by omega)⟩
  refine ⟨⟨by simp [h.len], fun x => ?_⟩, by simp, fun x t => ?_⟩
  · by_cases e : x = b
    · subst e
      left
      by_cases hl : x < HB.length
      · rw [List.getElem?_set_self hl, List.getElem?_set_self (by rw [← h.len]; exact hl)]
      · rw [List.getElem?_eq_none (by simp; omega), List.getElem?_eq_none (by simp; have := h.len; omega)]
    · rw [(hg x e).1, (hg x e).2]
      rcases h.get x with e1 | ⟨⟨k0, t1, t2⟩, e2⟩
      · exact .inl e1
      · exact .inr ⟨⟨k0, by rw [(hg x e).1]; exact t1, t2⟩, e2⟩
  · have e : x ≠ b := fun e => hn (e ▸ t)
    obtain ⟨k0, t1, t2⟩ := t
    exact ⟨(hg x e).2, k0, by rw [(hg x e).1]; exact t1, t2⟩

theorem Mono.push {HB HA : Heap} (h : Le HB HA) (k : Blk) : Mono HB HA (HB ++ [k]) (HA ++ [k]) := by
  refine ⟨⟨by simp [h.len], fun x => ?_⟩, by simp, fun x t => ?_⟩
  · by_cases hl : x < HB.length
    · rw [List.getElem?_append_left hl, List.getElem?_append_left (by rw [← h.len]; exact hl)]
      rcases h.get x with e1 | ⟨⟨k0, t1, t2⟩, e2⟩
      · exact .inl e1
      · exact .inr ⟨⟨k0, by rw [List.getElem?_append_left hl]; exact t1, t2⟩, e2⟩
    · left
      rw [List.getElem?_append_right (by omega), List.getElem?_append_right (by have := h.len; omega), h.len]
  · have hl := t.lt
    obtain ⟨k0, t1, t2⟩ := t
    exact ⟨by rw [List.getElem?_append_left (by rw [← h.len]; exact hl)], k0, by rw [List.getElem?_append_left hl]; exact t1, t2⟩

theorem Mono.kill {HB HA : Heap} (h : Le HB HA) {c : Nat} (hn : ∃ kc, HB[c]? = some kc ∧ kc.live = true) : Mono HB HA (HB.kill c) (HA.kill c) := by
  obtain ⟨kc, h1, h2⟩ := hn
  unfold Heap.kill
  rw [h1, h.live h1 (.inl h2)]
  exact Mono.set h fun t => by have := (t.not_live h1).1; rw [h2] at this; simp at this

/-- A call in the one table, and in the other. -/
def CallLe (callB callA : Nat → Nat → List AV → Heap → Option (AV × Heap)) : Prop := ∀ fl g args HB v HB' HA, fl ≤ HB.length → callB fl g args HB = some (v, HB') → Le HB HA → ∃ HA', callA fl g args HA = some (v, HA') ∧ Mono HB HA HB' HA'

end Go.RM

/-
  The pass keeps what the code computes.
-/
namespace Go.RM
set_option linter.unusedSimpArgs false
set_option linter.unusedVariables false

theorem rop_congr {call : Nat → Nat → List AV → Heap → Option (AV × Heap)} {fl : Nat} {free : Bool} {X Y : RX → AV} {H : Heap} {r : ROp} (h : ∀ rx ∈ r.rxs, X rx = Y rx) : rop call fl free X H r = rop call fl free Y H r := by
  have hm : ∀ {l : List RX}, (∀ rx ∈ l, X rx = Y rx) → l.map X = l.map Y := fun h => List.map_congr_left h
  have hm3 : ∀ {l : List (Nat × Nat × RX)}, (∀ rx ∈ l.map (·.2.2), X rx = Y rx) → (l.map fun p => (p.1, p.2.1, X p.2.2)) = (l.map fun p => (p.1, p.2.1, Y p.2.2)) := fun h =>
    List.map_congr_left fun p hp => by rw [h p.2.2 (List.mem_map.2 ⟨p, hp, rfl⟩)]
  have ho : ∀ {x : Option RX}, (∀ rx ∈ x.toList, X rx = Y rx) → x.map X = x.map Y := fun {x} h => by
    cases x with
    | none => rfl
    | some a => simp [h a (by simp)]
  cases r <;> simp only [ROp.rxs] at h <;> simp only [rop]
  case move => rw [h _ (by simp)]
  case pick => rw [h _ (by simp), h _ (by simp), h _ (by simp)]
  case box => rw [h _ (by simp)]
  case build => rw [hm3 h]
  case buildSlice => rw [hm3 h]
  case load => rw [h _ (by simp)]
  case store n x v ap => rw [h x (by simp), h v (by simp), hm (l := ap) fun rx hrx => h rx (by simp [hrx])]
  case nilCheck => rw [h _ (by simp)]
  case bin => rw [h _ (by simp), h _ (by simp)]
  case un => rw [h _ (by simp)]
  case convInt => rw [h _ (by simp)]
  case makeFunc => rw [hm h]
  case makeSlice => rw [h _ (by simp), h _ (by simp)]
  case slice e x lo hi mx => rw [h x (by simp), ho (x := lo) fun rx hrx => h rx (by simp at hrx ⊢; simp [hrx]), ho (x := hi) fun rx hrx => h rx (by simp at hrx ⊢; simp [hrx]), ho (x := mx) fun rx hrx => h rx (by simp at hrx ⊢; simp [hrx])]
  case sliceStr x lo hi => rw [h x (by simp), ho (x := lo) fun rx hrx => h rx (by simp at hrx ⊢; simp [hrx]), ho (x := hi) fun rx hrx => h rx (by simp at hrx ⊢; simp [hrx])]
  case fieldAddr => rw [h _ (by simp)]
  case field => rw [h _ (by simp)]
  case indexAddr => rw [h _ (by simp), h _ (by simp)]
  case indexArr => rw [h _ (by simp), h _ (by simp)]
  case indexStr => rw [h _ (by simp), h _ (by simp)]
  case extract => rw [h _ (by simp)]
  case call f l => rw [h f (by simp), hm (l := l) fun rx hrx => h rx (by simp [hrx])]
  case callS f l => rw [hm h]
  case len => rw [h _ (by simp)]
  case lenStr => rw [h _ (by simp)]
  case append => rw [h _ (by simp), h _ (by simp)]
  case copy => rw [h _ (by simp), h _ (by simp)]
  case clear => rw [h _ (by simp)]
  case min x l => rw [h x (by simp), hm (l := l) fun rx hrx => h rx (by simp [hrx])]
  case max x l => rw [h x (by simp), hm (l := l) fun rx hrx => h rx (by simp [hrx])]
  case tomb => rw [h _ (by simp)]
  case upd => rw [h _ (by simp), h _ (by simp)]

structure Rel (bv : List Nat) (fl : Nat) (HB0 HA0 : Heap) (EA : List AV) (HA : Heap) (EB : List AV) (HB : Heap) : Prop where
  len : EA.length = EB.length
  lt : ∀ x ∈ bv, x < EA.length
  fl0 : fl ≤ HB0.length
  hl : HB0.length ≤ HB.length
  le : Le HB HA
  fr : ∀ b, Tomb HB0 b → HA[b]? = HA0[b]? ∧ Tomb HB b
  eq : ∀ y, y ∉ bv → EA.getD y .undef = EB.getD y .undef
  box : ∀ x ∈ bv, (EA.getD x .undef = .undef ∧ EB.getD x .undef = .undef) ∨ ∃ b k, EA.getD x .undef = .ptr b 0 ∧ Tomb HB b ∧ HB0.length ≤ b ∧ HA[b]? = some k ∧ k.live = true ∧ EB.getD x .undef = .agg k.cells
  inj : ∀ x ∈ bv, ∀ x' ∈ bv, ∀ b, EA.getD x .undef = .ptr b 0 → EA.getD x' .undef = .ptr b 0 → x = x'

structure IL (bv : List Nat) (fl : Nat) (HB0 HA0 : Heap) (EA0 EB0 LA LB EA : List AV) (HA : Heap) (EB : List AV) (HB : Heap) (ks : List LK) (c : Curs) : Prop where
  rel : Rel bv fl HB0 HA0 EA HA EB HB
  la : LA.length = ks.length
  lb : LB.length = ks.length
  plain : ∀ j : Nat, ks[j]? = some LK.plain → LA[j]? = LB[j]?
  eq0 : ∀ y, y ∉ bv → EA0.getD y .undef = EB0.getD y .undef
  cur : ∀ x ∈ bv, RX.ev LB EB0 (c.get x) = EB.getD x .undef
  curlt : ∀ x i, c.get x = .loc i → i < ks.length
  old : ∀ x ∈ bv, c.fresh x = false → EA.getD x .undef = EA0.getD x .undef
  addr : ∀ (j x off : Nat) (g : Option (Nat × Bool)), ks[j]? = some (LK.addr x off g) → x ∈ bv ∧ guardPlain ks g = true ∧ (wantedB g LA = true → ∃ b, EA.getD x .undef = .ptr b 0 ∧ LA[j]? = some (AV.ptr b off))

theorem not_mem_of {bv : List Nat} {y : Nat} (h : (!memN y bv) = true) : y ∉ bv := fun hm => by rw [memN_iff.2 hm] at h; simp at h

theorem snoc_get {α : Type} {l : List α} {a : α} {j : Nat} {v : α} (h : (l ++ [a])[j]? = some v) : l[j]? = some v ∨ (j = l.length ∧ a = v) := by
  by_cases e : j < l.length
  · rw [List.getElem?_append_left e] at h; exact .inl h
  · rw [List.getElem?_append_right (by omega)] at h
    cases hq : j - l.length with
    | zero => rw [hq] at h; simp at h; exact .inr ⟨by omega, h⟩
    | succ q => rw [hq] at h; simp at h

theorem snoc_lt {α : Type} {l : List α} (a : α) {j : Nat} (h : j < l.length) : (l ++ [a])[j]? = l[j]? := List.getElem?_append_left h
theorem snoc_end {α : Type} (l : List α) (a : α) : (l ++ [a])[l.length]? = some a := by rw [List.getElem?_append_right (Nat.le_refl _)]; simp

theorem guard_lt {ks : List LK} {j : Nat} {b : Bool} (h : guardPlain ks (some (j, b)) = true) : ks[j]? = some .plain := by
  simp only [guardPlain] at h
  split at h
  · assumption
  · simp at h

theorem guard_snoc {ks : List LK} {g : Option (Nat × Bool)} (h : guardPlain ks g = true) (k : LK) : guardPlain (ks ++ [k]) g = true := by
  cases g with
  | none => rfl
  | some p =>
    obtain ⟨j, b⟩ := p
    have := guard_lt h
    simp only [guardPlain]
    rw [snoc_lt k (List.getElem?_eq_some_iff.1 this).1, this]

section
variable {bv : List Nat} {fl : Nat} {HB0 HA0 : Heap} {EA0 EB0 LA LB EA : List AV} {HA : Heap} {EB : List AV} {HB : Heap} {ks : List LK} {c : Curs}

theorem IL.wanted (I : IL bv fl HB0 HA0 EA0 EB0 LA LB EA HA EB HB ks c) {g : Option (Nat × Bool)} (h : guardPlain ks g = true) : wantedB g LA = wantedB g LB := by
  cases g with
  | none => rfl
  | some p =>
    obtain ⟨j, b⟩ := p
    simp only [wantedB, I.plain j (guard_lt h)]

theorem wanted_snoc {LA : List AV} (hl : LA.length = ks.length) {g : Option (Nat × Bool)} (h : guardPlain ks g = true) (v : AV) : wantedB g (LA ++ [v]) = wantedB g LA := by
  cases g with
  | none => rfl
  | some p =>
    obtain ⟨j, b⟩ := p
    have := (List.getElem?_eq_some_iff.1 (guard_lt h)).1
    simp only [wantedB, snoc_lt v (show j < LA.length by omega)]

theorem ev_snoc {LB : List AV} {rx : RX} {n : Nat} (hl : LB.length = n) (h : ∀ i, rx = .loc i → i < n) (v : AV) : RX.ev (LB ++ [v]) EB0 rx = RX.ev LB EB0 rx := by
  cases rx with
  | var y => rfl
  | k v => rfl
  | loc j =>
    have := h j rfl
    simp only [RX.ev, List.getD_eq_getElem?_getD, snoc_lt v (show j < LB.length by omega)]

theorem Rel.mono (R : Rel bv fl HB0 HA0 EA HA EB HB) {HB' HA' : Heap} (M : Mono HB HA HB' HA') : Rel bv fl HB0 HA0 EA HA' EB HB' where
  len := R.len
  lt := R.lt
  fl0 := R.fl0
  hl := Nat.le_trans R.hl M.len
  le := M.le
  fr := fun b t => ⟨(M.fr b (R.fr b t).2).1.trans (R.fr b t).1, (M.fr b (R.fr b t).2).2⟩
  eq := R.eq
  box := fun x hx => by
    rcases R.box x hx with h | ⟨b, k, h1, h2, h3, h4, h5⟩
    · exact .inl h
    · exact .inr ⟨b, k, h1, (M.fr b h2).2, h3, by rw [(M.fr b h2).1]; exact h4, h5⟩
  inj := R.inj

theorem getD_set_eq {E : List AV} {x : Nat} {v : AV} (h : x < E.length) : (E.set x v).getD x .undef = v := by simp [h]
theorem getD_set_ne {E : List AV} {x y : Nat} {v : AV} (h : y ≠ x) : (E.set x v).getD y .undef = E.getD y .undef := by
  simp only [List.getD_eq_getElem?_getD, List.getElem?_set_ne (Ne.symm h)]

theorem putDst_plain {d : Option Nat} (hd : dstPlain bv d = true) {v : AV} {E : List AV} {x : Nat} (hx : x ∈ bv) : (putDst d v E).getD x .undef = E.getD x .undef := by
  refine putDst_ne fun e => ?_
  subst e
  exact not_mem_of hd hx

theorem Rel.put (R : Rel bv fl HB0 HA0 EA HA EB HB) {d : Option Nat} (hd : dstPlain bv d = true) (v : AV) : Rel bv fl HB0 HA0 (putDst d v EA) HA (putDst d v EB) HB where
  len := by rw [putDst_len, putDst_len]; exact R.len
  lt := fun x hx => by rw [putDst_len]; exact R.lt x hx
  fl0 := R.fl0
  hl := R.hl
  le := R.le
  fr := R.fr
  eq := fun y hy => by
    cases d with
    | none => exact R.eq y hy
    | some z =>
      by_cases e : y = z
      · subst e
        by_cases hl : y < EA.length
        · simp only [putDst]; rw [getD_set_eq hl, getD_set_eq (by rw [← R.len]; exact hl)]
        · have h1 := R.len
          simp only [putDst, List.getD_eq_getElem?_getD]
          rw [List.getElem?_eq_none (by simp; omega), List.getElem?_eq_none (by simp; omega)]
      · simp only [putDst]; rw [getD_set_ne e, getD_set_ne e]; exact R.eq y hy
  box := fun x hx => by rw [putDst_plain hd hx, putDst_plain hd hx]; exact R.box x hx
  inj := fun x hx x' hx' b => by rw [putDst_plain hd hx, putDst_plain hd hx']; exact R.inj x hx x' hx' b

/-- A step that leaves the taken variables alone; 'k' is the kind of the new local. -/
theorem IL.next (I : IL bv fl HB0 HA0 EA0 EB0 LA LB EA HA EB HB ks c) {HB' HA' : Heap} (M : Mono HB HA HB' HA') {d : Option Nat} (hd : dstPlain bv d = true) {vA v : AV} {k : LK} (hput : d ≠ none → vA = v)
    (hk1 : k = .plain → vA = v) (hk2 : ∀ x off g, k = .addr x off g → x ∈ bv ∧ guardPlain ks g = true ∧ (wantedB g LA = true → ∃ b, EA.getD x .undef = .ptr b 0 ∧ vA = .ptr b off)) :
    IL bv fl HB0 HA0 EA0 EB0 (LA ++ [vA]) (LB ++ [v]) (putDst d vA EA) HA' (putDst d v EB) HB' (ks ++ [k]) c := by
  have hE : ∀ x ∈ bv, (putDst d vA EA).getD x .undef = EA.getD x .undef := fun x hx => putDst_plain hd hx
  refine ⟨?_, by simp [I.la], by simp [I.lb], fun j hj => ?_, I.eq0, fun x hx => ?_, fun x i h => ?_, fun x hx hf => ?_, fun j x off g hj => ?_⟩
  · cases d with
    | none => exact I.rel.mono M
    | some y => rw [hput (by simp)]; exact (I.rel.mono M).put hd v
  · rcases snoc_get hj with h | ⟨h1, h2⟩
    · have := (List.getElem?_eq_some_iff.1 h).1
      rw [snoc_lt vA (by rw [I.la]; exact this), snoc_lt v (by rw [I.lb]; exact this)]
      exact I.plain j h
    · subst h1
      have e1 := snoc_end LA vA
      have e2 := snoc_end LB v
      rw [I.la] at e1; rw [I.lb] at e2
      rw [e1, e2, hk1 h2]
  · rw [ev_snoc I.lb (I.curlt x), I.cur x hx, putDst_plain hd hx]
  · have := I.curlt x i h; simp; omega
  · rw [hE x hx]; exact I.old x hx hf
  · rcases snoc_get hj with h | ⟨h1, h2⟩
    · obtain ⟨a1, a2, a3⟩ := I.addr j x off g h
      refine ⟨a1, guard_snoc a2 k, fun hw => ?_⟩
      rw [wanted_snoc I.la a2] at hw
      obtain ⟨b, b1, b2⟩ := a3 hw
      exact ⟨b, by rw [hE x a1]; exact b1, by rw [snoc_lt vA (by rw [I.la]; exact (List.getElem?_eq_some_iff.1 h).1)]; exact b2⟩
    · subst h1
      obtain ⟨a1, a2, a3⟩ := hk2 x off g h2
      refine ⟨a1, guard_snoc a2 k, fun hw => ?_⟩
      rw [wanted_snoc I.la a2] at hw
      obtain ⟨b, b1, rfl⟩ := a3 hw
      have e1 := snoc_end LA (AV.ptr b off)
      rw [I.la] at e1
      exact ⟨b, by rw [hE x a1]; exact b1, e1⟩

/-- What an operand that stands for a taken variable's place is. -/
theorem IL.asBox (I : IL bv fl HB0 HA0 EA0 EB0 LA LB EA HA EB HB ks c) {p : RX} {x off : Nat} {g : Option (Nat × Bool)} (h : RM.asBox bv ks c p = some (x, off, g)) :
    x ∈ bv ∧ (wantedB g LA = true → ∀ b, EA.getD x .undef = .ptr b 0 → RX.ev LA EA0 p = .ptr b off) := by
  cases p with
  | k v => simp [RM.asBox] at h
  | var y =>
    simp only [RM.asBox] at h
    split at h
    · rename_i hc
      simp only [Bool.and_eq_true, Bool.not_eq_true'] at hc
      simp only [Option.some.injEq, Prod.mk.injEq] at h
      obtain ⟨rfl, rfl, rfl⟩ := h
      have hm := memN_iff.1 hc.1
      exact ⟨hm, fun _ b hb => by rw [I.old y hm hc.2] at hb; exact hb⟩
    · simp at h
  | loc j =>
    simp only [RM.asBox] at h
    split at h
    · rename_i x' off' g' hk
      simp only [Option.some.injEq, Prod.mk.injEq] at h
      obtain ⟨rfl, rfl, rfl⟩ := h
      obtain ⟨a1, _, a3⟩ := I.addr j _ _ _ hk
      refine ⟨a1, fun hw b hb => ?_⟩
      obtain ⟨b', b1, b2⟩ := a3 hw
      rw [hb] at b1; cases b1
      simp only [RX.ev, List.getD_eq_getElem?_getD, b2, Option.getD_some]
    · simp at h

/-- The value of a taken variable is its block's cells. -/
theorem IL.value (I : IL bv fl HB0 HA0 EA0 EB0 LA LB EA HA EB HB ks c) {x : Nat} (hx : x ∈ bv) {cs : List AV} (h : RX.ev LB EB0 (c.get x) = .agg cs) :
    ∃ b k, EA.getD x .undef = .ptr b 0 ∧ Tomb HB b ∧ HB0.length ≤ b ∧ HA[b]? = some k ∧ k.live = true ∧ k.cells = cs := by
  rw [I.cur x hx] at h
  rcases I.rel.box x hx with ⟨_, h'⟩ | ⟨b, k, h1, h2, h3, h4, h5, h6⟩
  · rw [h] at h'; simp [AV.undef] at h'
  · rw [h] at h6; cases h6
    exact ⟨b, k, h1, h2, h3, h4, h5, rfl⟩

/-- A store into a taken variable. -/
theorem IL.store (I : IL bv fl HB0 HA0 EA0 EB0 LA LB EA HA EB HB ks c) {x : Nat} (hx : x ∈ bv) {b : Nat} {k : Blk} (h1 : EA.getD x .undef = .ptr b 0) (h2 : Tomb HB b) (h3 : HB0.length ≤ b) (h4 : HA[b]? = some k) (h5 : k.live = true) {ncs : List AV} :
    IL bv fl HB0 HA0 EA0 EB0 (LA ++ [.undef]) (LB ++ [.agg ncs]) EA (HA.set b { k with cells := ncs, clean := false }) (putDst (some x) (.agg ncs) EB) HB (ks ++ [.no]) ((x, .loc ks.length, c.fresh x) :: c) := by
  have hbl := get_lt h4
  have hgA : ∀ y : Nat, y ≠ b → (HA.set b { k with cells := ncs, clean := false })[y]? = HA[y]? := fun y hy => List.getElem?_set_ne (by omega)
  have hgb : (HA.set b { k with cells := ncs, clean := false })[b]? = some { k with cells := ncs, clean := false } := List.getElem?_set_self hbl
  have hxl := I.rel.lt x hx
  have hEB : ∀ y, y ≠ x → (putDst (some x) (.agg ncs) EB).getD y .undef = EB.getD y .undef := fun y hy => getD_set_ne hy
  have hEBx : (putDst (some x) (.agg ncs) EB).getD x .undef = .agg ncs := getD_set_eq (by rw [← I.rel.len]; exact hxl)
  refine ⟨⟨by rw [putDst_len]; exact I.rel.len, I.rel.lt, I.rel.fl0, I.rel.hl, ⟨by simp [I.rel.le.len], fun y => ?_⟩, fun y t => ?_, fun y hy => ?_, fun y hy => ?_, I.rel.inj⟩,
    by simp [I.la], by simp [I.lb], fun j hj => ?_, I.eq0, fun y hy => ?_, fun y i h => ?_, fun y hy hf => ?_, fun j y off g hj => ?_⟩
  · by_cases e : y = b
    · subst e
      right
      refine ⟨h2, ?_⟩
      rcases I.rel.le.get y with h | ⟨_, k1, k2, g1, g2, g3⟩
      · rw [h4] at h
        exact ⟨k, _, h, hgb, rfl⟩
      · rw [h4] at g2; cases g2
        exact ⟨k1, _, g1, hgb, g3⟩
    · rw [hgA y e]; exact I.rel.le.get y
  · obtain ⟨f1, f2⟩ := I.rel.fr y t
    have := t.lt
    exact ⟨by rw [hgA y (by omega)]; exact f1, f2⟩
  · have hyx : y ≠ x := fun e => hy (e ▸ hx)
    rw [hEB y hyx]; exact I.rel.eq y hy
  · by_cases e : y = x
    · subst e
      exact .inr ⟨b, _, h1, h2, h3, hgb, h5, hEBx⟩
    · rw [hEB y e]
      rcases I.rel.box y hy with h | ⟨b', k', g1, g2, g3, g4, g5⟩
      · exact .inl h
      · have hne : b' ≠ b := fun e' => by subst e'; exact e (I.rel.inj y hy x hx b' g1 h1)
        exact .inr ⟨b', k', g1, g2, g3, by rw [hgA b' hne]; exact g4, g5⟩
  · rcases snoc_get hj with h | ⟨_, h2⟩
    · have := (List.getElem?_eq_some_iff.1 h).1
      rw [snoc_lt _ (by rw [I.la]; exact this), snoc_lt _ (by rw [I.lb]; exact this)]
      exact I.plain j h
    · simp at h2
  · by_cases e : x = y
    · subst e
      have e2 := snoc_end LB (AV.agg ncs)
      rw [I.lb] at e2
      simp only [Curs.get, if_true, RX.ev, List.getD_eq_getElem?_getD, e2, Option.getD_some]
      exact hEBx.symm
    · simp only [Curs.get, if_neg e]
      rw [ev_snoc I.lb (I.curlt y), I.cur y hy, hEB y (Ne.symm e)]
  · by_cases e : x = y
    · simp only [Curs.get, if_pos e, RX.loc.injEq] at h
      subst h; simp
    · simp only [Curs.get, if_neg e] at h
      have := I.curlt y i h; simp; omega
  · by_cases e : x = y
    · subst e
      simp only [Curs.fresh, if_true, Bool.or_self] at hf
      exact I.old x hy hf
    · simp only [Curs.fresh, if_neg e, Bool.false_or] at hf
      exact I.old y hy hf
  · rcases snoc_get hj with h | ⟨h1, h2⟩
    · obtain ⟨a1, a2, a3⟩ := I.addr j y off g h
      refine ⟨a1, guard_snoc a2 _, fun hw => ?_⟩
      rw [wanted_snoc I.la a2] at hw
      obtain ⟨b, b1, b2⟩ := a3 hw
      exact ⟨b, b1, by rw [snoc_lt _ (by rw [I.la]; exact (List.getElem?_eq_some_iff.1 h).1)]; exact b2⟩
    · simp at h2

end
end Go.RM

/-
  The pass keeps what the code computes: operations, lists, code, calls.
-/
namespace Go.RM
set_option linter.unusedSimpArgs false
set_option linter.unusedVariables false

section
variable {bv : List Nat} {fl : Nat} {HB0 HA0 : Heap} {EA0 EB0 LA LB EA : List AV} {HA : Heap} {EB : List AV} {HB : Heap} {ks : List LK} {c : Curs}
variable {callB callA : Nat → Nat → List AV → Heap → Option (AV × Heap)}

end

section
variable {bv : List Nat} {fl : Nat} {HB0 HA0 : Heap} {callB callA : Nat → Nat → List AV → Heap → Option (AV × Heap)}

def ExecLe (TB TA : Nat → Option RFunc) (n : Nat) : Prop := ∀ (bv : List Nat) (fl : Nat) (c c' : RCode) (HB0 HA0 : Heap) (EA : List AV) (HA : Heap) (EB : List AV) (HB : Heap) (o : Out) (EB' : List AV) (HB' : Heap), optCode bv c = some c' → Rel bv fl HB0 HA0 EA HA EB HB →
  rexec TB n fl c' EB HB = some (o, EB', HB') → ∃ EA' HA', rexec TA n fl c EA HA = some (o, EA', HA') ∧ Rel bv fl HB0 HA0 EA' HA' EB' HB'

theorem Rel.start {EA EB : List AV} {HA HB : Heap} (R : Rel bv fl HB0 HA0 EA HA EB HB) : IL bv fl HB0 HA0 EA EB [] [] EA HA EB HB [] [] :=
  ⟨R, rfl, rfl, fun j h => by simp at h, R.eq, fun x _ => rfl, fun x i h => by simp [Curs.get] at h, fun _ _ _ => rfl, fun j x off g h => by simp at h⟩

theorem Rel.cond {EA EB : List AV} {HA HB : Heap} (R : Rel bv fl HB0 HA0 EA HA EB HB) {x : RX} (h : plainRX bv [] x = true) : x.ev [] EA = x.ev [] EB := by
  cases x with
  | var y => exact R.eq y (not_mem_of h)
  | loc j => rfl
  | k v => rfl

theorem optRes_run {EA EB : List AV} {HA HB : Heap} (R : Rel bv fl HB0 HA0 EA HA EB HB) {r r' : RRes} {v : AV} (hr : optRes bv r = some r') (h : resOf EB HB r' = some v) : resOf EA HA r = some v := by
  cases r with
  | var x =>
    simp only [optRes] at hr
    split at hr
    · simp at hr
    · rename_i hx
      simp only [Option.some.injEq] at hr; subst hr
      simp only [resOf] at h ⊢
      rw [R.eq x (fun hm => hx (memN_iff.2 hm))]; exact h
  | cell x sz =>
    simp only [optRes] at hr
    split at hr
    · rename_i hx
      simp only [Option.some.injEq] at hr; subst hr
      simp only [resOf] at h ⊢
      split at h
      · rename_i cs hcs
        rcases R.box x (memN_iff.1 hx) with ⟨_, h'⟩ | ⟨b, k, h1, h2, h3, h4, h5, h6⟩
        · rw [hcs] at h'; simp [AV.undef] at h'
        · rw [hcs] at h6; cases h6
          rw [h1]
          have hblk : HA.act b = some k := act_of h4 (.inl h5)
          simp only [rload, hblk]
          cases sz with
          | none => simpa [rpart] using h
          | some n => simpa [rpart] using h
      · simp at h
    · rename_i hx
      simp only [Option.some.injEq] at hr; subst hr
      simp only [resOf] at h ⊢
      rw [R.eq x (fun hm => hx (memN_iff.2 hm))]
      split at h
      · rename_i b off hb
        unfold rload at h ⊢
        split at h
        · rename_i k hk; rw [R.le.act hk]; exact h
        · simp at h
      · simp at h
  | part x sz =>
    simp only [optRes] at hr
    split at hr
    · simp at hr
    · rename_i hx
      simp only [Option.some.injEq] at hr; subst hr
      simp only [resOf] at h ⊢
      rw [R.eq x (fun hm => hx (memN_iff.2 hm))]; exact h

theorem optResL_run {EA EB : List AV} {HA HB : Heap} (R : Rel bv fl HB0 HA0 EA HA EB HB) : ∀ {l l' : List RRes} {vs : List AV}, optResL bv l = some l' → resAll EB HB l' = some vs → resAll EA HA l = some vs
  | [], l', vs, hr, h => by simp only [optResL, Option.some.injEq] at hr; subst hr; exact h
  | r :: l, l', vs, hr, h => by
    simp only [optResL] at hr
    split at hr
    · rename_i a b h1 h2
      simp only [Option.some.injEq] at hr; subst hr
      simp only [resAll] at h ⊢
      split at h
      · rename_i v hv
        rw [optRes_run R h1 hv]
        simp only [Option.map_eq_some_iff] at h ⊢
        obtain ⟨vs', g1, rfl⟩ := h
        exact ⟨vs', optResL_run R h2 g1, rfl⟩
      · simp at h
    · simp at hr

end

theorem optW_call {TB TA : Nat → Option RFunc} {n : Nat} (ih : ExecLe TB TA n) {bv : List Nat} {f g : RFunc} (ho : optFuncW bv f = some g) {fl : Nat} {args : List AV} {HB HA : Heap} {v : AV} {HB' : Heap} (hfl : fl ≤ HB.length) (hle : Le HB HA)
    (h : (if args.length = g.nargs then (match rexec TB n fl g.body (args ++ List.replicate (g.nvars - g.nargs) .undef) HB with
        | some (.normal, E, H') => (resAll E H' g.res).map fun vs => (resVal vs, H')
        | some (.ret, E, H') => (resAll E H' g.res).map fun vs => (resVal vs, H')
        | _ => none) else none) = some (v, HB')) :
    ∃ HA', (if args.length = f.nargs then (match rexec TA n fl f.body (args ++ List.replicate (f.nvars - f.nargs) .undef) HA with
        | some (.normal, E, H') => (resAll E H' f.res).map fun vs => (resVal vs, H')
        | some (.ret, E, H') => (resAll E H' f.res).map fun vs => (resVal vs, H')
        | _ => none) else none) = some (v, HA') ∧ Mono HB HA HB' HA' := by
  unfold optFuncW at ho
  split at ho
  · rename_i hbv
    simp only [Bool.and_eq_true, List.all_eq_true, decide_eq_true_eq] at hbv
    obtain ⟨hbv, hnv⟩ := hbv
    split at ho
    · rename_i r c hr hc
      simp only [Option.some.injEq] at ho; subst ho
      simp only at h
      rw [Option.ite_none_right_eq_some] at h
      obtain ⟨hlen, h⟩ := h
      rw [if_pos hlen]
      have hund : ∀ x ∈ bv, (args ++ List.replicate (f.nvars - f.nargs) AV.undef).getD x .undef = .undef := fun x hx => by
        have := (hbv x hx).1
        rw [List.getD_eq_getElem?_getD, List.getElem?_append_right (by omega), List.getElem?_replicate]
        split <;> rfl
      have R : Rel bv fl HB HA (args ++ List.replicate (f.nvars - f.nargs) .undef) HA (args ++ List.replicate (f.nvars - f.nargs) .undef) HB :=
        ⟨rfl, fun x hx => by have := (hbv x hx).2; simp; omega, hfl, Nat.le_refl _, hle, fun b t => ⟨rfl, t⟩, fun _ _ => rfl, fun x hx => .inl ⟨hund x hx, hund x hx⟩, fun x hx x' hx' b h1 _ => by rw [hund x hx] at h1; simp [AV.undef] at h1⟩
      have fin : ∀ o E1 H1, rexec TB n fl c (args ++ List.replicate (f.nvars - f.nargs) .undef) HB = some (o, E1, H1) → (o = .normal ∨ o = .ret) → (resAll E1 H1 r).map (fun vs => (resVal vs, H1)) = some (v, HB') →
          ∃ HA', (match rexec TA n fl f.body (args ++ List.replicate (f.nvars - f.nargs) .undef) HA with
            | some (.normal, E, H') => (resAll E H' f.res).map fun vs => (resVal vs, H')
            | some (.ret, E, H') => (resAll E H' f.res).map fun vs => (resVal vs, H')
            | _ => none) = some (v, HA') ∧ Mono HB HA HB' HA' := fun o E1 H1 h1 ho h2 => by
        obtain ⟨EA1, HA1, r1, r2⟩ := ih bv fl f.body c HB HA _ HA _ HB o E1 H1 hc R h1
        rw [r1]
        simp only [Option.map_eq_some_iff, Prod.mk.injEq] at h2
        obtain ⟨vs, g1, rfl, rfl⟩ := h2
        have g2 := optResL_run r2 hr g1
        refine ⟨HA1, ?_, ⟨r2.le, r2.hl, r2.fr⟩⟩
        rcases ho with rfl | rfl <;> simp [g2]
      split at h
      · rename_i E1 H1 h1; exact fin _ E1 H1 h1 (.inl rfl) h
      · rename_i E1 H1 h1; exact fin _ E1 H1 h1 (.inr rfl) h
      · simp at h
    · simp at ho
  · simp at ho

theorem opt_all {TA : Nat → Option RFunc} : ∀ n, ExecLe (fun f => (TA f).bind optFunc) TA n ∧ CallLe (rcall (fun f => (TA f).bind optFunc) n) (rcall TA n)
  | 0 => ⟨fun bv fl c c' HB0 HA0 EA HA EB HB o EB' HB' _ _ h => by simp [rexec] at h, fun fl g args HB v HB' HA _ h => by simp [rcall] at h⟩
  | n + 1 => by
    obtain ⟨h1, h2⟩ := opt_all (TA := TA) n
    refine ⟨exec_step h2 h1, fun fl g args HB v HB' HA hfl h hle => ?_⟩
    simp only [rcall] at h ⊢
    cases hf : TA g with
    | none => simp [hf] at h
    | some f =>
      simp only [hf, Option.bind_some] at h
      have : ∃ bv g', optFuncW bv f = some g' ∧ optFunc f = some g' := by
        cases ho : optFunc f with
        | none => simp [ho] at h
        | some g' =>
          have ho' := ho
          unfold optFunc at ho'
          simp only at ho'
          split at ho'
          · rename_i g2 hg2; exact ⟨_, g', by rw [← ho']; exact hg2, rfl⟩
          · exact ⟨_, g', ho', rfl⟩
      obtain ⟨bv, g', hw, ho⟩ := this
      simp only [ho] at h
      exact optW_call h1 hw hfl hle h

/-- WHAT THE CHANGED CODE COMPUTES, THE CODE COMPUTES. -/
theorem opt_sound {P : Program} {n fl f : Nat} {args : List AV} {H : Heap} {v : AV} {H' : Heap} (hfl : fl ≤ H.length) (h : rcall (tableO P) n fl f args H = some (v, H')) : ∃ HA', rcall (table P) n fl f args H = some (v, HA') := by
  obtain ⟨HA', h1, _⟩ := (opt_all (TA := table P) n).2 fl f args H v H' H hfl h (Le.refl H)
  exact ⟨HA', h1⟩

end Go.RM

