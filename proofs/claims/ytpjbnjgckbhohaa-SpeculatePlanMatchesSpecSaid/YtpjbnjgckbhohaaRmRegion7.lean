import Derived.Test.YtpjbnjgckbhohaaRmSound12
import Derived.LoopN
import Derived.Laws.Sem
/-
  A region: one operation's step, whatever it is.
-/
namespace Go.RM
set_option linter.unusedSimpArgs false
set_option linter.unusedVariables false

theorem run_enter {P : Program} {f : FuncId} {fn : Func} (hf : P.funcs[f]? = some fn) (hb : fn.body.isSome = true) (hname : fn.name ≠ "runtime.NumGoroutine") (args : Array Value) (w : World) :
    (callFunc f args).run P w = .ok (.enter f args) w := by
  obtain ⟨c, hc⟩ := Option.isSome_iff_exists.1 hb
  simp [callFunc, hf, hname, hc]

theorem solid_touches {o : Oper} {free : Bool} (h : solidB o free = true) : touches o.op = true ∧ isLoad o.op = false := by
  unfold solidB at h
  cases hop : o.op with
  | call c =>
    rw [hop] at h
    obtain ⟨cal, args, ts⟩ := c
    cases cal with
    | builtin b => cases b <;> simp_all [touches, isLoad, isStore, mustWrite, isCallOp, isAppendOp]
    | value f => simp [touches, isLoad]
    | invoke a b => simp [touches, isLoad]
  | _ => rw [hop] at h; simp_all [touches, isLoad, isStore, mustWrite, isCallOp, isAppendOp]

theorem rop_fl {call : Nat → Nat → List AV → Heap → Option (AV × Heap)} {fl fl' : Nat} {free : Bool} {X : RX → AV} {H : Heap} {r : ROp} {op : Op} (hk : kindOk op r = true)
    (h1 : isStore op = false) (h2 : mustWrite op = false) (h3 : isCallOp op = false) (h4 : isAppendOp op = false) : rop call fl free X H r = rop call fl' free X H r := by
  cases r <;> simp only [kindOk, h1, h2, h3, h4, Bool.false_eq_true] at hk <;> rfl

/-- A heap of which nothing is in force. -/
def deaden (H : Heap) : Heap := H.map killed
theorem deaden_get (H : Heap) (b : Nat) : (deaden H)[b]? = (H[b]?).map killed := by simp [deaden]
theorem deaden_act (H : Heap) (b : Nat) : (deaden H).act b = none := by
  cases h : H[b]? with
  | none => unfold Heap.act; rw [deaden_get, h]; rfl
  | some k => exact killed_act (k := k) (by rw [deaden_get, h]; rfl)

section
variable {P : Program} {vars : List Nat} {nt : Nat} {draw : Bool} {all : List Oper} {l : List ROper} {call : Nat → Nat → List AV → Heap → Option (AV × Heap)} {fl : Nat} {E L : List AV} {Hs : Nat → Heap} {n0 base : Nat}
variable {m0 : BMap} {w0 : World} {S : Nat → Bool} {p d : Nat} {m : BMap} {a : Act} {w : World}

theorem Act.put_defers' (a : Act) (x : Option Tmp) (v : Value) : (a.put x v).defers = a.defers := by cases x <;> rfl

theorem wpOp_of_ok {Q : Exit → Act → World → Prop} {K : Act → World → Prop} {i : Nat} {o : Oper} (ho : all[i]? = some o) (hw : Region.wanted o (yielded all.toArray a.tmps) = true)
    {fl' : Nat} {H H' : Heap} {v : AV} (h : OpOk P a.eval o n0 base fl' m H w v H')
    (hK : ∀ v' w' m', VRel m' v v' → Step n0 base fl' m H w m' H' w' → K (a.put o.dst v') w') : wpOp P all.toArray Q i K a w := by
  obtain ⟨v', w', m', h1, h2, h3⟩ := h
  have := hK v' w' m' h2 h3
  unfold wpOp
  simp only [List.getElem?_toArray, ho, hw, if_true, Oper.wp]
  left
  rcases h1 with h1 | ⟨h1, rfl⟩
  · rw [h1]; exact this
  · rw [h1]; exact this

theorem run_callOp {ρ : Operand → Value} {o : Oper} {c : Call} {x : Operand} {g : FuncId} {cs : List Value} (ho : o.op = .call c) (hc : c.callee = .value x) (hx : ρ x = .func (.func g) #[] ⟨cs⟩) (w : World) :
    (execOp ρ o).run P w = (callFunc g ⟨c.args.toList.map ρ ++ cs⟩).run P w := by
  have h1 : c.args.map ρ = ⟨c.args.toList.map ρ⟩ := by rw [← Array.toList_inj]; simp
  simp only [execOp, ho, resolve, hc, hx, Deferred.ofValue, Sem.run_bind, Sem.run_pure, Result.andThen_ok, invoke, h1]
  congr 2
  simp

theorem wpOp_call {Q : Exit → Act → World → Prop} {K : Act → World → Prop} {i : Nat} {o : Oper} (ho : all[i]? = some o) (hw : Region.wanted o (yielded all.toArray a.tmps) = true)
    {res : Operand → Option RX} {ap : List RX} {r : ROp} {X : RX → AV} {free : Bool} {H H' : Heap} {v : AV} (hco : compileOp P res ap o.op = some r) (hcl : isCallOp o.op = true) (hrun : rop call fl free X H r = some (v, H'))
    (hX : ∀ x rx, res x = some rx → VRel m (X rx) (a.eval x)) (hsound : CallSound P call) (hfl : n0 ≤ if free then fl else H.length) (hs : Sim n0 base m H w) (hfresh : ∀ b, H.length ≤ b → b < H'.length → m b = none)
    (hK : ∀ v' w' m', VRel m' v v' → Step n0 base (if free then fl else H.length) m H w m' H' w' → K (a.put o.dst v') w') : wpOp P all.toArray Q i K a w := by
  have key : ∀ (g : Nat) (args : List AV) (cargs : List Value), call (if free then fl else H.length) g args H = some (v, H') → VRels m args cargs →
      (∀ fn, P.funcs[g]? = some fn → fn.body.isSome = true → fn.name ≠ "runtime.NumGoroutine" → (execOp a.eval o).run P w = .ok (.enter g ⟨cargs⟩) w) → wpOp P all.toArray Q i K a w := fun g args cargs hcall hargs hrn => by
    obtain ⟨⟨fn, f1, f2, f3⟩, hh⟩ := hsound _ _ _ _ _ _ hcall
    have hcalls := hh n0 base m w cargs hfl hs hargs hfresh
    unfold wpOp
    simp only [List.getElem?_toArray, ho, hw, if_true, Oper.wp]
    left
    rw [hrn fn f1 f2 f3, Oper.upon_enter]
    refine Calls.mono hcalls fun e w' he => ?_
    obtain ⟨v', m', rfl, h1, h2⟩ := he
    exact hK v' w' m' h1 h2
  cases hop : o.op with
  | call c =>
    rw [hop] at hco hcl
    obtain ⟨cal, args, ts⟩ := c
    cases cal with
    | builtin b => simp [isCallOp] at hcl
    | invoke a b => simp [compileOp] at hco
    | value x =>
      by_cases hxf : ∃ f, x = .func f
      · obtain ⟨f, rfl⟩ := hxf
        simp only [compileOp, Option.map_eq_some_iff] at hco
        obtain ⟨l', hl', rfl⟩ := hco
        refine key f _ _ hrun (resL_rel hX hl') fun fn f1 f2 f3 => ?_
        rw [run_callOp (cs := []) hop rfl rfl, run_enter f1 f2 f3]
        simp
      · have hco2 : (match res x, resL res args.toList with | some a, some l => some (ROp.call a l) | _, _ => none) = some r := by
          cases x <;> simp only [compileOp] at hco <;> first | exact hco | exact absurd ⟨_, rfl⟩ hxf
        split at hco2
        · rename_i rx l' h1 h2
          simp only [Option.some.injEq] at hco2; subst hco2
          simp only [rop] at hrun
          have hx := hX _ _ h1
          split at hrun
          · rename_i g caps hXx
            rw [hXx] at hx
            obtain ⟨cs, hcs, hrel⟩ := hx
            refine key g _ _ hrun (VRels.append (resL_rel hX h2) hrel) fun fn f1 f2 f3 => ?_
            rw [run_callOp hop rfl hcs, run_enter f1 f2 f3]
          · simp at hrun
        · simp at hco2
  | _ => rw [hop] at hcl; simp [isCallOp] at hcl

/-! ### Loads -/

theorem ls_of {j : Nat} {o : Oper} (h : lsOnly all = true) (ho : all[j]? = some o) : touches o.op = false ∨ isLoad o.op = true ∨ isStore o.op = true := by
  have := List.all_eq_true.1 h o (List.mem_of_getElem? ho)
  simpa [or_assoc] using this

theorem apartB_ne {H : Heap} {b bs off : Nat} : ∀ {l : List AV}, apartB H bs l = true → AV.ptr b off ∈ l → b ≠ bs ∧ notKid H b bs = true
  | .ptr b' o' :: l, h, hm => by
    simp only [apartB, Bool.and_eq_true, bne_iff_ne] at h
    rcases List.mem_cons.1 hm with e | e
    · cases e; exact h.1
    · exact apartB_ne h.2 e
  | .int .. :: _, h, _ => by simp [apartB] at h
  | .bool _ :: _, h, _ => by simp [apartB] at h
  | .str _ :: _, h, _ => by simp [apartB] at h
  | .nilptr :: _, h, _ => by simp [apartB] at h
  | .slice .. :: _, h, _ => by simp [apartB] at h
  | .empty :: _, h, _ => by simp [apartB] at h
  | .func .. :: _, h, _ => by simp [apartB] at h
  | .nilfunc :: _, h, _ => by simp [apartB] at h
  | .agg _ :: l, h, hm => by
    simp only [apartB] at h
    rcases List.mem_cons.1 hm with e | e
    · cases e
    · exact apartB_ne h e
  | .tuple _ :: _, h, _ => by simp [apartB] at h

/-- A load's block is that of the variable at whose place it reads. -/
theorem Ctx.baseAt (C : Ctx P vars nt draw all l call fl E L Hs n0) {i : Nat} {x : Operand} {rx : RX} {y b off : Nat} (hres : resAt vars draw (ancs [] all) all i x = some rx)
    (hb : baseOf vars draw (ancs [] all) all i x = some y) (hev : RX.ev (L.take i) E rx = .ptr b off) : ∃ off', E.getD y .undef = .ptr b off' := by
  unfold baseOf at hb
  rw [hres] at hb
  cases rx with
  | var z =>
    simp only [Option.some.injEq] at hb; subst hb
    exact ⟨off, hev⟩
  | k v => simp at hb
  | loc k =>
    simp only at hb
    split at hb
    · rename_i o ho
      split at hb
      · rename_i s x' f hop
        split at hb
        · rename_i z hz
          simp only [Option.some.injEq] at hb; subst hb
          have hLk : L[k]? = some (.ptr b off) := by
            simp only [RX.ev, List.getD_eq_getElem?_getD, List.getElem?_take] at hev
            split at hev
            · cases hL : L[k]? with
              | none => rw [hL] at hev; simp [AV.undef] at hev
              | some v => rw [hL] at hev; simp only [Option.getD_some] at hev; rw [hev]
            · simp [AV.undef] at hev
          obtain ⟨rk, hrk, hc, hst⟩ := C.comp k o ho
          rcases hst with ⟨_, v, hv, hrun⟩ | ⟨_, hv, _⟩
          · obtain ⟨ap, _, hco, _⟩ := hc.code
            rw [hop] at hco
            simp only [compileOp] at hco
            split at hco
            · split at hco
              · split at hco
                · rename_i n a h1 h2
                  split at hco
                  · simp only [Option.some.injEq] at hco
                    rw [hz] at h2; cases h2
                    rw [← hco] at hrun
                    simp only [rop] at hrun
                    split at hrun
                    · rename_i b' o' he
                      simp only [Option.some.injEq, Prod.mk.injEq] at hrun
                      rw [hLk] at hv
                      simp only [Option.some.injEq] at hv
                      rw [← hrun.1] at hv
                      cases hv
                      exact ⟨o', he⟩
                    · simp at hrun
                  · simp at hco
                · simp at hco
              · simp at hco
            · simp at hco
          · rw [hLk] at hv; simp [AV.undef] at hv
        · simp at hb
      · simp at hb
    · simp at hb

theorem load_inv {res : Operand → Option RX} {ap : List RX} {op : Op} {r : ROp} (hco : compileOp P res ap op = some r) (h : isLoad op = true) : ∃ t x sz rx, op = .load t x ∧ r = .load sz rx ∧ res x = some rx := by
  cases op with
  | load t x =>
    simp only [compileOp] at hco
    split at hco
    · rename_i sz rx h1 h2
      simp only [Option.some.injEq] at hco
      exact ⟨t, x, sz, rx, rfl, hco.symm, h2⟩
    · simp at hco
  | _ => simp [isLoad] at h

theorem store_inv {res : Operand → Option RX} {ap : List RX} {op : Op} {r : ROp} (hco : compileOp P res ap op = some r) (h : isStore op = true) : ∃ n x v, r = .store n x v ap := by
  cases op with
  | store t x v =>
    simp only [compileOp] at hco
    split at hco
    · rename_i n a b h1 h2 h3
      simp only [Option.some.injEq] at hco
      exact ⟨n, a, b, hco.symm⟩
    · simp at hco
  | _ => simp [isStore] at h

/-- A step beside a load, in a region of loads and stores, leaves the load's block alone. -/
theorem Ctx.keeps (C : Ctx P vars nt draw all l call fl E L Hs n0) {i s : Nat} {o : Oper} {t : TypeId} {x : Operand} {rx : RX} {b off : Nat} (ho : all[i]? = some o) (hop : o.op = .load t x)
    (hres : resAt vars draw (ancs [] all) all i x = some rx) (hev : RX.ev (L.take i) E rx = .ptr b off) (hls : lsOnly all = true) (hs : s < all.length) (hun : solidAt all l s → ordB draw (ancs [] all) s i = false) :
    (Hs (s + 1))[b]? = (Hs s)[b]? ∧ ∀ k c, (Hs s)[b]? = some k → k.kid = some c → (Hs (s + 1))[c]? = (Hs s)[c]? := by
  obtain ⟨os, hos⟩ : ∃ o, all[s]? = some o := ⟨_, List.getElem?_eq_getElem hs⟩
  obtain ⟨rs, hrs, hc, hst⟩ := C.comp s os hos
  rcases hst with ⟨_, v, _, hrun⟩ | ⟨_, _, h⟩
  · obtain ⟨ap, hap, hco, _⟩ := hc.code
    rcases ls_of hls hos with h | h | h
    · rw [(rop_pure (touches_pure hco h) hrun).1]; exact ⟨rfl, fun _ _ _ _ => rfl⟩
    · obtain ⟨_, _, sz, rx', _, hr, _⟩ := load_inv hco h
      rw [hr] at hrun
      simp only [rop] at hrun
      split at hrun
      · simp only [Option.map_eq_some_iff, Prod.mk.injEq] at hrun
        obtain ⟨_, _, _, h⟩ := hrun
        rw [h]; exact ⟨rfl, fun _ _ _ _ => rfl⟩
      · simp at hrun
    · have hsol : solidAt all l s := ⟨os, rs, hos, hrs, by simp [solidB, h]⟩
      have hunord := hun hsol
      rw [if_pos h] at hap
      have hne : s ≠ i := fun e => by
        subst e; rw [hos] at ho; cases ho
        rw [hop] at h; simp [isStore] at h
      rcases apartOf_ord hap i o ho (by simpa using Ne.symm hne) (by rw [hop]; rfl) with h' | ⟨t', x', y, h1, h2, h3⟩
      · rw [Nat.zero_add, hunord] at h'; simp at h'
      · rw [hop] at h1; cases h1
        rw [Nat.zero_add] at h2
        obtain ⟨off', hev'⟩ := C.baseAt hres h2 hev
        obtain ⟨n, xs, vs, hr⟩ := store_inv hco h
        rw [hr] at hrun
        simp only [rop] at hrun
        split at hrun
        · rename_i bs offs hbs
          split at hrun
          · rename_i hcond
            simp only [Option.map_eq_some_iff, Prod.mk.injEq] at hrun
            obtain ⟨H', hput, _, rfl⟩ := hrun
            obtain ⟨hb, hkid⟩ := apartB_ne hcond.2 (List.mem_map.2 ⟨.var y, h3, hev'⟩)
            unfold rput at hput
            split at hput
            · split at hput
              · simp only [Option.some.injEq] at hput
                refine ⟨by rw [← hput, List.getElem?_set_ne (by omega)], fun k c hk hc => ?_⟩
                have hcb : c ≠ bs := fun e => by
                  unfold notKid at hkid
                  split at hkid
                  · rename_i k' hk'
                    have := act_get hk'
                    rw [hk] at this; cases this
                    rw [hc, e] at hkid; simp at hkid
                  · cases hkid
                rw [← hput, List.getElem?_set_ne (by omega)]
              · simp at hput
            · simp at hput
          · simp at hrun
        · simp at hrun
  · rw [h]; exact ⟨rfl, fun _ _ _ _ => rfl⟩

theorem Ctx.keepsTo (C : Ctx P vars nt draw all l call fl E L Hs n0) {i : Nat} {o : Oper} {t : TypeId} {x : Operand} {rx : RX} {b off : Nat} (ho : all[i]? = some o) (hop : o.op = .load t x)
    (hres : resAt vars draw (ancs [] all) all i x = some rx) (hev : RX.ev (L.take i) E rx = .ptr b off) (hls : lsOnly all = true) {q : Nat} : ∀ {r : Nat}, q ≤ r → r ≤ all.length → (∀ s, q ≤ s → s < r → solidAt all l s → ordB draw (ancs [] all) s i = false) → (Hs r)[b]? = (Hs q)[b]? ∧ ∀ k c, (Hs q)[b]? = some k → k.kid = some c → (Hs r)[c]? = (Hs q)[c]? := by
  intro r
  induction r with
  | zero => intro h _ _; have : q = 0 := by omega
            rw [this]; exact ⟨rfl, fun _ _ _ _ => rfl⟩
  | succ r ih =>
    intro h1 h2 h3
    by_cases e : q = r + 1
    · rw [e]; exact ⟨rfl, fun _ _ _ _ => rfl⟩
    · obtain ⟨a1, a2⟩ := C.keeps ho hop hres hev hls (by omega) (h3 r (by omega) (by omega))
      obtain ⟨b1, b2⟩ := ih (by omega) (by omega) fun s g1 g2 => h3 s g1 (by omega)
      exact ⟨a1.trans b1, fun k c hk hc => (a2 k c (by rw [b1]; exact hk) hc).trans (b2 k c hk hc)⟩

theorem act_same2 {H H' : Heap} {b : Nat} (h : H'[b]? = H[b]?) (hk : ∀ k c, H[b]? = some k → k.kid = some c → H'[c]? = H[c]?) : H'.act b = H.act b := by
  unfold Heap.act
  rw [h]
  cases hb : H[b]? with
  | none => rfl
  | some k =>
    simp only
    have : H'.rev k = H.rev k := by
      unfold Heap.rev
      cases hc : k.kid with
      | none => rfl
      | some c => simp only [hk k c hb hc]
    rw [this]

theorem same_symm {H H' : Heap} {b : Nat} (h : H'[b]? = H[b]? ∧ ∀ k c, H[b]? = some k → k.kid = some c → H'[c]? = H[c]?) : H[b]? = H'[b]? ∧ ∀ k c, H'[b]? = some k → k.kid = some c → H[c]? = H'[c]? :=
  ⟨h.1.symm, fun k c hk hc => (h.2 k c (by rw [← h.1]; exact hk) hc).symm⟩

/-- The load sees, in the world as it is, what it sees at its own place. -/
theorem Inv.loadAt (C : Ctx P vars nt draw all l call fl E L Hs n0) (I : Inv vars nt draw all l fl E L Hs n0 base m0 w0 S p d m a w) {i : Nat} {o : Oper} {ro : ROper} (ho : all[i]? = some o) (hro : l[i]? = some ro) (hc : Comp P vars nt draw (ancs [] all) all i o ro)
    (hr : Ready draw all S i) (hld : isLoad o.op = true) {v : AV} (hrun : rop call fl ro.free (RX.ev (L.take i) E) (Hs i) ro.op = some (v, Hs (i + 1))) :
    ∃ G, n0 ≤ G.length ∧ Sim n0 base m G w ∧ rop call G.length ro.free (RX.ev (L.take i) E) G ro.op = some (v, G) := by
  have hil : i < all.length := (List.getElem?_eq_some_iff.1 ho).1
  obtain ⟨ap, hap, hco, hls0⟩ := hc.code
  obtain ⟨t, x, sz, rx, hop, hrop, hres⟩ := load_inv hco hld
  have hlow : ∀ j, j ≤ all.length → n0 ≤ (Hs j).length := fun j hj => Nat.le_trans C.low0 (C.len (Nat.zero_le j) hj)
  rw [hrop] at hrun ⊢
  simp only [rop] at hrun ⊢
  split at hrun
  · rename_i b off hev
    simp only [Option.map_eq_some_iff, Prod.mk.injEq] at hrun
    obtain ⟨v0, hv0, rfl, _⟩ := hrun
    by_cases hin : p ≤ i ∧ i ≤ p + d
    · exact ⟨Hs i, hlow i (by omega), I.sim C hin.1 hin.2, by simp only [hev, hv0, Option.map_some]⟩
    · have hnsi : ¬ solidAt all l i := fun ⟨o', r', a1, a2, a3⟩ => by
        rw [ho] at a1; cases a1
        have := (solid_touches a3).2; rw [hld] at this; simp at this
      -- a solid operation between: it is open against the load
      have hopen : ∀ s, solidAt all l s → (i < s ∧ s < p) ∨ (p ≤ s ∧ s < i) → ordB draw (ancs [] all) s i = false := fun s hs hw => by
        cases ho' : ordB draw (ancs [] all) s i with
        | false => rfl
        | true =>
          exfalso
          rcases pre_of_ord ho' with ⟨h, hp⟩ | ⟨h, hp⟩
          · rcases hw with ⟨_, h2⟩ | ⟨_, h2⟩
            · have := I.closed s i ((I.solid s hs).2 h2) hp
              rw [hr.un] at this; simp at this
            · omega
          · rcases hw with ⟨h1, _⟩ | ⟨h1, h2⟩
            · omega
            · have := (I.solid s hs).1 (hr.pre s hp); omega
      have hls : lsOnly all = true := by
        obtain ⟨s, hs, hw⟩ : ∃ s, solidAt all l s ∧ ((i < s ∧ s < p) ∨ (p ≤ s ∧ s < i)) := by
          rcases Nat.lt_or_ge i p with h | h
          · rcases I.pstart with h0 | h0
            · omega
            · refine ⟨p - 1, h0, .inl ⟨?_, by omega⟩⟩
              have : p - 1 ≠ i := fun e => hnsi (e ▸ h0)
              omega
          · rcases I.qend with h0 | h0
            · omega
            · exact ⟨p + d, h0, .inr ⟨by omega, by omega⟩⟩
        have hord := hopen s hs hw
        obtain ⟨os, rs, hos, hrs, hsol⟩ := hs
        obtain ⟨rs', g1, g2, _⟩ := C.comp s os hos
        rw [hrs] at g1; cases g1
        have hne : i ≠ s := by omega
        have ht : touches o.op = true := by rw [hop]; rfl
        have hnf : rs.free = false := by
          cases hf : rs.free with
          | false => rfl
          | true => have := freeAt_ord (g2.free ▸ hf) ho hne ht; rw [hord] at this; simp at this
        have hnm : mustWrite os.op = false := by
          cases hf : mustWrite os.op with
          | false => rfl
          | true => have := freeAt_ord (g2.must hf) ho hne ht; rw [hord] at this; simp at this
        have hst : isStore os.op = true := by
          unfold solidB at hsol
          simpa [hnf, hnm] using hsol
        obtain ⟨aps, haps, _, hlsx⟩ := g2.code
        rw [if_pos hst] at haps
        rcases apartOf_ord haps i o ho (by simpa using hne) ht with h' | ⟨_, _, y, _, _, h3⟩
        · rw [Nat.zero_add, hord] at h'; simp at h'
        · cases aps with
          | nil => simp at h3
          | cons _ _ => simpa using hlsx
      have hsame : (Hs p)[b]? = (Hs i)[b]? ∧ ∀ k c, (Hs i)[b]? = some k → k.kid = some c → (Hs p)[c]? = (Hs i)[c]? := by
        have hpl : p ≤ all.length := by have := I.hq; omega
        rcases Nat.lt_or_ge i p with h | h
        · exact C.keepsTo ho hop hres hev hls (by omega) hpl fun s g1 g2 hs => hopen s hs (.inl ⟨by
            have : s ≠ i := fun e => hnsi (e ▸ hs)
            omega, g2⟩)
        · exact same_symm (C.keepsTo ho hop hres hev hls h (by omega) fun s g1 g2 hs => hopen s hs (.inr ⟨g1, g2⟩))
      refine ⟨Hs p, hlow p (by have := I.hq; omega), I.sim C (Nat.le_refl _) (by omega), ?_⟩
      have hblk : (Hs p).act b = (Hs i).act b := act_same2 hsame.1 hsame.2
      have : rload (Hs p) sz b off = some v0 := by
        unfold rload at hv0 ⊢; rw [hblk]; exact hv0
      simp only [hev, this, Option.map_some]
  · simp at hrun

theorem appAt {o : Oper} {ρ : Operand → Value} {res : Operand → Option RX} {ap : List RX} {r : ROp} {X : RX → AV} {free : Bool} {H H' : Heap} {v : AV} (hco : compileOp P res ap o.op = some r) (happ : isAppendOp o.op = true)
    (hrun : rop call fl free X H r = some (v, H')) (hX : ∀ x rx, res x = some rx → VRel m (X rx) (ρ x)) (hs : Sim n0 base m H w) (hfl : n0 ≤ fl) :
    ∃ v' w', (execOp ρ o).run P w = .ok (.value v') w' ∧ AppRes fl free m H w v H' v' w' := by
  cases hop : o.op with
  | call c =>
    rw [hop] at hco happ
    obtain ⟨cal, args, ts⟩ := c
    cases cal with
    | builtin b =>
      cases b <;> simp [isAppendOp] at happ
      exact op_append hop rfl hco hrun hX hs hfl
    | invoke a b => simp [isAppendOp] at happ
    | value x => simp [isAppendOp] at happ
  | _ => rw [hop] at happ; simp [isAppendOp] at happ

theorem Inv.appStep (C : Ctx P vars nt draw all l call fl E L Hs n0) (I : Inv vars nt draw all l fl E L Hs n0 base m0 w0 S p d m a w) {i : Nat} {o : Oper} {ro : ROper} (ho : all[i]? = some o) (hc : Comp P vars nt draw (ancs [] all) all i o ro)
    (hr : Ready draw all S i) (hn : ¬ solidAt all l i) (h1 : p ≤ i) (h2 : i < p + d) {v : AV} {v' : Value} {w' : World} (hL : L[i]? = some v) (h : AppRes fl false m (Hs i) w v (Hs (i + 1)) v' w') :
    ∃ m', Inv vars nt draw all l fl E L Hs n0 base m0 w0 (setS S i) p d m' (a.put o.dst v') w' := by
  have hil : i < all.length := by have := I.hq; omega
  have hs := I.sim C h1 (by omega)
  have hlow : n0 ≤ (Hs i).length := Nat.le_trans C.low0 (C.len (Nat.zero_le i) (by omega))
  have hn' : (Hs i).length < (Hs (i + 1)).length → m (Hs i).length = none := fun h => I.fresh C h1 hil hr.un (Nat.le_refl _) h
  generalize hH1 : Hs (i + 1) = H1 at h
  cases h with
  | same hv => exact ⟨m, I.still C ho hc hr hn ⟨rfl, rfl, rfl, Nat.le_refl _⟩ (fun _ _ => rfl) hL hv⟩
  | push hk hrel hle hcap =>
    obtain ⟨m', hv, hst⟩ := app_step (fl := (Hs i).length) (AppRes.push (fl := (Hs i).length) (free := false) (H := Hs i) (w := w) (m := m) hk hrel hle hcap) hs hlow (fun h => hn' (by rw [hH1]; exact h))
    rw [← hH1] at hst
    exact ⟨m', I.quiet C ho hc hr hn h1 h2 hst hL hv⟩
  | put hfree => simp at hfree
  | topIn hflb hact hlive hm he hoff hfull hrel hxs hsc hcap hle =>
    rename_i b off n k e cap blk lb xs ys
    have hyl := hrel.length
    have hn0b := Nat.le_trans C.flow hflb
    have hroom : lb.co + blk.cells.length + ys.length ≤ lb.co + lb.room := by
      rw [← hyl, hxs]
      have : (n + k) * e ≤ cap * e := Nat.mul_le_mul_right _ hle
      rw [Nat.add_mul] at this
      have := (hs.cells b blk lb hact hm).2.1
      omega
    obtain ⟨b1, b2⟩ := beyond_sim hs hn0b hact hlive hm (vs := ys) (Nat.le_refl _) hroom
    obtain ⟨p1, p2, p3⟩ := b2.own b blk lb hn0b hact hm
    obtain ⟨s1, s2, s3⟩ := setCells_os lb.cb ys (lb.co + blk.cells.length) w
    have ssz := setCells_size lb.cb ys (lb.co + blk.cells.length) w
    have hcl : (blk.cells.drop off ++ xs).length ≤ lb.room - off := by
      simp only [List.length_append, List.length_drop]; omega
    refine ⟨_, I.top C ho hc hr hn h1 h2 (l2 := ⟨lb.cb, lb.co + off, lb.room - off, e⟩) hflb hact hlive hm hH1 ⟨rfl, rfl⟩ rfl hcl
      (tail_cells (hs.cells b blk lb hact hm).2.2 hrel hoff _ _ fun j hj => (b1 j hj).1) ⟨p1, p2⟩ (room_shift p3 off e) (.inl ⟨rfl, by simp only [List.length_append, List.length_drop]; omega⟩) ⟨s1, s2, s3, by rw [ssz]; exact Nat.le_refl _⟩
      (fun c hc hne => setCells_other _ _ _ _ _ hne) (fun off' ho' => by rw [cell_setCells (fun j hj => (b1 j hj).1), if_neg (by omega)])
      (fun lo hlo hR => ⟨fun j hj => by
        rw [hlo, cell_setCells (fun j hj => (b1 j hj).1)]
        split
        · rw [List.getElem?_eq_getElem (by omega)]; rfl
        · have := hR.cell j hj; rwa [hlo] at this, fun j => by rw [World.frozen?_setCells]; exact hR.soft j⟩) hL ⟨_, _, rfl, hle, _, upd_same _ _ _, ?_, .inl (by simp)⟩⟩
    show 0 + cap * e = lb.room - off
    omega
  | topNew hflb hact hlive hm hrel hle hcap =>
    rename_i b off n k e cap blk lb xs cs rest t
    obtain ⟨c1, c2⟩ := new_cells (w := w) (rest := rest) hrel t e
    have hsz : (w.drew.alloc (.cells (cs ++ rest).toArray t)).heap.size = w.heap.size + 1 := by simp
    have hlb := (hs.own b blk lb (Nat.le_trans C.flow hflb) hact hm).2.1
    refine ⟨_, I.top C ho hc hr hn h1 h2 (l2 := ⟨w.heap.size, 0, (cs ++ rest).length, e⟩) hflb hact hlive hm hH1 ⟨rfl, rfl⟩ rfl (by simp [hrel.length]) c1 ⟨hs.size, by rw [hsz]; simp⟩ c2 (.inr (Nat.le_refl _)) ⟨rfl, rfl, rfl, by rw [hsz]; omega⟩
      (fun c hc _ => drew_alloc_old w _ c hc) (fun off' _ => cell_of_heap (drew_alloc_old w _ _ hlb) _) (fun lo hlo hR => room_of_heap (drew_alloc_old w _ _ (by omega)) hR) hL ⟨_, _, rfl, hle, _, upd_same _ _ _, ?_, .inl (by simp)⟩⟩
    show 0 + cap * e = _
    rw [hcap]; simp
  | reviveIn hfree => simp at hfree
  | reviveNew hfree => simp at hfree

theorem Inv.step (C : Ctx P vars nt draw all l call fl E L Hs n0) (I : Inv vars nt draw all l fl E L Hs n0 base m0 w0 S p d m a w) {i : Nat} (hil : i < all.length) (hr : Ready draw all S i)
    {Q : Exit → Act → World → Prop} {K : Act → World → Prop} (hK : ∀ p' d' m' a' w', a'.defers = a.defers → Inv vars nt draw all l fl E L Hs n0 base m0 w0 (setS S i) p' d' m' a' w' → K a' w') : wpOp P all.toArray Q i K a w := by
  obtain ⟨o, ho⟩ : ∃ o, all[i]? = some o := ⟨_, List.getElem?_eq_getElem hil⟩
  obtain ⟨ro, hro, hc, hst⟩ := C.comp i o ho
  have hsolid : solidAt all l i ↔ solidB o ro.free = true := ⟨fun ⟨o', r', a1, a2, a3⟩ => by rw [ho] at a1; rw [hro] at a2; cases a1; cases a2; exact a3, fun h => ⟨o, ro, ho, hro, h⟩⟩
  have hguard := I.guard C ho hc hr.pre
  rcases hst with ⟨hw, v, hL, hrun⟩ | ⟨hw, hL, hHs⟩
  · -- the operation runs
    rw [hw] at hguard
    obtain ⟨ap, hap, hco, hls⟩ := hc.code
    have hX : ∀ x rx, resAt vars draw (ancs [] all) all i x = some rx → VRel m (RX.ev (L.take i) E rx) (a.eval x) := fun x rx h => I.opnd C hil hr.un hr.pre h
    have hXk : ∀ v, RX.ev (L.take i) E (.k v) = v := fun _ => rfl
    have hkind := compile_kind hco
    by_cases ht : touches o.op = true
    · by_cases hld : isLoad o.op = true
      · -- a load
        have hns : ¬ solidAt all l i := fun h => by have := (solid_touches (hsolid.1 h)).2; rw [hld] at this; simp at this
        have hcl : isCallOp o.op = false := by cases hop : o.op <;> rw [hop] at hld <;> simp_all [isLoad, isCallOp]
        obtain ⟨G, hG1, hG2, hG3⟩ := I.loadAt C ho hro hc hr hld hrun
        refine wpOp_of_ok ho hguard (op_sound hco hG3 hX hXk hG2 hG1 (fun h => by omega) hcl) fun v' w' m' hv hstep => ?_
        have hmm : m' = m := by
          funext b
          cases hb : m b with
          | some lo => exact hstep.ext b lo hb
          | none =>
            cases hb' : m' b with
            | none => rfl
            | some lo => have := hstep.new b lo hb' hb; omega
        subst hmm
        exact hK p d m' _ w' (Act.put_defers' _ _ _) (I.still C ho hc hr hns ⟨hstep.os, hstep.tape, hstep.output, hstep.size⟩ (fun c hcl => hstep.frame c hcl fun ⟨b, k, lo, h1, ha, _⟩ => by have := act_lt ha; omega) hL hv)
      · simp only [Bool.not_eq_true] at hld
        obtain ⟨hp1, hpos⟩ := I.pos C ho hro ht hld hr.un hr.pre
        rcases hpos with ⟨hp2, hns⟩ | ⟨hp2, hsol⟩
        · have hnsolid : ¬ solidAt all l i := fun h => by rw [hsolid.1 h] at hns; simp at hns
          have hs := I.sim C hp1 (by omega)
          have hlow : n0 ≤ (Hs i).length := Nat.le_trans C.low0 (C.len (Nat.zero_le i) (by omega))
          unfold solidB at hns
          simp only [Bool.or_eq_false_iff, Bool.and_eq_false_iff] at hns
          obtain ⟨⟨hns1, hns2⟩, hns3⟩ := hns
          by_cases hcl : isCallOp o.op = true
          · have hnf : ro.free = false := by rcases hns3 with ⟨h, _⟩ | h; · rw [hcl] at h; simp at h
                                             · exact h
            rw [hnf] at hrun
            refine wpOp_call ho hguard hco hcl hrun hX C.sound (by simpa using hlow) hs (fun b g1 g2 => I.fresh C hp1 hil hr.un g1 g2) fun v' w' m' hv hstep => ?_
            exact hK p d m' _ w' (Act.put_defers' _ _ _) (I.quiet C ho hc hr hnsolid hp1 hp2 (by simpa using hstep) hL hv)
          · simp only [Bool.not_eq_true] at hcl
            by_cases happ : isAppendOp o.op = true
            · have hnf : ro.free = false := by rcases hns3 with ⟨_, h⟩ | h; · rw [happ] at h; simp at h
                                               · exact h
              rw [hnf] at hrun
              obtain ⟨v', w', hex, hres⟩ := appAt hco happ hrun hX hs C.flow
              obtain ⟨m', I'⟩ := I.appStep C ho hc hr hnsolid hp1 hp2 hL hres
              have hgo : K (a.put o.dst v') w' := hK p d m' _ w' (Act.put_defers' _ _ _) I'
              unfold wpOp
              simp only [List.getElem?_toArray, ho, hguard, if_true, Oper.wp]
              left
              rw [hex]; exact hgo
            · simp only [Bool.not_eq_true] at happ
              have hrun' := hrun
              rw [rop_fl (fl' := (Hs i).length) hkind hns1 hns2 hcl happ] at hrun'
              refine wpOp_of_ok ho hguard (op_sound hco hrun' hX hXk hs hlow (fun h => I.fresh C hp1 hil hr.un (Nat.le_refl _) h) hcl) fun v' w' m' hv hstep => ?_
              exact hK p d m' _ w' (Act.put_defers' _ _ _) (I.quiet C ho hc hr hnsolid hp1 hp2 hstep hL hv)
        · have hs := I.sim C hp1 (by omega)
          have hfin : ∀ v' w' m', VRel m' v v' → Step n0 base fl m (Hs i) w m' (Hs (i + 1)) w' → K (a.put o.dst v') w' := fun v' w' m' hv hstep => by
            obtain ⟨p', d', I'⟩ := I.solidStep C ho hc hr (hsolid.2 hsol) hp2 hstep hL hv
            exact hK p' d' m' _ w' (Act.put_defers' _ _ _) I'
          by_cases hcl : isCallOp o.op = true
          · have hfree : ro.free = true := by
              unfold solidB at hsol
              cases hop : o.op with
              | call c =>
                rw [hop] at hsol hcl
                obtain ⟨cal, args, ts⟩ := c
                cases cal <;> simp_all [isStore, mustWrite, isCallOp, isAppendOp]
              | _ => rw [hop] at hcl; simp [isCallOp] at hcl
            rw [hfree] at hrun
            exact wpOp_call ho hguard hco hcl hrun hX C.sound (by simpa using C.flow) hs (fun b g1 g2 => I.fresh C hp1 hil hr.un g1 g2) fun v' w' m' hv hstep => hfin v' w' m' hv (by simpa using hstep)
          · simp only [Bool.not_eq_true] at hcl
            exact wpOp_of_ok ho hguard (op_sound hco hrun hX hXk hs C.flow (fun h => I.fresh C hp1 hil hr.un (Nat.le_refl _) h) hcl) hfin
    · -- a pure operation
      simp only [Bool.not_eq_true] at ht
      have hns : ¬ solidAt all l i := fun h => by have := (solid_touches (hsolid.1 h)).1; rw [ht] at this; simp at this
      have hcl : isCallOp o.op = false := by
        cases hop : o.op with
        | call c => rw [hop] at ht; obtain ⟨cal, args, ts⟩ := c; cases cal <;> simp_all [touches, isCallOp]
        | _ => rfl
      have hpure := touches_pure hco ht
      obtain ⟨hHs, hp⟩ := rop_pure hpure hrun
      have hrun' := hp (deaden (Hs i)) fun b => by rw [deaden_get]; cases (Hs i)[b]? <;> rfl
      have hs : Sim n0 base m (deaden (Hs i)) w := by
        refine ⟨I.wsz, by simpa [deaden] using Nat.le_trans C.low0 (C.len (Nat.zero_le i) (by omega)), fun b c k hk hkc => ?_, fun b k lo hk hm => ?_, fun b k lo ha => ?_, I.ro, fun b k lo _ ha => ?_, fun b b' k k' lo lo' _ _ ha => ?_⟩
        · rw [deaden_get, Option.map_eq_some_iff] at hk; obtain ⟨_, _, rfl⟩ := hk; simp [killed] at hkc
        · rw [deaden_get, Option.map_eq_some_iff] at hk; obtain ⟨k0, hk0, rfl⟩ := hk
          show lo.e = k0.e
          exact I.esAt C (i := i) (by omega) hk0 hm
        · rw [deaden_act] at ha; simp at ha
        · rw [deaden_act] at ha; simp at ha
        · rw [deaden_act] at ha; simp at ha
      refine wpOp_of_ok ho hguard (op_sound hco hrun' hX hXk hs C.flow (fun h => by omega) hcl) fun v' w' m' hv hstep => ?_
      have hmm : m' = m := by
        funext b
        cases hb : m b with
        | some lo => exact hstep.ext b lo hb
        | none =>
          cases hb' : m' b with
          | none => rfl
          | some lo => have := hstep.new b lo hb' hb; omega
      subst hmm
      exact hK p d m' _ w' (Act.put_defers' _ _ _) (I.still C ho hc hr hns ⟨hstep.os, hstep.tape, hstep.output, hstep.size⟩ (fun c hcl => hstep.frame c hcl fun ⟨b, k, lo, _, ha, _⟩ => by rw [deaden_act] at ha; simp at ha) hL hv)
  · -- the operation is passed over
    rw [hw] at hguard
    have hgo : K (a.put o.dst undef) w := by
      by_cases hsol : solidAt all l i
      · obtain ⟨ht, hl⟩ := solid_touches (hsolid.1 hsol)
        obtain ⟨hp1, hpos⟩ := I.pos C ho hro ht hl hr.un hr.pre
        rcases hpos with ⟨_, h⟩ | ⟨hp2, _⟩
        · rw [hsolid.1 hsol] at h; simp at h
        · have hs := I.sim C hp1 (by omega)
          obtain ⟨p', d', I'⟩ := I.solidStep C ho hc hr hsol hp2 (m' := m) (w' := w) (by rw [hHs]; exact Step.refl hs) hL (VRel.undef m)
          exact hK p' d' m _ w (Act.put_defers' _ _ _) I'
      · exact hK p d m _ w (Act.put_defers' _ _ _) (I.still C ho hc hr hsol ⟨rfl, rfl, rfl, Nat.le_refl _⟩ (fun _ _ => rfl) hL (VRel.undef m))
    unfold wpOp
    simp only [List.getElem?_toArray, ho, hguard, Bool.false_eq_true, if_false]
    exact hgo

end
end Go.RM

/-
  A region, whole.
-/
namespace Go.RM
set_option linter.unusedSimpArgs false
set_option linter.unusedVariables false

theorem edges_get {i0 : Nat} : ∀ {l : List Oper} {i0 : Nat}, edgesB l i0 = true → ∀ (k : Nat) (o : Oper), l[k]? = some o → ∀ e ∈ o.after, Region.binds .any e = true → e.on < i0 + k
  | [], _, _, k, o, h => by simp at h
  | o' :: l, i0, h, k, o, ho => by
    simp only [edgesB, Bool.and_eq_true] at h
    cases k with
    | zero =>
      simp only [List.getElem?_cons_zero, Option.some.injEq] at ho; subst ho
      intro e he hb
      have := List.all_eq_true.1 h.1 e (by simpa using he)
      simpa [hb] using this
    | succ k =>
      intro e he hb
      have := edges_get (i0 := 0) h.2 k o (by simpa using ho) e he hb
      omega

theorem foldBits (acc : List Nat) (k : Nat) : ∀ (es : List Edge) (s : Nat), (es.foldl (fun s e => if Region.binds .any e then s ||| 2 ^ e.on ||| acc.getD e.on 0 else s) s).testBit k = true →
    s.testBit k = true ∨ ∃ e ∈ es, Region.binds .any e = true ∧ (k = e.on ∨ (acc.getD e.on 0).testBit k = true)
  | [], s, h => .inl h
  | e :: es, s, h => by
    rw [List.foldl_cons] at h
    rcases foldBits acc k es _ h with h1 | ⟨e', h1, h2⟩
    · split at h1
      · rename_i hb
        rw [Nat.testBit_or, Nat.testBit_or, Bool.or_eq_true, Bool.or_eq_true] at h1
        rcases h1 with (h1 | h1) | h1
        · exact .inl h1
        · rw [Nat.testBit_two_pow] at h1
          simp only [decide_eq_true_eq] at h1
          exact .inr ⟨e, by simp, hb, .inl h1.symm⟩
        · exact .inr ⟨e, by simp, hb, .inr h1⟩
      · exact .inl h1
    · exact .inr ⟨e', List.mem_cons_of_mem _ h1, h2⟩

theorem ancs_acc : ∀ (l : List Oper) (acc : List Nat) (j : Nat), j < acc.length → (ancs acc l).getD j 0 = acc.getD j 0
  | [], acc, j, _ => rfl
  | o :: l, acc, j, h => by
    rw [ancs, ancs_acc l _ j (by simp; omega)]
    simp only [List.getD_eq_getElem?_getD]
    rw [List.getElem?_append_left h]

theorem ancs_bits : ∀ (l : List Oper) (acc : List Nat) (i : Nat) (o : Oper) (k : Nat), l[i]? = some o → ((ancs acc l).getD (acc.length + i) 0).testBit k = true →
    ∃ e ∈ o.after, Region.binds .any e = true ∧ (k = e.on ∨ ((ancs acc l).getD e.on 0).testBit k = true)
  | [], acc, i, o, k, h, _ => by simp at h
  | o' :: l, acc, 0, o, k, h, hb => by
    simp only [List.getElem?_cons_zero, Option.some.injEq] at h; subst h
    rw [ancs] at hb ⊢
    rw [ancs_acc l _ _ (by simp)] at hb
    simp only [Nat.add_zero, List.getD_eq_getElem?_getD] at hb
    rw [List.getElem?_append_right (Nat.le_refl _)] at hb
    simp only [Nat.sub_self, List.getElem?_cons_zero, Option.getD_some] at hb
    have := foldBits acc k _ _ (by simpa only [List.getD_eq_getElem?_getD] using hb)
    rcases this with h1 | ⟨e, h1, h2, h3⟩
    · simp at h1
    · refine ⟨e, by simpa using h1, h2, h3.imp id fun h3 => ?_⟩
      have hl : e.on < acc.length := by
        rcases Nat.lt_or_ge e.on acc.length with h | h
        · exact h
        · rw [List.getD_eq_getElem?_getD, List.getElem?_eq_none h] at h3; simp at h3
      rw [ancs_acc l _ _ (by simp; omega)]
      simp only [List.getD_eq_getElem?_getD] at h3 ⊢
      rw [List.getElem?_append_left hl]; exact h3
  | o' :: l, acc, i + 1, o, k, h, hb => by
    rw [ancs] at hb ⊢
    refine ancs_bits l _ i o k (by simpa using h) ?_
    rw [List.length_append, List.length_singleton, Nat.add_assoc, Nat.add_comm 1 i]
    exact hb

theorem pre_bits {all : List Oper} {i k : Nat} {o : Oper} (ho : all[i]? = some o) (h : preB true (ancs [] all) k i = true) :
    ∃ e ∈ o.after, Region.binds .any e = true ∧ (k = e.on ∨ preB true (ancs [] all) k e.on = true) := by
  unfold preB at h ⊢
  simp only [if_true] at h ⊢
  exact ancs_bits all [] i o k ho (by simpa using h)

/-! ### The trace of a run -/

def StepOff (call : Nat → Nat → List AV → Heap → Option (AV × Heap)) (fl : Nat) (E L : List AV) (Hs : Nat → Heap) (k i : Nat) (ro : ROper) : Prop :=
  (wantedB ro.guard (L.take (k + i)) = true ∧ ∃ v, L[k + i]? = some v ∧ rop call fl ro.free (RX.ev (L.take (k + i)) E) (Hs i) ro.op = some (v, Hs (i + 1))) ∨
  (wantedB ro.guard (L.take (k + i)) = false ∧ L[k + i]? = some .undef ∧ Hs (i + 1) = Hs i)

theorem rops_trace {call : Nat → Nat → List AV → Heap → Option (AV × Heap)} {fl : Nat} {E : List AV} : ∀ {l : List ROper} {L0 L : List AV} {H H' : Heap}, rops call fl E l L0 H = some (L, H') →
    L.length = L0.length + l.length ∧ L.take L0.length = L0 ∧ ∃ Hs : Nat → Heap, Hs 0 = H ∧ Hs l.length = H' ∧ ∀ (i : Nat) (ro : ROper), l[i]? = some ro → StepOff call fl E L Hs L0.length i ro
  | [], L0, L, H, H', h => by
    simp only [rops, Option.some.injEq, Prod.mk.injEq] at h
    obtain ⟨rfl, rfl⟩ := h
    exact ⟨rfl, by simp, fun _ => H, rfl, rfl, fun i ro h => by simp at h⟩
  | o :: l, L0, L, H, H', h => by
    have key : ∀ (v : AV) (H1 : Heap), rops call fl E l (L0 ++ [v]) H1 = some (L, H') → ((wantedB o.guard L0 = true ∧ rop call fl o.free (RX.ev L0 E) H o.op = some (v, H1)) ∨ (wantedB o.guard L0 = false ∧ v = .undef ∧ H1 = H)) →
        L.length = L0.length + (o :: l).length ∧ L.take L0.length = L0 ∧ ∃ Hs : Nat → Heap, Hs 0 = H ∧ Hs (o :: l).length = H' ∧ ∀ (i : Nat) (ro : ROper), (o :: l)[i]? = some ro → StepOff call fl E L Hs L0.length i ro := fun v H1 hr hfirst => by
      obtain ⟨e1, e2, Hs, g1, g2, g3⟩ := rops_trace hr
      have ht : L.take L0.length = L0 := by
        have := congrArg (List.take L0.length) e2
        rw [List.take_take] at this
        simpa using this
      have hget : L[L0.length]? = some v := by
        have : (L.take (L0 ++ [v]).length)[L0.length]? = some v := by rw [e2]; simp
        rwa [List.getElem?_take_of_lt (by simp)] at this
      refine ⟨by rw [e1]; simp; omega, ht, fun i => match i with | 0 => H | i + 1 => Hs i, rfl, g2, fun i ro hi => ?_⟩
      cases i with
      | zero =>
        simp only [List.getElem?_cons_zero, Option.some.injEq] at hi; subst hi
        unfold StepOff
        simp only [Nat.add_zero, ht, hget, g1]
        rcases hfirst with ⟨f1, f2⟩ | ⟨f1, rfl, rfl⟩
        · exact .inl ⟨f1, v, rfl, f2⟩
        · exact .inr ⟨f1, rfl, rfl⟩
      | succ i =>
        have := g3 i ro (by simpa using hi)
        unfold StepOff at this ⊢
        simp only [List.length_append, List.length_cons, List.length_nil, Nat.zero_add] at this
        rw [show L0.length + (i + 1) = L0.length + 1 + i by omega]
        exact this
    simp only [rops] at h
    split at h
    · rename_i hw
      split at h
      · rename_i v H1 hr
        exact key v H1 h (.inl ⟨hw, hr⟩)
      · simp at h
    · rename_i hw
      exact key .undef H h (.inr ⟨by simpa using hw, rfl, rfl⟩)

/-! ### The environment -/

structure EnvOk (vars : List Nat) (nt : Nat) (E : List AV) (m : BMap) (a : Act) : Prop where
  size : nt ≤ a.tmps.size
  len : E.length = vars.length
  rel : ∀ (y t : Nat), vars[y]? = some t → VRel m (E.getD y .undef) (a.tmps.getD t undef)

theorem putDst_len (d : Option Nat) (v : AV) (E : List AV) : (putDst d v E).length = E.length := by cases d <;> simp [putDst]
theorem putAll_len : ∀ (l : List ROper) (L E : List AV), (putAll l L E).length = E.length
  | [], _, _ => rfl
  | _ :: _, [], _ => rfl
  | o :: l, v :: L, E => by rw [putAll, putAll_len l L, putDst_len]

theorem putDst_ne {d : Option Nat} {v : AV} {E : List AV} {y : Nat} (h : d ≠ some y) : (putDst d v E).getD y .undef = E.getD y .undef := by
  cases d with
  | none => rfl
  | some x =>
    have : x ≠ y := fun e => h (by rw [e])
    simp only [putDst, List.getD_eq_getElem?_getD, List.getElem?_set_ne this]

theorem putAll_ne {y : Nat} : ∀ {l : List ROper} {L E : List AV}, (∀ (j : Nat) (ro : ROper), l[j]? = some ro → ro.dst ≠ some y) → (putAll l L E).getD y .undef = E.getD y .undef
  | [], _, _, _ => rfl
  | _ :: _, [], _, _ => rfl
  | o :: l, v :: L, E, h => by
    rw [putAll, putAll_ne (fun j ro hj => h (j + 1) ro (by simpa using hj)), putDst_ne (h 0 o rfl)]

theorem putAll_get {y : Nat} : ∀ {l : List ROper} {L E : List AV} {j : Nat} {ro : ROper} {v : AV}, l[j]? = some ro → ro.dst = some y → L[j]? = some v → y < E.length →
    (∀ (j' : Nat) (ro' : ROper), l[j']? = some ro' → ro'.dst = some y → j' = j) → (putAll l L E).getD y .undef = v
  | [], _, _, j, ro, v, h, _, _, _, _ => by simp at h
  | _ :: _, [], _, j, ro, v, _, _, h, _, _ => by simp at h
  | o :: l, u :: L, E, 0, ro, v, h, hd, hv, hy, hu => by
    simp only [List.getElem?_cons_zero, Option.some.injEq] at h hv; subst h; subst hv
    rw [putAll, putAll_ne fun j ro hj e => by have := hu (j + 1) ro (by simpa using hj) e; omega, hd]
    simp [putDst, hy]
  | o :: l, u :: L, E, j + 1, ro, v, h, hd, hv, hy, hu => by
    rw [putAll]
    exact putAll_get (by simpa using h) hd (by simpa using hv) (by rw [putDst_len]; exact hy) fun j' ro' hj' e => by have := hu (j' + 1) ro' (by simpa using hj') e; omega

section
variable {P : Program} {vars : List Nat} {nt : Nat} {draw : Bool} {all : List Oper} {l : List ROper} {call : Nat → Nat → List AV → Heap → Option (AV × Heap)} {fl : Nat} {E L : List AV} {Hs : Nat → Heap} {n0 base : Nat}
variable {m0 : BMap} {w0 : World} {S : Nat → Bool} {p d : Nat} {m : BMap} {a : Act} {w : World}

theorem Inv.init (C : Ctx P vars nt draw all l call fl E L Hs n0) (hs : Sim n0 base m0 (Hs 0) w0) (hfresh : ∀ b, (Hs 0).length ≤ b → b < (Hs all.length).length → m0 b = none) (hE : EnvOk vars nt E m0 a) :
    ∃ p d, Inv vars nt draw all l fl E L Hs n0 base m0 w0 (fun _ => false) p d m0 a w0 := by
  obtain ⟨d, hd1, hd2, hd3⟩ := next_solid all l all.length 0 (by omega)
  have hnss : ∀ j, 0 ≤ j → j < 0 + d → NS (Hs j) (Hs (j + 1)) := fun j g1 g2 => C.ns (by omega) (hd2 j g1 g2)
  have hvl : (hv Hs 0 d).length = (Hs (0 + d)).length := hv_length hnss
  have hdom : ∀ {b lo}, m0 b = some lo → b < (Hs 0).length ∨ (Hs all.length).length ≤ b := fun {b lo} hm => by
    rcases Nat.lt_or_ge b (Hs 0).length with h | h
    · exact .inl h
    · rcases Nat.lt_or_ge b (Hs all.length).length with h' | h'
      · rw [hfresh b h h'] at hm; simp at hm
      · exact .inr h'
  have hlt : ∀ {b : Nat} {lo}, b < (hv Hs 0 d).length → m0 b = some lo → b < (Hs 0).length := fun {b lo} hb hm => by
    rcases hdom hm with h | h
    · exact h
    · rw [hvl] at hb
      have := C.len hd1 (Nat.le_refl _); omega
  have hpre : ∀ {b : Nat}, b < (Hs 0).length → (hv Hs 0 d)[b]? = (Hs 0)[b]? := fun {b} hb => hv_prefix (Hs := Hs) (p := 0) (Nat.zero_le d) (b := b) hb
  have hact : ∀ {b : Nat} {k : Blk} {lo}, (hv Hs 0 d).act b = some k → m0 b = some lo → (Hs 0).act b = some k := fun {b k lo} ha hm => by
    have hb := hlt (act_lt ha) hm
    have hg : (Hs 0)[b]? = some k := by rw [← hpre hb]; exact act_get ha
    exact act_same (hpre hb) (fun c hcc => hpre (C.kids0 b c k hg hcc)) ha
  refine ⟨0, d, hd1, hd2, hd3, .inl rfl, fun j h => by simp at h, fun j k h => by simp at h, fun j _ => by simp, ?_, hs.size, fun b k lo ha hm => hs.cells b k lo (hact ha hm) hm, hs.ro, fun b k lo hb ha hm => hs.own b k lo hb (hact ha hm) hm, ?_, ?_,
    Ext.refl _, fun b lo h h' => by simp [h] at h', rfl, rfl, rfl, Nat.le_refl _, fun _ _ _ => rfl, ?_, ⟨hE.size, fun t j v _ h => by simp at h, fun y t hy _ => hE.rel y t hy⟩⟩
  · intro b lo hm
    rcases hdom hm with h | h
    · exact .inl h
    · exact .inr (.inr h)
  · intro b b' k k' lo lo' hb hb' ha ha' hm hm' he
    rcases hs.inj b b' k k' lo lo' hb hb' (hact ha hm) (hact ha' hm') hm hm' he with g | g | g
    · exact .inl g
    · exact .inr (.inl g)
    · exact .inr (.inr (.inl g))
  · intro b k lo hk hm
    rw [hpre (hlt (get_lt hk) hm)] at hk
    exact hs.es b k lo hk hm
  · rintro c hcl ⟨b, k, lo, g1, ha, hm, rfl⟩
    exact ⟨b, k, lo, g1, hact ha hm, hm, rfl⟩

theorem Inv.done (C : Ctx P vars nt draw all l call fl E L Hs n0) (I : Inv vars nt draw all l fl E L Hs n0 base m0 w0 S p d m a w) (hl : l.length = all.length) (hE : E.length = vars.length) (hS : ∀ j, j < all.length → S j = true) :
    EnvOk vars nt (putAll l L E) m a ∧ Step n0 base fl m0 (Hs 0) w0 m (Hs all.length) w := by
  have hpd : p + d = all.length := by
    rcases I.qend with h | h
    · exact h
    · have h' := h
      obtain ⟨o, ro, ho, _⟩ := h'
      have := (I.solid _ h).1 (hS _ (List.getElem?_eq_some_iff.1 ho).1)
      omega
  have hsim := I.sim C (i := all.length) (by omega) (by omega)
  refine ⟨⟨I.tmps.size, by rw [putAll_len]; exact hE, fun y t hy => ?_⟩, ⟨I.ext, I.new, hsim, I.os, I.tape, I.output, I.size, C.len (Nat.zero_le _) (Nat.le_refl _), I.frame, ?_⟩⟩
  · have hyl : y < E.length := by rw [hE]; exact (List.getElem?_eq_some_iff.1 hy).1
    have hidx := idx_of_get C.nodup hy
    -- who writes the variable
    have huniq : ∀ (j : Nat) (ro : ROper), l[j]? = some ro → ro.dst = some y → writer t all 0 = some j := fun j ro hj hd => by
      obtain ⟨o, ho⟩ : ∃ o, all[j]? = some o := ⟨_, List.getElem?_eq_getElem (by rw [← hl]; exact (List.getElem?_eq_some_iff.1 hj).1)⟩
      obtain ⟨ro', h1, h2, _⟩ := C.comp j o ho
      rw [hj] at h1; cases h1
      rw [h2.rdst, Option.bind_eq_some_iff] at hd
      obtain ⟨t', ht', hi⟩ := hd
      have := idx_some hi
      rw [hy] at this; cases this
      exact (h2.dst t ht').2
    cases hwr : writer t all 0 with
    | none =>
      rw [putAll_ne fun j ro hj hd => by have := huniq j ro hj hd; rw [hwr] at this; simp at this]
      exact I.tmps.old y t hy fun j hj => by rw [hwr] at hj; simp at hj
    | some j =>
      obtain ⟨_, o, ho, hod⟩ := writer_some hwr
      rw [Nat.sub_zero] at ho
      obtain ⟨ro, h1, h2, _⟩ := C.comp j o ho
      have hjl := (List.getElem?_eq_some_iff.1 ho).1
      have hjL : j < L.length := by rw [C.llen]; exact hjl
      have hLj : L[j]? = some L[j] := List.getElem?_eq_getElem hjL
      rw [putAll_get h1 (by rw [h2.rdst, hod]; exact hidx) hLj hyl fun j' ro' hj' hd' => by have := huniq j' ro' hj' hd'; rw [hwr] at this; cases this; rfl]
      exact I.tmps.done t j _ hwr (hS j hjl) hLj
  · rintro c hcl ⟨b, k, lo, g1, ha, hm, rfl⟩
    exact I.hits _ hcl ⟨b, k, lo, g1, (I.kd C (by omega) (by omega)).act (C.kids (Nat.le_refl _)) ha, hm, rfl⟩

/-! ### The two ways through a region -/

theorem range_drop (n i : Nat) (hi : i < n) : (List.range n).drop i = i :: (List.range n).drop (i + 1) := by
  rw [List.drop_eq_getElem_cons (by simpa using hi)]; simp

theorem setS_lt (i : Nat) : setS (fun j => decide (j < i)) i = fun j => decide (j < i + 1) := by
  funext j
  simp only [setS]
  rw [Bool.eq_iff_iff]
  simp only [Bool.or_eq_true, beq_iff_eq, decide_eq_true_eq]
  omega

theorem run_fixed (C : Ctx P vars nt false all l call fl E L Hs n0) {Q : Exit → Act → World → Prop} {ds : List Deferred} (hQ : ∀ p d m a w, a.defers = ds → Inv vars nt false all l fl E L Hs n0 base m0 w0 (fun j => decide (j < all.length)) p d m a w → Q .normal a w) :
    ∀ (k i : Nat), i + k = all.length → ∀ p d m a w, a.defers = ds → Inv vars nt false all l fl E L Hs n0 base m0 w0 (fun j => decide (j < i)) p d m a w → wpOps P all.toArray Q ((List.range all.length).drop i) a w
  | 0, i, hi, p, d, m, a, w, hd, I => by
    have : i = all.length := by omega
    subst this
    rw [List.drop_eq_nil_of_le (by simp), wpOps]
    exact hQ p d m a w hd I
  | k + 1, i, hi, p, d, m, a, w, hd, I => by
    rw [range_drop _ _ (by omega), wpOps_cons]
    refine I.step C (by omega) ⟨by simp, fun k' hk => by simpa [preB] using hk⟩ fun p' d' m' a' w' hd' I' => ?_
    rw [setS_lt] at I'
    exact run_fixed C hQ k (i + 1) (by omega) p' d' m' a' w' (hd'.trans hd) I'

def unlisted (listed : Array Bool) : Nat := listed.toList.countP (! ·)

theorem unlisted_set {listed : Array Bool} {i : Nat} (hi : i < listed.size) (h : listed.getD i true = false) : unlisted (listed.setIfInBounds i true) + 1 = unlisted listed := by
  unfold unlisted
  rw [Array.toList_setIfInBounds]
  have hl : i < listed.toList.length := by simpa using hi
  have hf : listed.toList[i] = false := by
    rw [Array.getD_eq_getD_getElem?, Array.getElem?_eq_getElem hi] at h
    simpa using h
  have h1 : listed.toList = listed.toList.take i ++ false :: listed.toList.drop (i + 1) := by
    conv => lhs; rw [← List.take_append_drop i listed.toList, List.drop_eq_getElem_cons hl, hf]
  have h2 : listed.toList.set i true = listed.toList.take i ++ true :: listed.toList.drop (i + 1) := by
    rw [List.set_eq_take_append_cons_drop, if_pos hl]
  rw [h2]
  conv => rhs; rw [h1]
  simp only [List.countP_append, List.countP_cons, Bool.not_true, Bool.not_false]
  simp
  omega

theorem run_drawn (C : Ctx P vars nt true all l call fl E L Hs n0) (hedge : edgesB all 0 = true) {Q : Exit → Act → World → Prop} {ds : List Deferred} (hQ : ∀ S p d m a w, (∀ j, j < all.length → S j = true) → a.defers = ds → Inv vars nt true all l fl E L Hs n0 base m0 w0 S p d m a w → Q .normal a w) :
    ∀ (fuel : Nat) (listed : Array Bool), listed.size = all.length → unlisted listed ≤ fuel → ∀ p d m a w, a.defers = ds → Inv vars nt true all l fl E L Hs n0 base m0 w0 (fun j => listed.getD j false) p d m a w → wpAny P .any all.toArray Q fuel listed a w := by
  -- nothing ready: all done
  have hdone : ∀ (listed : Array Bool), listed.size = all.length → Region.ready .any all.toArray listed = [] → ∀ j, j < all.length → listed.getD j false = true := by
    intro listed hsz hr j
    induction j using Nat.strongRecOn with
    | _ j ih =>
      intro hj
      cases hl : listed.getD j false with
      | true => rfl
      | false =>
        exfalso
        have hmem : j ∈ Region.ready .any all.toArray listed := by
          rw [mem_ready]
          refine ⟨?_, all[j], by simp [hj], fun e he hb => ?_⟩
          · rw [Array.getD_eq_getD_getElem?, Array.getElem?_eq_getElem (by omega)] at hl ⊢
            simpa using hl
          · have := edges_get (i0 := 0) hedge j all[j] (List.getElem?_eq_getElem hj) e he hb
            exact ih e.on (by omega) (by omega)
        rw [hr] at hmem; simp at hmem
  intro fuel
  induction fuel with
  | zero =>
    intro listed hsz hu p d m a w hd I
    have hr : Region.ready .any all.toArray listed = [] := by
      cases hrr : Region.ready .any all.toArray listed with
      | nil => rfl
      | cons x xs =>
        exfalso
        have hm : x ∈ Region.ready .any all.toArray listed := by rw [hrr]; simp
        obtain ⟨h1, o, ho, _⟩ := mem_ready.1 hm
        have hx : x < listed.size := by rw [hsz]; exact (List.getElem?_eq_some_iff.1 (by simpa using ho)).1
        have := unlisted_set hx h1
        omega
    exact ⟨hr, hQ _ p d m a w (hdone listed hsz hr) hd I⟩
  | succ fuel ih =>
    intro listed hsz hu p d m a w hd I
    refine ⟨fun hr => hQ _ p d m a w (hdone listed hsz hr) hd I, fun i hi => ?_⟩
    obtain ⟨h1, o, ho, hall⟩ := mem_ready.1 hi
    have ho' : all[i]? = some o := by simpa using ho
    have hil := (List.getElem?_eq_some_iff.1 ho').1
    have hun : listed.getD i false = false := by
      rw [Array.getD_eq_getD_getElem?, Array.getElem?_eq_getElem (by omega)] at h1 ⊢
      simpa using h1
    refine I.step C hil ⟨hun, fun k hk => ?_⟩ fun p' d' m' a' w' hd' I' => ?_
    · obtain ⟨e, he, hb, h⟩ := pre_bits ho' hk
      have hS := hall e he hb
      rcases h with rfl | h
      · exact hS
      · exact I.closed e.on k hS h
    · have hset : setS (fun j => listed.getD j false) i = fun j => (listed.setIfInBounds i true).getD j false := by
        funext j
        simp only [setS]
        by_cases e : j = i
        · subst e
          rw [Array.getD_eq_getD_getElem?, Array.getD_eq_getD_getElem?, Array.getElem?_setIfInBounds_self_of_lt (by omega)]
          simp
        · have hne : (j == i) = false := by simpa using e
          rw [hne, Bool.false_or, Array.getD_eq_getD_getElem?, Array.getD_eq_getD_getElem?, Array.getElem?_setIfInBounds_ne (by omega)]
      rw [hset] at I'
      have := unlisted_set (listed := listed) (i := i) (by omega) h1
      exact ih _ (by simpa using hsz) (by omega) p' d' m' a' w' (hd'.trans hd) I'

end

/-- A REGION RUNS AS THE ABSTRACT MACHINE SAYS, in whatever order is drawn. -/
theorem region_sound {P : Program} (hmix : P.follows .mixedOrders = true) {vars : List Nat} {nt id : Nat} {draw : Bool} {ops : Array Oper} {l : List ROper} {call : Nat → Nat → List AV → Heap → Option (AV × Heap)} (hfacts : CallFacts call) (hsound : CallSound P call)
    (hnodup : nodupB vars = true) (hcomp : compileRegion P vars nt draw ops.toList = .ops l) {fl : Nat} {E L : List AV} {H H' : Heap} (hrun : rops call fl E l [] H = some (L, H')) {n0 base : Nat} {m : BMap} {w : World} {a : Act} (hfl : n0 ≤ fl)
    (hs : Sim n0 base m H w) (hE : EnvOk vars nt E m a) (hfresh : ∀ b, H.length ≤ b → b < H'.length → m b = none) :
    (Code.region id ops draw).wp P (fun e a' w' => e = .normal ∧ a'.defers = a.defers ∧ ∃ m', EnvOk vars nt (putAll l L E) m' a' ∧ Step n0 base fl m H w m' H' w') a w := by
  unfold compileRegion at hcomp
  split at hcomp
  · rename_i l' hops
    split at hcomp
    · rename_i hedge
      cases hcomp
      obtain ⟨hl, hget⟩ := compileOpers_get hops
      obtain ⟨hlen, _, Hs, g0, g1, hst⟩ := rops_trace hrun
      simp only [List.length_nil, Nat.zero_add] at hlen
      have C : Ctx P vars nt draw ops.toList l call fl E L Hs n0 := by
        refine ⟨hfl, by rw [hlen, hl], fun i o ho => ?_, hfacts, hsound, hnodup, by rw [g0]; exact hs.kids, by rw [g0]; exact hs.low⟩
        obtain ⟨ro, h1, h2⟩ := hget i o ho
        rw [Nat.zero_add] at h2
        have hst := hst i ro h1
        simp only [StepOff, List.length_nil, Nat.zero_add] at hst
        refine ⟨ro, h1, ?_, hst⟩
        rcases compileOper_cases h2 with ⟨f1, f2⟩ | h
        · exfalso
          rcases hst with ⟨_, v, _, h⟩ | ⟨h, _⟩
          · rw [f1] at h; simp [rop] at h
          · rw [f2] at h; simp [wantedB] at h
        · exact h
      rw [hl] at g1
      have fin : ∀ S p d m' a' w0 w', w0.heap = w.heap → w0.os = w.os → w0.tape = w.tape → w0.output = w.output → (∀ j, j < ops.toList.length → S j = true) → Inv vars nt draw ops.toList l fl E L Hs n0 base m w0 S p d m' a' w' →
          ∃ m', EnvOk vars nt (putAll l L E) m' a' ∧ Step n0 base fl m H w m' H' w' := fun S p d m' a' w0 w' e1 e2 e3 e4 hS I => by
        obtain ⟨h1, h2⟩ := I.done C hl hE.len hS
        rw [g0, g1] at h2
        exact ⟨m', h1, ⟨h2.ext, h2.new, h2.sim, h2.os.trans e2, h2.tape.trans e3, h2.output.trans e4, by rw [← e1]; exact h2.size, h2.len, by rw [← e1]; exact h2.frame, by rw [← e1]; exact h2.hits⟩⟩
      cases draw with
      | false =>
        refine wp_region ?_
        obtain ⟨p, d, I⟩ := Inv.init (a := a) (w0 := w) (base := base) (m0 := m) C (by rw [g0]; exact hs) (by rw [g0, g1]; exact hfresh) hE
        have := run_fixed (P := P) (Q := fun e a' w' => e = .normal ∧ a'.defers = a.defers ∧ ∃ m', EnvOk vars nt (putAll l L E) m' a' ∧ Step n0 base fl m H w m' H' w') C (ds := a.defers) (fun p d m' a' w' hd I => ⟨rfl, hd, fin _ p d m' a' w w' rfl rfl rfl rfl (fun j hj => by simpa using hj) I⟩) ops.toList.length 0 (by omega) p d m a w rfl (by simpa using I)
        simpa using this
      | true =>
        refine wp_region_any hmix ?_
        have hs' : Sim n0 base m H { w with drawn := w.drawn + 1 } := sim_world hs (Nat.le_refl _) (fun _ _ => rfl)
        obtain ⟨p, d, I⟩ := Inv.init (a := a) (w0 := { w with drawn := w.drawn + 1 }) (base := base) (m0 := m) C (by rw [g0]; exact hs') (by rw [g0, g1]; exact hfresh) hE
        have := run_drawn (P := P) (w0 := { w with drawn := w.drawn + 1 }) (Q := fun e a' w' => e = .normal ∧ a'.defers = a.defers ∧ ∃ m', EnvOk vars nt (putAll l L E) m' a' ∧ Step n0 base fl m H w m' H' w') C (by simpa using hedge) (ds := a.defers)
          (fun S p d m' a' w' hS hd I => ⟨rfl, hd, fin S p d m' a' { w with drawn := w.drawn + 1 } w' rfl rfl rfl rfl hS I⟩) ops.size (Array.replicate ops.size false) (by simp) (by
            have := List.countP_le_length (p := fun b => !b) (l := (Array.replicate ops.size false).toList)
            rw [Array.length_toList, Array.size_replicate] at this
            exact this) p d m a _ rfl
          (by
            have hf : (fun j => (Array.replicate ops.size false).getD j false) = fun _ => false := by
              funext j; simp only [Array.getD_eq_getD_getElem?, Array.getElem?_replicate]; split <;> rfl
            rw [hf]; exact I)
        simpa using this
    · simp at hcomp
  · simp at hcomp

end Go.RM

/-
  Code and calls: what the abstract machine computes, the model computes.
-/
namespace Go.RM
set_option linter.unusedSimpArgs false
set_option linter.unusedVariables false

def exitOf : Out → Exit
  | .normal => .normal
  | .exit id => .exit id
  | .ret => .ret

def Post (vars : List Nat) (nt fl n0 base : Nat) (m : BMap) (H : Heap) (w : World) (ds : List Deferred) (o : Out) (E' : List AV) (H' : Heap) : Exit → Act → World → Prop := fun e a' w' =>
  e = exitOf o ∧ a'.defers = ds ∧ ∃ m', EnvOk vars nt E' m' a' ∧ Step n0 base fl m H w m' H' w'

theorem Post.after {vars : List Nat} {nt fl n0 base : Nat} {m m1 : BMap} {H H1 : Heap} {w w1 : World} {ds : List Deferred} {o : Out} {E' : List AV} {H' : Heap} (s : Step n0 base fl m H w m1 H1 w1) {e : Exit} {a : Act} {w' : World}
    (h : Post vars nt fl n0 base m1 H1 w1 ds o E' H' e a w') : Post vars nt fl n0 base m H w ds o E' H' e a w' :=
  let ⟨h1, h2, m', h3, h4⟩ := h; ⟨h1, h2, m', h3, s.trans h4⟩

theorem rounds_mono {P : Program} {c : Code} {Q Q' : Exit → Act → World → Prop} (h : ∀ e a w, Q e a w → Q' e a w) : ∀ (r : Nat) (a : Act) (w : World), Code.rounds P c Q r a w → Code.rounds P c Q' r a w
  | 0, _, _, hr => hr
  | r + 1, a, w, hr => by
    rw [rounds_succ] at hr ⊢
    refine wp_mono hr fun e a w hq => ?_
    cases e <;> simp only [Exit.then] at hq ⊢ <;> first | exact rounds_mono h r _ _ hq | exact h _ _ _ hq

theorem Step.fresh {n0 base fl : Nat} {m m1 : BMap} {H H1 : Heap} {w w1 : World} (s : Step n0 base fl m H w m1 H1 w1) {n : Nat} (hf : ∀ b, H.length ≤ b → b < n → m b = none) : ∀ b, H1.length ≤ b → b < n → m1 b = none := fun b h1 h2 => by
  cases hm : m1 b with
  | none => rfl
  | some l => have := s.new b l hm (hf b (Nat.le_trans s.len h1) h2); omega

theorem EnvOk.mono {vars : List Nat} {nt : Nat} {E : List AV} {m m' : BMap} {a : Act} (h : EnvOk vars nt E m a) (he : Ext m m') : EnvOk vars nt E m' a := ⟨h.size, h.len, fun y t hy => (h.rel y t hy).mono he⟩

def CodeSound (P : Program) (pr : Nat → Option Prim) (n : Nat) : Prop := ∀ (c : Code) (vars : List Nat) (nt fl : Nat) (E : List AV) (H : Heap) (o : Out) (E' : List AV) (H' : Heap), nodupB vars = true → rexec (table P pr) n fl (compileCode P vars nt c) E H = some (o, E', H') →
  ∀ (n0 base : Nat) (m : BMap) (w : World) (a : Act), n0 ≤ fl → Sim n0 base m H w → EnvOk vars nt E m a → (∀ b, H.length ≤ b → b < H'.length → m b = none) → c.wp P (Post vars nt fl n0 base m H w a.defers o E' H') a w

def LoopSound (P : Program) (pr : Nat → Option Prim) (n : Nat) : Prop := ∀ (c : Code) (vars : List Nat) (nt fl : Nat) (E : List AV) (H : Heap) (o : Out) (E' : List AV) (H' : Heap), nodupB vars = true → rexec (table P pr) n fl (.loop (compileCode P vars nt c)) E H = some (o, E', H') →
  ∃ r, ∀ (n0 base : Nat) (m : BMap) (w : World) (a : Act), n0 ≤ fl → Sim n0 base m H w → EnvOk vars nt E m a → (∀ b, H.length ≤ b → b < H'.length → m b = none) → Code.rounds P c (Post vars nt fl n0 base m H w a.defers o E' H') r a w

theorem cond_eval {vars : List Nat} {nt : Nat} {E : List AV} {m : BMap} {a : Act} (hE : EnvOk vars nt E m a) {c : Operand} {x : RX} (h : resAt vars false [] [] 0 c = some x) {b : Bool} (hx : x.ev [] E = .bool b) : a.eval c = .bool b := by
  cases c with
  | tmp t =>
    simp only [resAt, writer, Option.map_eq_some_iff] at h
    obtain ⟨y, hy, rfl⟩ := h
    have := hE.rel y t (idx_some hy)
    simp only [RX.ev] at hx
    rw [hx] at this
    exact this
  | const v =>
    simp only [resAt, Option.map_eq_some_iff] at h
    obtain ⟨v', hv, rfl⟩ := h
    simp only [RX.ev] at hx
    subst hx
    exact ofConst_rel m hv
  | func f => simp only [resAt, Option.some.injEq] at h; subst h; simp [RX.ev] at hx
  | global g => simp [resAt] at h

theorem loop_step {P : Program} {pr : Nat → Option Prim} {n : Nat} (hc : CodeSound P pr n) (hl : LoopSound P pr n) : LoopSound P pr (n + 1) := by
  intro c vars nt fl E H o E' H' hnd h
  simp only [rexec] at h
  split at h
  · rename_i E1 H1 h1
    obtain ⟨r, hr⟩ := hl c vars nt fl E1 H1 o E' H' hnd h
    have f1 := rexec_facts _ _ _ _ _ _ _ _ _ h1
    have f2 := rexec_facts _ _ _ _ _ _ _ _ _ h
    refine ⟨r + 1, fun n0 base m w a hfl hs hE hf => ?_⟩
    rw [rounds_succ]
    refine wp_mono (hc c vars nt fl E H _ E1 H1 hnd h1 n0 base m w a hfl hs hE fun b g1 g2 => hf b g1 (Nat.lt_of_lt_of_le g2 f2.len)) fun e a1 w1 hp => ?_
    obtain ⟨rfl, hd, m1, hE1, hst⟩ := hp
    have := hr n0 base m1 w1 a1 hfl hst.sim hE1 (hst.fresh hf)
    rw [hd] at this
    exact rounds_mono (fun e a w h => h.after hst) r a1 w1 this
  · rename_i hne
    refine ⟨1, fun n0 base m w a hfl hs hE hf => ?_⟩
    rw [rounds_succ]
    refine wp_mono (hc c vars nt fl E H o E' H' hnd h n0 base m w a hfl hs hE hf) fun e a1 w1 hp => ?_
    have he := hp.1
    cases o with
    | normal => exact absurd h (by intro h; exact hne _ _ h)
    | exit id => rw [he] at hp ⊢; exact hp
    | ret => rw [he] at hp ⊢; exact hp

theorem code_step {P : Program} {pr : Nat → Option Prim} (hmix : P.follows .mixedOrders = true) {n : Nat} (hc : CodeSound P pr n) (hl : LoopSound P pr (n + 1)) (hcall : CallSound P (rcall (table P pr) n)) : CodeSound P pr (n + 1) := by
  intro c vars nt fl E H o E' H' hnd h n0 base m w a hfl hs hE hf
  cases c <;> simp only [compileCode] at h
  case skip =>
    simp only [rexec, Option.some.injEq, Prod.mk.injEq] at h
    obtain ⟨rfl, rfl, rfl⟩ := h
    exact wp_skip ⟨rfl, rfl, m, hE, Step.refl hs⟩
  case region id ops draw =>
    cases hcr : compileRegion P vars nt draw ops.toList with
    | ops l =>
      rw [hcr] at h
      simp only [rexec, Option.map_eq_some_iff, Prod.mk.injEq] at h
      obtain ⟨⟨L, H1⟩, hr, rfl, rfl, rfl⟩ := h
      exact region_sound hmix (rcall_facts _ n) hcall hnd hcr hr hfl hs hE hf
    | _ =>
      exfalso
      unfold compileRegion at hcr
      split at hcr
      · split at hcr <;> first | (simp at hcr; done) | (rw [← hcr] at *; simp_all [rexec, compileRegion])
      · simp_all [rexec, compileRegion]
  case seq x y =>
    simp only [rexec] at h
    split at h
    · rename_i E1 H1 h1
      have f2 := rexec_facts _ _ _ _ _ _ _ _ _ h
      refine wp_seq (wp_mono (hc x vars nt fl E H _ E1 H1 hnd h1 n0 base m w a hfl hs hE fun b g1 g2 => hf b g1 (Nat.lt_of_lt_of_le g2 f2.len)) fun e a1 w1 hp => ?_)
      obtain ⟨rfl, hd, m1, hE1, hst⟩ := hp
      have := hc y vars nt fl E1 H1 o E' H' hnd h n0 base m1 w1 a1 hfl hst.sim hE1 (hst.fresh hf)
      rw [hd] at this
      exact wp_mono this fun e a w h => h.after hst
    · rename_i hne
      refine wp_seq (wp_mono (hc x vars nt fl E H o E' H' hnd h n0 base m w a hfl hs hE hf) fun e a1 w1 hp => ?_)
      have he := hp.1
      cases o with
      | normal => exact absurd h (by intro h; exact hne _ _ h)
      | exit id => rw [he] at hp ⊢; exact hp
      | ret => rw [he] at hp ⊢; exact hp
  case cond cc x y =>
    split at h
    · rename_i rx hrx
      simp only [rexec] at h
      split at h
      · rename_i hx
        exact wp_cond_true (cond_eval hE hrx hx) (hc x vars nt fl E H o E' H' hnd h n0 base m w a hfl hs hE hf)
      · rename_i hx
        exact wp_cond_false (cond_eval hE hrx hx) (hc y vars nt fl E H o E' H' hnd h n0 base m w a hfl hs hE hf)
      · simp at h
    · simp [rexec] at h
  case block id c =>
    simp only [rexec] at h
    split at h
    · rename_i id' E1 H1 h1
      have key : ∀ e a1 w1, Post vars nt fl n0 base m H w a.defers (.exit id') E1 H1 e a1 w1 → Exit.inBlock id (Post vars nt fl n0 base m H w a.defers o E' H') e a1 w1 := fun e a1 w1 hp => by
        obtain ⟨rfl, hd, hrest⟩ := hp
        simp only [exitOf, Exit.inBlock]
        split at h
        · rename_i heq
          simp only [Option.some.injEq, Prod.mk.injEq] at h
          obtain ⟨rfl, rfl, rfl⟩ := h
          rw [if_pos heq]
          exact ⟨rfl, hd, hrest⟩
        · rename_i heq
          simp only [Option.some.injEq, Prod.mk.injEq] at h
          obtain ⟨rfl, rfl, rfl⟩ := h
          rw [if_neg heq]
          exact ⟨rfl, hd, hrest⟩
      have hlen : H1 = H' := by
        split at h <;> · simp only [Option.some.injEq, Prod.mk.injEq] at h; exact h.2.2
      exact wp_block (wp_mono (hc c vars nt fl E H _ E1 H1 hnd h1 n0 base m w a hfl hs hE (by rw [hlen]; exact hf)) key)
    · rename_i hne
      refine wp_block (wp_mono (hc c vars nt fl E H o E' H' hnd h n0 base m w a hfl hs hE hf) fun e a1 w1 hp => ?_)
      have he := hp.1
      cases o with
      | exit id' => exact absurd h (by intro h; exact hne _ _ _ h)
      | normal => rw [he] at hp ⊢; exact hp
      | ret => rw [he] at hp ⊢; exact hp
  case loop c =>
    obtain ⟨r, hr⟩ := hl c vars nt fl E H o E' H' hnd h
    exact wp_loop_rounds r (hr n0 base m w a hfl hs hE hf)
  case exit id =>
    simp only [rexec, Option.some.injEq, Prod.mk.injEq] at h
    obtain ⟨rfl, rfl, rfl⟩ := h
    exact wp_exit ⟨rfl, rfl, m, hE, Step.refl hs⟩
  case ret =>
    simp only [rexec, Option.some.injEq, Prod.mk.injEq] at h
    obtain ⟨rfl, rfl, rfl⟩ := h
    exact wp_ret ⟨rfl, rfl, m, hE, Step.refl hs⟩
  all_goals (simp [rexec] at h)

/-! ### Calls -/

theorem res_run {P : Program} {vars : List Nat} {nt : Nat} {E : List AV} {m : BMap} {a : Act} {H : Heap} {w : World} {n0 base : Nat} (hs : Sim n0 base m H w) (hE : EnvOk vars nt E m a) :
    ∀ {rl : List ResultVar} {rs : List RRes} {vs : List AV}, compileResL P vars rl = some rs → resAll E H rs = some vs →
      ∃ cvs, (rl.mapM (fun (r : ResultVar) => (match r with | .tmp t => pure (a.tmps.getD t undef) | .cell x t => do loadVar t (← asAddr (a.tmps.getD x undef)) : Sem Value))).run P w = .ok cvs w ∧ VRels m vs cvs
  | [], rs, vs, hc, hr => by
    simp only [compileResL, Option.some.injEq] at hc; subst hc
    simp only [resAll, Option.some.injEq] at hr; subst hr
    exact ⟨[], rfl, trivial⟩
  | r :: rl, rs, vs, hc, hr => by
    simp only [compileResL] at hc
    split at hc
    · rename_i x l h1 h2
      simp only [Option.some.injEq] at hc; subst hc
      simp only [resAll] at hr
      split at hr
      · rename_i v hv
        simp only [Option.map_eq_some_iff] at hr
        obtain ⟨vs', hvs, rfl⟩ := hr
        obtain ⟨cvs, e1, e2⟩ := res_run hs hE h2 hvs
        have hone : ∃ cv, ((match r with | .tmp t => pure (a.tmps.getD t undef) | .cell x t => do loadVar t (← asAddr (a.tmps.getD x undef)) : Sem Value)).run P w = .ok cv w ∧ VRel m v cv := by
          cases r with
          | tmp t =>
            simp only [compileRes, Option.map_eq_some_iff] at h1
            obtain ⟨y, hy, rfl⟩ := h1
            simp only [resOf, Option.some.injEq] at hv; subst hv
            exact ⟨_, rfl, hE.rel y t (idx_some hy)⟩
          | cell t ty =>
            simp only [compileRes] at h1
            split at h1
            · rename_i y sz hy hsz
              simp only [Option.some.injEq] at h1; subst h1
              simp only [resOf] at hv
              split at hv
              · rename_i b off hb
                have := hE.rel y t (idx_some hy)
                rw [hb] at this
                obtain ⟨lo, hm, hval⟩ := this
                obtain ⟨cv, g1, g2⟩ := run_loadVar_rel (P := P) hs hsz hv hm
                refine ⟨cv, ?_, g2⟩
                simp only [Sem.run_bind, hval, asAddr, Sem.run_pure, Result.andThen_ok]
                exact g1
              · simp at hv
            · simp at h1
        obtain ⟨cv, f1, f2⟩ := hone
        refine ⟨cv :: cvs, ?_, f2, e2⟩
        rw [List.mapM_cons, Sem.run_bind, f1]
        simp only [Result.andThen_ok, Sem.run_bind, e1, Sem.run_pure]
      · simp at hr
    · simp at hc

theorem results_run {P : Program} {fn : Func} {vars : List Nat} {nt : Nat} {E : List AV} {m : BMap} {a : Act} {H : Heap} {w : World} {n0 base : Nat} (hs : Sim n0 base m H w) (hE : EnvOk vars nt E m a) {rs : List RRes} {vs : List AV}
    (hc : compileResL P vars fn.results.toList = some rs) (hr : resAll E H rs = some vs) : ∃ v, (results fn a.tmps).run P w = .ok v w ∧ VRel m (resVal vs) v := by
  obtain ⟨cvs, h1, h2⟩ := res_run hs hE hc hr
  have hfr : fn.results = fn.results.toList.toArray := by simp
  have hlen := h2.length
  have hmap : (fn.results.mapM (fun (r : ResultVar) => (match r with | .tmp t => pure (a.tmps.getD t undef) | .cell x t => do loadVar t (← asAddr (a.tmps.getD x undef)) : Sem Value))).run P w = .ok cvs.toArray w := by
    rw [hfr, List.mapM_toArray]
    rw [map_eq_pure_bind, Sem.run_bind, h1]
    rfl
  refine ⟨if h : cvs.toArray.size = 1 then cvs.toArray[0] else .tuple cvs.toArray, ?_, ?_⟩
  · unfold results
    rw [Sem.run_bind]
    refine Eq.trans (congrArg (fun r => Result.andThen r _) hmap) ?_
    simp only [Result.andThen_ok, Sem.run_pure]
  rcases vs with _ | ⟨v, _ | ⟨v2, vs⟩⟩ <;> rcases cvs with _ | ⟨cv, _ | ⟨cv2, cvs⟩⟩ <;> simp at hlen
  · exact ⟨_, rfl, trivial⟩
  · exact h2.1
  · exact ⟨_, rfl, h2⟩

/-- What a function that is known as a whole computes, the model computes. -/
def PrimOk (P : Program) (g : Nat) (p : Prim) : Prop :=
  ∀ flx args H v H', rprim p flx args H = some (v, H') → (∃ fn, P.funcs[g]? = some fn ∧ fn.body.isSome = true ∧ fn.name ≠ "runtime.NumGoroutine") ∧
    ∀ n0 base m w cargs, n0 ≤ flx → Sim n0 base m H w → VRels m args cargs → (∀ b, H.length ≤ b → b < H'.length → m b = none) →
      Calls P g ⟨cargs⟩ w (fun e w' => ∃ v' m', e = .returned v' ∧ VRel m' v v' ∧ Step n0 base flx m H w m' H' w')
def PrimsOk (P : Program) (pr : Nat → Option Prim) : Prop := ∀ g p, pr g = some p → PrimOk P g p
theorem noPrims_ok (P : Program) : PrimsOk P noPrims := fun g p h => by cases h

theorem call_step {P : Program} {pr : Nat → Option Prim} (hpr : PrimsOk P pr) {n : Nat} (hc : CodeSound P pr n) : CallSound P (rcall (table P pr) (n + 1)) := by
  intro flx g args H v H' h
  simp only [rcall] at h
  split at h
  · simp at h
  · rename_i rf hrf
    unfold table at hrf
    split at hrf
    · rename_i p hp
      simp only [Option.some.injEq] at hrf
      subst hrf
      simp only at h
      exact hpr g p hp flx args H v H' h
    rw [Option.bind_eq_some_iff] at hrf
    obtain ⟨fn, hfn, hcf⟩ := hrf
    unfold compileFunc at hcf
    split at hcf
    · simp at hcf
    · rename_i c hbody
      simp only at hcf
      split at hcf
      · rename_i res hres
        rw [Option.ite_none_right_eq_some] at hcf
        obtain ⟨hcond, hcf⟩ := hcf
        simp only [Option.some.injEq] at hcf
        subst hcf
        simp only at h
        rw [Option.ite_none_right_eq_some] at h
        obtain ⟨hlen, h⟩ := h
        simp only [Bool.and_eq_true, bne_iff_ne, ne_eq, decide_eq_true_eq] at hcond
        obtain ⟨⟨⟨hname, hnd⟩, hlt⟩, htake⟩ := hcond
        refine ⟨⟨fn, hfn, by rw [hbody]; rfl, hname⟩, fun n0 base m w cargs hfl hs hargs hfresh => ?_⟩
        try simp only at h hlen
        generalize hvars : varsOf fn c = vars at *
        generalize hna : fn.params.size + fn.nfree = na at *
        have hnal : na ≤ vars.length := by
          have := congrArg List.length htake
          simp only [List.length_take, List.length_range] at this
          omega
        have hcl : cargs.length = na := by rw [← hargs.length]; exact hlen
        -- the run
        have hrun : ∃ o E1, rexec (table P pr) n flx (compileCode P vars fn.ntmps c) (args ++ List.replicate (vars.length - na) .undef) H = some (o, E1, H') ∧ (o = .normal ∨ o = .ret) ∧ ∃ vs, resAll E1 H' res = some vs ∧ resVal vs = v := by
          split at h
          · rename_i E1 H1 h1
            simp only [Option.map_eq_some_iff, Prod.mk.injEq] at h
            obtain ⟨vs, g1, g2, rfl⟩ := h
            exact ⟨_, E1, h1, .inl rfl, vs, g1, g2⟩
          · rename_i E1 H1 h1
            simp only [Option.map_eq_some_iff, Prod.mk.injEq] at h
            obtain ⟨vs, g1, g2, rfl⟩ := h
            exact ⟨_, E1, h1, .inr rfl, vs, g1, g2⟩
          · simp at h
        obtain ⟨o, E1, hex, ho, vs, hvs, rfl⟩ := hrun
        have hE : EnvOk vars fn.ntmps (args ++ List.replicate (vars.length - na) .undef) m { tmps := ⟨cargs⟩ ++ Array.replicate (fn.ntmps - (⟨cargs⟩ : Array Value).size) undef, defers := [] } := by
          refine ⟨by simp; omega, by simp; omega, fun y t hy => ?_⟩
          by_cases hyn : y < na
          · have hty : t = y := by
              have h1 : (vars.take na)[y]? = some t := by rw [List.getElem?_take_of_lt hyn]; exact hy
              rw [htake, List.getElem?_range hyn] at h1
              exact (Option.some.inj h1).symm
            subst hty
            obtain ⟨cv, g1, g2⟩ := hargs.get t args[t] (List.getElem?_eq_getElem (by omega))
            rw [List.getD_eq_getElem?_getD, List.getElem?_append_left (by omega), List.getElem?_eq_getElem (by omega)]
            have hcv : (⟨cargs⟩ ++ Array.replicate (fn.ntmps - (⟨cargs⟩ : Array Value).size) undef : Array Value).getD t undef = cv := by
              rw [Array.getD_eq_getD_getElem?, Array.getElem?_append_left (by simp; omega)]
              simp [g1]
            simp only [hcv]
            exact g2
          · have hyl := (List.getElem?_eq_some_iff.1 hy).1
            have htn : na ≤ t := by
              rcases Nat.lt_or_ge t na with h | h
              · exfalso
                have h1 : (vars.take na)[t]? = some t := by rw [htake, List.getElem?_range h]
                rw [List.getElem?_take_of_lt h] at h1
                have e1 := idx_of_get hnd h1
                have e2 := idx_of_get hnd hy
                rw [e1] at e2; cases e2; omega
              · exact h
            have hE1 : (args ++ List.replicate (vars.length - na) AV.undef).getD y .undef = .undef := by
              rw [List.getD_eq_getElem?_getD, List.getElem?_append_right (by omega), List.getElem?_replicate]
              split <;> rfl
            have hE2 : (⟨cargs⟩ ++ Array.replicate (fn.ntmps - (⟨cargs⟩ : Array Value).size) undef : Array Value).getD t undef = undef := by
              rw [Array.getD_eq_getD_getElem?, Array.getElem?_append_right (by simp; omega), Array.getElem?_replicate]
              split <;> rfl
            simp only [hE1, hE2]
            exact VRel.undef m
        refine calls_of_wp hfn hbody (wp_mono (hc c vars fn.ntmps flx _ H o E1 H' hnd hex n0 base m w _ hfl hs hE hfresh) fun e a w' hp => ?_)
        obtain ⟨rfl, hd, m', hE', hst⟩ := hp
        obtain ⟨rv, r1, r2⟩ := results_run hst.sim hE' hres hvs
        rcases ho with rfl | rfl
        · exact ⟨hd, rv, r1, rv, m', rfl, r2, hst⟩
        · exact ⟨hd, rv, r1, rv, m', rfl, r2, hst⟩
      · simp at hcf

theorem sound_all {P : Program} {pr : Nat → Option Prim} (hmix : P.follows .mixedOrders = true) (hpr : PrimsOk P pr) : ∀ n, CodeSound P pr n ∧ LoopSound P pr n ∧ CallSound P (rcall (table P pr) n)
  | 0 => ⟨fun c vars nt fl E H o E' H' _ h => by simp [rexec] at h, fun c vars nt fl E H o E' H' _ h => by simp [rexec] at h, fun flx g args H v H' h => by simp [rcall] at h⟩
  | n + 1 => by
    obtain ⟨h1, h2, h3⟩ := sound_all hmix hpr n
    have hl := loop_step h1 h2
    exact ⟨code_step hmix h1 hl h3, hl, call_step hpr h1⟩

/-- WHAT THE ABSTRACT MACHINE COMPUTES, A CALL COMPUTES. -/
theorem call_sound {P : Program} {pr : Nat → Option Prim} (hmix : P.follows .mixedOrders = true) (hpr : PrimsOk P pr) (n : Nat) : CallSound P (rcall (table P pr) n) := (sound_all hmix hpr n).2.2

end Go.RM

