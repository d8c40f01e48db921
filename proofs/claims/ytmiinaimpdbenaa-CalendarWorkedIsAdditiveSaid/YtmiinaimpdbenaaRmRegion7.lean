/-
  A region: one operation's step, whatever it is.
-/
import Derived.Test.YtmiinaimpdbenaaRmRegion6
namespace Go.RM
set_option linter.unusedSimpArgs false
set_option linter.unusedVariables false

theorem run_enter {P : Program} {f : FuncId} {fn : Func} (hf : P.funcs[f]? = some fn) (hb : fn.body.isSome = true) (hname : fn.name ≠ "runtime.NumGoroutine") (args : Array Value) (w : World) :
    (callFunc f args).run P w = .ok (.enter f args) w := by
  obtain ⟨c, hc⟩ := Option.isSome_iff_exists.1 hb
  simp [callFunc, hf, hname, hc]

theorem solid_touches {o : Oper} {free : Bool} (h : solidB o free = true) : touches o.op = true ∧ isLoad o.op = false := by
  unfold solidB at h
  cases hop : o.op with
  | call c =>
    rw [hop] at h
    obtain ⟨cal, args, ts⟩ := c
    cases cal with
    | builtin b => cases b <;> simp_all [touches, isLoad, isStore, mustWrite, isCallOp, isAppendOp]
    | value f => simp [touches, isLoad]
    | invoke a b => simp [touches, isLoad]
  | _ => rw [hop] at h; simp_all [touches, isLoad, isStore, mustWrite, isCallOp, isAppendOp]

theorem rop_fl {call : Nat → Nat → List AV → Heap → Option (AV × Heap)} {fl fl' : Nat} {free : Bool} {X : RX → AV} {H : Heap} {r : ROp} {op : Op} (hk : kindOk op r = true)
    (h1 : isStore op = false) (h2 : mustWrite op = false) (h3 : isCallOp op = false) (h4 : isAppendOp op = false) : rop call fl free X H r = rop call fl' free X H r := by
  cases r <;> simp only [kindOk, h1, h2, h3, h4, Bool.false_eq_true] at hk <;> rfl

/-- A heap of which nothing is in force. -/
def deaden (H : Heap) : Heap := H.map killed
theorem deaden_get (H : Heap) (b : Nat) : (deaden H)[b]? = (H[b]?).map killed := by simp [deaden]
theorem deaden_act (H : Heap) (b : Nat) : (deaden H).act b = none := by
  cases h : H[b]? with
  | none => unfold Heap.act; rw [deaden_get, h]; rfl
  | some k => exact killed_act (k := k) (by rw [deaden_get, h]; rfl)

section
variable {P : Program} {vars : List Nat} {nt : Nat} {draw : Bool} {all : List Oper} {l : List ROper} {call : Nat → Nat → List AV → Heap → Option (AV × Heap)} {fl : Nat} {E L : List AV} {Hs : Nat → Heap} {n0 base : Nat}
variable {m0 : BMap} {w0 : World} {S : Nat → Bool} {p d : Nat} {m : BMap} {a : Act} {w : World}

theorem Act.put_defers' (a : Act) (x : Option Tmp) (v : Value) : (a.put x v).defers = a.defers := by cases x <;> rfl

theorem wpOp_of_ok {Q : Exit → Act → World → Prop} {K : Act → World → Prop} {i : Nat} {o : Oper} (ho : all[i]? = some o) (hw : Region.wanted o (yielded all.toArray a.tmps) = true)
    {fl' : Nat} {H H' : Heap} {v : AV} (h : OpOk P a.eval o n0 base fl' m H w v H')
    (hK : ∀ v' w' m', VRel m' v v' → Step n0 base fl' m H w m' H' w' → K (a.put o.dst v') w') : wpOp P all.toArray Q i K a w := by
  obtain ⟨v', w', m', h1, h2, h3⟩ := h
  have := hK v' w' m' h2 h3
  unfold wpOp
  simp only [List.getElem?_toArray, ho, hw, if_true, Oper.wp]
  left
  rcases h1 with h1 | ⟨h1, rfl⟩
  · rw [h1]; exact this
  · rw [h1]; exact this

theorem run_callOp {ρ : Operand → Value} {o : Oper} {c : Call} {x : Operand} {g : FuncId} {cs : List Value} (ho : o.op = .call c) (hc : c.callee = .value x) (hx : ρ x = .func (.func g) #[] ⟨cs⟩) (w : World) :
    (execOp ρ o).run P w = (callFunc g ⟨c.args.toList.map ρ ++ cs⟩).run P w := by
  have h1 : c.args.map ρ = ⟨c.args.toList.map ρ⟩ := by rw [← Array.toList_inj]; simp
  simp only [execOp, ho, resolve, hc, hx, Deferred.ofValue, Sem.run_bind, Sem.run_pure, Result.andThen_ok, invoke, h1]
  congr 2
  simp

theorem wpOp_call {Q : Exit → Act → World → Prop} {K : Act → World → Prop} {i : Nat} {o : Oper} (ho : all[i]? = some o) (hw : Region.wanted o (yielded all.toArray a.tmps) = true)
    {res : Operand → Option RX} {ap : List RX} {r : ROp} {X : RX → AV} {free : Bool} {H H' : Heap} {v : AV} (hco : compileOp P res ap o.op = some r) (hcl : isCallOp o.op = true) (hrun : rop call fl free X H r = some (v, H'))
    (hX : ∀ x rx, res x = some rx → VRel m (X rx) (a.eval x)) (hsound : CallSound P call) (hfl : n0 ≤ if free then fl else H.length) (hs : Sim n0 base m H w) (hfresh : ∀ b, H.length ≤ b → b < H'.length → m b = none)
    (hK : ∀ v' w' m', VRel m' v v' → Step n0 base (if free then fl else H.length) m H w m' H' w' → K (a.put o.dst v') w') : wpOp P all.toArray Q i K a w := by
  have key : ∀ (g : Nat) (args : List AV) (cargs : List Value), call (if free then fl else H.length) g args H = some (v, H') → VRels m args cargs →
      (∀ fn, P.funcs[g]? = some fn → fn.body.isSome = true → fn.name ≠ "runtime.NumGoroutine" → (execOp a.eval o).run P w = .ok (.enter g ⟨cargs⟩) w) → wpOp P all.toArray Q i K a w := fun g args cargs hcall hargs hrn => by
    obtain ⟨⟨fn, f1, f2, f3⟩, hh⟩ := hsound _ _ _ _ _ _ hcall
    have hcalls := hh n0 base m w cargs hfl hs hargs hfresh
    unfold wpOp
    simp only [List.getElem?_toArray, ho, hw, if_true, Oper.wp]
    left
    rw [hrn fn f1 f2 f3, Oper.upon_enter]
    refine Calls.mono hcalls fun e w' he => ?_
    obtain ⟨v', m', rfl, h1, h2⟩ := he
    exact hK v' w' m' h1 h2
  cases hop : o.op with
  | call c =>
    rw [hop] at hco hcl
    obtain ⟨cal, args, ts⟩ := c
    cases cal with
    | builtin b => simp [isCallOp] at hcl
    | invoke a b => simp [compileOp] at hco
    | value x =>
      by_cases hxf : ∃ f, x = .func f
      · obtain ⟨f, rfl⟩ := hxf
        simp only [compileOp, Option.map_eq_some_iff] at hco
        obtain ⟨l', hl', rfl⟩ := hco
        refine key f _ _ hrun (resL_rel hX hl') fun fn f1 f2 f3 => ?_
        rw [run_callOp (cs := []) hop rfl rfl, run_enter f1 f2 f3]
        simp
      · have hco2 : (match res x, resL res args.toList with | some a, some l => some (ROp.call a l) | _, _ => none) = some r := by
          cases x <;> simp only [compileOp] at hco <;> first | exact hco | exact absurd ⟨_, rfl⟩ hxf
        split at hco2
        · rename_i rx l' h1 h2
          simp only [Option.some.injEq] at hco2; subst hco2
          simp only [rop] at hrun
          have hx := hX _ _ h1
          split at hrun
          · rename_i g caps hXx
            rw [hXx] at hx
            obtain ⟨cs, hcs, hrel⟩ := hx
            refine key g _ _ hrun (VRels.append (resL_rel hX h2) hrel) fun fn f1 f2 f3 => ?_
            rw [run_callOp hop rfl hcs, run_enter f1 f2 f3]
          · simp at hrun
        · simp at hco2
  | _ => rw [hop] at hcl; simp [isCallOp] at hcl

/-! ### Loads -/

theorem ls_of {j : Nat} {o : Oper} (h : lsOnly all = true) (ho : all[j]? = some o) : touches o.op = false ∨ isLoad o.op = true ∨ isStore o.op = true := by
  have := List.all_eq_true.1 h o (List.mem_of_getElem? ho)
  simpa [or_assoc] using this

theorem apartB_ne {H : Heap} {b bs off : Nat} : ∀ {l : List AV}, apartB H bs l = true → AV.ptr b off ∈ l → b ≠ bs ∧ notKid H b bs = true
  | .ptr b' o' :: l, h, hm => by
    simp only [apartB, Bool.and_eq_true, bne_iff_ne] at h
    rcases List.mem_cons.1 hm with e | e
    · cases e; exact h.1
    · exact apartB_ne h.2 e
  | .int .. :: _, h, _ => by simp [apartB] at h
  | .bool _ :: _, h, _ => by simp [apartB] at h
  | .str _ :: _, h, _ => by simp [apartB] at h
  | .nilptr :: _, h, _ => by simp [apartB] at h
  | .slice .. :: _, h, _ => by simp [apartB] at h
  | .empty :: _, h, _ => by simp [apartB] at h
  | .func .. :: _, h, _ => by simp [apartB] at h
  | .nilfunc :: _, h, _ => by simp [apartB] at h
  | .agg _ :: _, h, _ => by simp [apartB] at h
  | .tuple _ :: _, h, _ => by simp [apartB] at h

theorem load_inv {res : Operand → Option RX} {ap : List RX} {op : Op} {r : ROp} (hco : compileOp P res ap op = some r) (h : isLoad op = true) : ∃ t x sz rx, op = .load t x ∧ r = .load sz rx ∧ res x = some rx := by
  cases op with
  | load t x =>
    simp only [compileOp] at hco
    split at hco
    · rename_i sz rx h1 h2
      simp only [Option.some.injEq] at hco
      exact ⟨t, x, sz, rx, rfl, hco.symm, h2⟩
    · simp at hco
  | _ => simp [isLoad] at h

theorem store_inv {res : Operand → Option RX} {ap : List RX} {op : Op} {r : ROp} (hco : compileOp P res ap op = some r) (h : isStore op = true) : ∃ n x v, r = .store n x v ap := by
  cases op with
  | store t x v =>
    simp only [compileOp] at hco
    split at hco
    · rename_i n a b h1 h2 h3
      simp only [Option.some.injEq] at hco
      exact ⟨n, a, b, hco.symm⟩
    · simp at hco
  | _ => simp [isStore] at h

/-- A step beside a load, in a region of loads and stores, leaves the load's block alone. -/
theorem Ctx.keeps (C : Ctx P vars nt draw all l call fl E L Hs n0) {i s : Nat} {o : Oper} {t : TypeId} {x : Operand} {rx : RX} {b off : Nat} (ho : all[i]? = some o) (hop : o.op = .load t x)
    (hres : resAt vars draw (ancs [] all) all i x = some rx) (hev : RX.ev (L.take i) E rx = .ptr b off) (hls : lsOnly all = true) (hs : s < all.length) (hun : solidAt all l s → ordB draw (ancs [] all) s i = false) :
    (Hs (s + 1))[b]? = (Hs s)[b]? ∧ ∀ k c, (Hs s)[b]? = some k → k.kid = some c → (Hs (s + 1))[c]? = (Hs s)[c]? := by
  obtain ⟨os, hos⟩ : ∃ o, all[s]? = some o := ⟨_, List.getElem?_eq_getElem hs⟩
  obtain ⟨rs, hrs, hc, hst⟩ := C.comp s os hos
  rcases hst with ⟨_, v, _, hrun⟩ | ⟨_, _, h⟩
  · obtain ⟨ap, hap, hco, _⟩ := hc.code
    rcases ls_of hls hos with h | h | h
    · rw [(rop_pure (touches_pure hco h) hrun).1]; exact ⟨rfl, fun _ _ _ _ => rfl⟩
    · obtain ⟨_, _, sz, rx', _, hr, _⟩ := load_inv hco h
      rw [hr] at hrun
      simp only [rop] at hrun
      split at hrun
      · simp only [Option.map_eq_some_iff, Prod.mk.injEq] at hrun
        obtain ⟨_, _, _, h⟩ := hrun
        rw [h]; exact ⟨rfl, fun _ _ _ _ => rfl⟩
      · simp at hrun
    · have hsol : solidAt all l s := ⟨os, rs, hos, hrs, by simp [solidB, h]⟩
      have hunord := hun hsol
      rw [if_pos h] at hap
      have hne : s ≠ i := fun e => by
        subst e; rw [hos] at ho; cases ho
        rw [hop] at h; simp [isStore] at h
      rcases apartOf_ord hap i o ho (by simpa using Ne.symm hne) (by rw [hop]; rfl) with h' | ⟨t', x', y, h1, h2, h3⟩
      · rw [Nat.zero_add, hunord] at h'; simp at h'
      · rw [hop] at h1; cases h1
        rw [Nat.zero_add, hres] at h2; cases h2
        obtain ⟨n, xs, vs, hr⟩ := store_inv hco h
        rw [hr] at hrun
        simp only [rop] at hrun
        split at hrun
        · rename_i bs offs hbs
          split at hrun
          · rename_i hcond
            simp only [Option.map_eq_some_iff, Prod.mk.injEq] at hrun
            obtain ⟨H', hput, _, rfl⟩ := hrun
            obtain ⟨hb, hkid⟩ := apartB_ne hcond.2 (List.mem_map.2 ⟨.var y, h3, hev⟩)
            unfold rput at hput
            split at hput
            · split at hput
              · simp only [Option.some.injEq] at hput
                refine ⟨by rw [← hput, List.getElem?_set_ne (by omega)], fun k c hk hc => ?_⟩
                have hcb : c ≠ bs := fun e => by
                  unfold notKid at hkid
                  split at hkid
                  · rename_i k' hk'
                    have := act_get hk'
                    rw [hk] at this; cases this
                    rw [hc, e] at hkid; simp at hkid
                  · cases hkid
                rw [← hput, List.getElem?_set_ne (by omega)]
              · simp at hput
            · simp at hput
          · simp at hrun
        · simp at hrun
  · rw [h]; exact ⟨rfl, fun _ _ _ _ => rfl⟩

theorem Ctx.keepsTo (C : Ctx P vars nt draw all l call fl E L Hs n0) {i : Nat} {o : Oper} {t : TypeId} {x : Operand} {rx : RX} {b off : Nat} (ho : all[i]? = some o) (hop : o.op = .load t x)
    (hres : resAt vars draw (ancs [] all) all i x = some rx) (hev : RX.ev (L.take i) E rx = .ptr b off) (hls : lsOnly all = true) {q : Nat} : ∀ {r : Nat}, q ≤ r → r ≤ all.length → (∀ s, q ≤ s → s < r → solidAt all l s → ordB draw (ancs [] all) s i = false) → (Hs r)[b]? = (Hs q)[b]? ∧ ∀ k c, (Hs q)[b]? = some k → k.kid = some c → (Hs r)[c]? = (Hs q)[c]? := by
  intro r
  induction r with
  | zero => intro h _ _; have : q = 0 := by omega
            rw [this]; exact ⟨rfl, fun _ _ _ _ => rfl⟩
  | succ r ih =>
    intro h1 h2 h3
    by_cases e : q = r + 1
    · rw [e]; exact ⟨rfl, fun _ _ _ _ => rfl⟩
    · obtain ⟨a1, a2⟩ := C.keeps ho hop hres hev hls (by omega) (h3 r (by omega) (by omega))
      obtain ⟨b1, b2⟩ := ih (by omega) (by omega) fun s g1 g2 => h3 s g1 (by omega)
      exact ⟨a1.trans b1, fun k c hk hc => (a2 k c (by rw [b1]; exact hk) hc).trans (b2 k c hk hc)⟩

theorem act_same2 {H H' : Heap} {b : Nat} (h : H'[b]? = H[b]?) (hk : ∀ k c, H[b]? = some k → k.kid = some c → H'[c]? = H[c]?) : H'.act b = H.act b := by
  unfold Heap.act
  rw [h]
  cases hb : H[b]? with
  | none => rfl
  | some k =>
    simp only
    have : H'.rev k = H.rev k := by
      unfold Heap.rev
      cases hc : k.kid with
      | none => rfl
      | some c => simp only [hk k c hb hc]
    rw [this]

theorem same_symm {H H' : Heap} {b : Nat} (h : H'[b]? = H[b]? ∧ ∀ k c, H[b]? = some k → k.kid = some c → H'[c]? = H[c]?) : H[b]? = H'[b]? ∧ ∀ k c, H'[b]? = some k → k.kid = some c → H[c]? = H'[c]? :=
  ⟨h.1.symm, fun k c hk hc => (h.2 k c (by rw [← h.1]; exact hk) hc).symm⟩

/-- The load sees, in the world as it is, what it sees at its own place. -/
theorem Inv.loadAt (C : Ctx P vars nt draw all l call fl E L Hs n0) (I : Inv vars nt draw all l fl E L Hs n0 base m0 w0 S p d m a w) {i : Nat} {o : Oper} {ro : ROper} (ho : all[i]? = some o) (hro : l[i]? = some ro) (hc : Comp P vars nt draw (ancs [] all) all i o ro)
    (hr : Ready draw all S i) (hld : isLoad o.op = true) {v : AV} (hrun : rop call fl ro.free (RX.ev (L.take i) E) (Hs i) ro.op = some (v, Hs (i + 1))) :
    ∃ G, n0 ≤ G.length ∧ Sim n0 base m G w ∧ rop call G.length ro.free (RX.ev (L.take i) E) G ro.op = some (v, G) := by
  have hil : i < all.length := (List.getElem?_eq_some_iff.1 ho).1
  obtain ⟨ap, hap, hco, hls0⟩ := hc.code
  obtain ⟨t, x, sz, rx, hop, hrop, hres⟩ := load_inv hco hld
  have hlow : ∀ j, j ≤ all.length → n0 ≤ (Hs j).length := fun j hj => Nat.le_trans C.low0 (C.len (Nat.zero_le j) hj)
  rw [hrop] at hrun ⊢
  simp only [rop] at hrun ⊢
  split at hrun
  · rename_i b off hev
    simp only [Option.map_eq_some_iff, Prod.mk.injEq] at hrun
    obtain ⟨v0, hv0, rfl, _⟩ := hrun
    by_cases hin : p ≤ i ∧ i ≤ p + d
    · exact ⟨Hs i, hlow i (by omega), I.sim C hin.1 hin.2, by simp only [hev, hv0, Option.map_some]⟩
    · have hnsi : ¬ solidAt all l i := fun ⟨o', r', a1, a2, a3⟩ => by
        rw [ho] at a1; cases a1
        have := (solid_touches a3).2; rw [hld] at this; simp at this
      -- a solid operation between: it is open against the load
      have hopen : ∀ s, solidAt all l s → (i < s ∧ s < p) ∨ (p ≤ s ∧ s < i) → ordB draw (ancs [] all) s i = false := fun s hs hw => by
        cases ho' : ordB draw (ancs [] all) s i with
        | false => rfl
        | true =>
          exfalso
          rcases pre_of_ord ho' with ⟨h, hp⟩ | ⟨h, hp⟩
          · rcases hw with ⟨_, h2⟩ | ⟨_, h2⟩
            · have := I.closed s i ((I.solid s hs).2 h2) hp
              rw [hr.un] at this; simp at this
            · omega
          · rcases hw with ⟨h1, _⟩ | ⟨h1, h2⟩
            · omega
            · have := (I.solid s hs).1 (hr.pre s hp); omega
      have hls : lsOnly all = true := by
        obtain ⟨s, hs, hw⟩ : ∃ s, solidAt all l s ∧ ((i < s ∧ s < p) ∨ (p ≤ s ∧ s < i)) := by
          rcases Nat.lt_or_ge i p with h | h
          · rcases I.pstart with h0 | h0
            · omega
            · refine ⟨p - 1, h0, .inl ⟨?_, by omega⟩⟩
              have : p - 1 ≠ i := fun e => hnsi (e ▸ h0)
              omega
          · rcases I.qend with h0 | h0
            · omega
            · exact ⟨p + d, h0, .inr ⟨by omega, by omega⟩⟩
        have hord := hopen s hs hw
        obtain ⟨os, rs, hos, hrs, hsol⟩ := hs
        obtain ⟨rs', g1, g2, _⟩ := C.comp s os hos
        rw [hrs] at g1; cases g1
        have hne : i ≠ s := by omega
        have ht : touches o.op = true := by rw [hop]; rfl
        have hnf : rs.free = false := by
          cases hf : rs.free with
          | false => rfl
          | true => have := freeAt_ord (g2.free ▸ hf) ho hne ht; rw [hord] at this; simp at this
        have hnm : mustWrite os.op = false := by
          cases hf : mustWrite os.op with
          | false => rfl
          | true => have := freeAt_ord (g2.must hf) ho hne ht; rw [hord] at this; simp at this
        have hst : isStore os.op = true := by
          unfold solidB at hsol
          simpa [hnf, hnm] using hsol
        obtain ⟨aps, haps, _, hlsx⟩ := g2.code
        rw [if_pos hst] at haps
        rcases apartOf_ord haps i o ho (by simpa using hne) ht with h' | ⟨_, _, y, _, _, h3⟩
        · rw [Nat.zero_add, hord] at h'; simp at h'
        · cases aps with
          | nil => simp at h3
          | cons _ _ => simpa using hlsx
      have hsame : (Hs p)[b]? = (Hs i)[b]? ∧ ∀ k c, (Hs i)[b]? = some k → k.kid = some c → (Hs p)[c]? = (Hs i)[c]? := by
        have hpl : p ≤ all.length := by have := I.hq; omega
        rcases Nat.lt_or_ge i p with h | h
        · exact C.keepsTo ho hop hres hev hls (by omega) hpl fun s g1 g2 hs => hopen s hs (.inl ⟨by
            have : s ≠ i := fun e => hnsi (e ▸ hs)
            omega, g2⟩)
        · exact same_symm (C.keepsTo ho hop hres hev hls h (by omega) fun s g1 g2 hs => hopen s hs (.inr ⟨g1, g2⟩))
      refine ⟨Hs p, hlow p (by have := I.hq; omega), I.sim C (Nat.le_refl _) (by omega), ?_⟩
      have hblk : (Hs p).act b = (Hs i).act b := act_same2 hsame.1 hsame.2
      have : rload (Hs p) sz b off = some v0 := by
        unfold rload at hv0 ⊢; rw [hblk]; exact hv0
      simp only [hev, this, Option.map_some]
  · simp at hrun

theorem appAt {o : Oper} {ρ : Operand → Value} {res : Operand → Option RX} {ap : List RX} {r : ROp} {X : RX → AV} {free : Bool} {H H' : Heap} {v : AV} (hco : compileOp P res ap o.op = some r) (happ : isAppendOp o.op = true)
    (hrun : rop call fl free X H r = some (v, H')) (hX : ∀ x rx, res x = some rx → VRel m (X rx) (ρ x)) (hs : Sim n0 base m H w) (hfl : n0 ≤ fl) :
    ∃ v' w', (execOp ρ o).run P w = .ok (.value v') w' ∧ AppRes fl free m H w v H' v' w' := by
  cases hop : o.op with
  | call c =>
    rw [hop] at hco happ
    obtain ⟨cal, args, ts⟩ := c
    cases cal with
    | builtin b =>
      cases b <;> simp [isAppendOp] at happ
      exact op_append hop rfl hco hrun hX hs hfl
    | invoke a b => simp [isAppendOp] at happ
    | value x => simp [isAppendOp] at happ
  | _ => rw [hop] at happ; simp [isAppendOp] at happ

theorem Inv.appStep (C : Ctx P vars nt draw all l call fl E L Hs n0) (I : Inv vars nt draw all l fl E L Hs n0 base m0 w0 S p d m a w) {i : Nat} {o : Oper} {ro : ROper} (ho : all[i]? = some o) (hc : Comp P vars nt draw (ancs [] all) all i o ro)
    (hr : Ready draw all S i) (hn : ¬ solidAt all l i) (h1 : p ≤ i) (h2 : i < p + d) {v : AV} {v' : Value} {w' : World} (hL : L[i]? = some v) (h : AppRes fl false m (Hs i) w v (Hs (i + 1)) v' w') :
    ∃ m', Inv vars nt draw all l fl E L Hs n0 base m0 w0 (setS S i) p d m' (a.put o.dst v') w' := by
  have hil : i < all.length := by have := I.hq; omega
  have hs := I.sim C h1 (by omega)
  have hlow : n0 ≤ (Hs i).length := Nat.le_trans C.low0 (C.len (Nat.zero_le i) (by omega))
  have hn' : (Hs i).length < (Hs (i + 1)).length → m (Hs i).length = none := fun h => I.fresh C h1 hil hr.un (Nat.le_refl _) h
  generalize hH1 : Hs (i + 1) = H1 at h
  cases h with
  | same hv => exact ⟨m, I.still C ho hc hr hn ⟨rfl, rfl, rfl, Nat.le_refl _⟩ (fun _ _ => rfl) hL hv⟩
  | push hk hrel hle hcap =>
    obtain ⟨m', hv, hst⟩ := app_step (fl := (Hs i).length) (AppRes.push (fl := (Hs i).length) (free := false) (H := Hs i) (w := w) (m := m) hk hrel hle hcap) hs hlow (fun h => hn' (by rw [hH1]; exact h))
    rw [← hH1] at hst
    exact ⟨m', I.quiet C ho hc hr hn h1 h2 hst hL hv⟩
  | put hfree => simp at hfree
  | topIn hflb hact hlive hm he hoff hfull hrel hxs hsc hcap hle =>
    rename_i b off n k e cap blk lb xs ys
    have hyl := hrel.length
    have hn0b := Nat.le_trans C.flow hflb
    have hroom : lb.co + blk.cells.length + ys.length ≤ lb.co + lb.room := by
      rw [← hyl, hxs]
      have : (n + k) * e ≤ cap * e := Nat.mul_le_mul_right _ hle
      rw [Nat.add_mul] at this
      have := (hs.cells b blk lb hact hm).2.1
      omega
    obtain ⟨b1, b2⟩ := beyond_sim hs hn0b hact hlive hm (vs := ys) (Nat.le_refl _) hroom
    obtain ⟨p1, p2, p3⟩ := b2.own b blk lb hn0b hact hm
    obtain ⟨s1, s2, s3⟩ := setCells_os lb.cb ys (lb.co + blk.cells.length) w
    have ssz := setCells_size lb.cb ys (lb.co + blk.cells.length) w
    have hcl : (blk.cells.drop off ++ xs).length ≤ lb.room - off := by
      simp only [List.length_append, List.length_drop]; omega
    refine ⟨_, I.top C ho hc hr hn h1 h2 (l2 := ⟨lb.cb, lb.co + off, lb.room - off, e⟩) hflb hact hlive hm hH1 ⟨rfl, rfl⟩ rfl hcl
      (tail_cells (hs.cells b blk lb hact hm).2.2 hrel hoff _ _ fun j hj => (b1 j hj).1) ⟨p1, p2⟩ (room_shift p3 off e) (.inl ⟨rfl, by simp only [List.length_append, List.length_drop]; omega⟩) ⟨s1, s2, s3, by rw [ssz]; exact Nat.le_refl _⟩
      (fun c hc hne => setCells_other _ _ _ _ _ hne) (fun off' ho' => by rw [cell_setCells (fun j hj => (b1 j hj).1), if_neg (by omega)])
      (fun lo hlo hR j hj => ⟨by
        rw [hlo, cell_setCells (fun j hj => (b1 j hj).1)]
        split
        · rw [List.getElem?_eq_getElem (by omega)]; rfl
        · have := (hR j hj).1; rwa [hlo] at this, by rw [World.frozen?_setCells]; exact (hR j hj).2⟩) hL ⟨_, _, rfl, hle, _, upd_same _ _ _, ?_, .inl (by simp)⟩⟩
    show 0 + cap * e = lb.room - off
    omega
  | topNew hflb hact hlive hm hrel hle hcap =>
    rename_i b off n k e cap blk lb xs cs rest t
    obtain ⟨c1, c2⟩ := new_cells (w := w) (rest := rest) hrel t e
    have hsz : (w.drew.alloc (.cells (cs ++ rest).toArray t)).heap.size = w.heap.size + 1 := by simp
    have hlb := (hs.own b blk lb (Nat.le_trans C.flow hflb) hact hm).2.1
    refine ⟨_, I.top C ho hc hr hn h1 h2 (l2 := ⟨w.heap.size, 0, (cs ++ rest).length, e⟩) hflb hact hlive hm hH1 ⟨rfl, rfl⟩ rfl (by simp [hrel.length]) c1 ⟨hs.size, by rw [hsz]; simp⟩ c2 (.inr (Nat.le_refl _)) ⟨rfl, rfl, rfl, by rw [hsz]; omega⟩
      (fun c hc _ => drew_alloc_old w _ c hc) (fun off' _ => cell_of_heap (drew_alloc_old w _ _ hlb) _) (fun lo hlo hR => room_of_heap (drew_alloc_old w _ _ (by omega)) hR) hL ⟨_, _, rfl, hle, _, upd_same _ _ _, ?_, .inl (by simp)⟩⟩
    show 0 + cap * e = _
    rw [hcap]; simp
  | reviveIn hfree => simp at hfree
  | reviveNew hfree => simp at hfree

theorem Inv.step (C : Ctx P vars nt draw all l call fl E L Hs n0) (I : Inv vars nt draw all l fl E L Hs n0 base m0 w0 S p d m a w) {i : Nat} (hil : i < all.length) (hr : Ready draw all S i)
    {Q : Exit → Act → World → Prop} {K : Act → World → Prop} (hK : ∀ p' d' m' a' w', a'.defers = a.defers → Inv vars nt draw all l fl E L Hs n0 base m0 w0 (setS S i) p' d' m' a' w' → K a' w') : wpOp P all.toArray Q i K a w := by
  obtain ⟨o, ho⟩ : ∃ o, all[i]? = some o := ⟨_, List.getElem?_eq_getElem hil⟩
  obtain ⟨ro, hro, hc, hst⟩ := C.comp i o ho
  have hsolid : solidAt all l i ↔ solidB o ro.free = true := ⟨fun ⟨o', r', a1, a2, a3⟩ => by rw [ho] at a1; rw [hro] at a2; cases a1; cases a2; exact a3, fun h => ⟨o, ro, ho, hro, h⟩⟩
  have hguard := I.guard C ho hc hr.pre
  rcases hst with ⟨hw, v, hL, hrun⟩ | ⟨hw, hL, hHs⟩
  · -- the operation runs
    rw [hw] at hguard
    obtain ⟨ap, hap, hco, hls⟩ := hc.code
    have hX : ∀ x rx, resAt vars draw (ancs [] all) all i x = some rx → VRel m (RX.ev (L.take i) E rx) (a.eval x) := fun x rx h => I.opnd C hil hr.un hr.pre h
    have hXk : ∀ v, RX.ev (L.take i) E (.k v) = v := fun _ => rfl
    have hkind := compile_kind hco
    by_cases ht : touches o.op = true
    · by_cases hld : isLoad o.op = true
      · -- a load
        have hns : ¬ solidAt all l i := fun h => by have := (solid_touches (hsolid.1 h)).2; rw [hld] at this; simp at this
        have hcl : isCallOp o.op = false := by cases hop : o.op <;> rw [hop] at hld <;> simp_all [isLoad, isCallOp]
        obtain ⟨G, hG1, hG2, hG3⟩ := I.loadAt C ho hro hc hr hld hrun
        refine wpOp_of_ok ho hguard (op_sound hco hG3 hX hXk hG2 hG1 (fun h => by omega) hcl) fun v' w' m' hv hstep => ?_
        have hmm : m' = m := by
          funext b
          cases hb : m b with
          | some lo => exact hstep.ext b lo hb
          | none =>
            cases hb' : m' b with
            | none => rfl
            | some lo => have := hstep.new b lo hb' hb; omega
        subst hmm
        exact hK p d m' _ w' (Act.put_defers' _ _ _) (I.still C ho hc hr hns ⟨hstep.os, hstep.tape, hstep.output, hstep.size⟩ (fun c hcl => hstep.frame c hcl fun ⟨b, k, lo, h1, ha, _⟩ => by have := act_lt ha; omega) hL hv)
      · simp only [Bool.not_eq_true] at hld
        obtain ⟨hp1, hpos⟩ := I.pos C ho hro ht hld hr.un hr.pre
        rcases hpos with ⟨hp2, hns⟩ | ⟨hp2, hsol⟩
        · have hnsolid : ¬ solidAt all l i := fun h => by rw [hsolid.1 h] at hns; simp at hns
          have hs := I.sim C hp1 (by omega)
          have hlow : n0 ≤ (Hs i).length := Nat.le_trans C.low0 (C.len (Nat.zero_le i) (by omega))
          unfold solidB at hns
          simp only [Bool.or_eq_false_iff, Bool.and_eq_false_iff] at hns
          obtain ⟨⟨hns1, hns2⟩, hns3⟩ := hns
          by_cases hcl : isCallOp o.op = true
          · have hnf : ro.free = false := by rcases hns3 with ⟨h, _⟩ | h; · rw [hcl] at h; simp at h
                                             · exact h
            rw [hnf] at hrun
            refine wpOp_call ho hguard hco hcl hrun hX C.sound (by simpa using hlow) hs (fun b g1 g2 => I.fresh C hp1 hil hr.un g1 g2) fun v' w' m' hv hstep => ?_
            exact hK p d m' _ w' (Act.put_defers' _ _ _) (I.quiet C ho hc hr hnsolid hp1 hp2 (by simpa using hstep) hL hv)
          · simp only [Bool.not_eq_true] at hcl
            by_cases happ : isAppendOp o.op = true
            · have hnf : ro.free = false := by rcases hns3 with ⟨_, h⟩ | h; · rw [happ] at h; simp at h
                                               · exact h
              rw [hnf] at hrun
              obtain ⟨v', w', hex, hres⟩ := appAt hco happ hrun hX hs C.flow
              obtain ⟨m', I'⟩ := I.appStep C ho hc hr hnsolid hp1 hp2 hL hres
              have hgo : K (a.put o.dst v') w' := hK p d m' _ w' (Act.put_defers' _ _ _) I'
              unfold wpOp
              simp only [List.getElem?_toArray, ho, hguard, if_true, Oper.wp]
              left
              rw [hex]; exact hgo
            · simp only [Bool.not_eq_true] at happ
              have hrun' := hrun
              rw [rop_fl (fl' := (Hs i).length) hkind hns1 hns2 hcl happ] at hrun'
              refine wpOp_of_ok ho hguard (op_sound hco hrun' hX hXk hs hlow (fun h => I.fresh C hp1 hil hr.un (Nat.le_refl _) h) hcl) fun v' w' m' hv hstep => ?_
              exact hK p d m' _ w' (Act.put_defers' _ _ _) (I.quiet C ho hc hr hnsolid hp1 hp2 hstep hL hv)
        · have hs := I.sim C hp1 (by omega)
          have hfin : ∀ v' w' m', VRel m' v v' → Step n0 base fl m (Hs i) w m' (Hs (i + 1)) w' → K (a.put o.dst v') w' := fun v' w' m' hv hstep => by
            obtain ⟨p', d', I'⟩ := I.solidStep C ho hc hr (hsolid.2 hsol) hp2 hstep hL hv
            exact hK p' d' m' _ w' (Act.put_defers' _ _ _) I'
          by_cases hcl : isCallOp o.op = true
          · have hfree : ro.free = true := by
              unfold solidB at hsol
              cases hop : o.op with
              | call c =>
                rw [hop] at hsol hcl
                obtain ⟨cal, args, ts⟩ := c
                cases cal <;> simp_all [isStore, mustWrite, isCallOp, isAppendOp]
              | _ => rw [hop] at hcl; simp [isCallOp] at hcl
            rw [hfree] at hrun
            exact wpOp_call ho hguard hco hcl hrun hX C.sound (by simpa using C.flow) hs (fun b g1 g2 => I.fresh C hp1 hil hr.un g1 g2) fun v' w' m' hv hstep => hfin v' w' m' hv (by simpa using hstep)
          · simp only [Bool.not_eq_true] at hcl
            exact wpOp_of_ok ho hguard (op_sound hco hrun hX hXk hs C.flow (fun h => I.fresh C hp1 hil hr.un (Nat.le_refl _) h) hcl) hfin
    · -- a pure operation
      simp only [Bool.not_eq_true] at ht
      have hns : ¬ solidAt all l i := fun h => by have := (solid_touches (hsolid.1 h)).1; rw [ht] at this; simp at this
      have hcl : isCallOp o.op = false := by
        cases hop : o.op with
        | call c => rw [hop] at ht; obtain ⟨cal, args, ts⟩ := c; cases cal <;> simp_all [touches, isCallOp]
        | _ => rfl
      have hpure := touches_pure hco ht
      obtain ⟨hHs, hp⟩ := rop_pure hpure hrun
      have hrun' := hp (deaden (Hs i)) fun b => by rw [deaden_get]; cases (Hs i)[b]? <;> rfl
      have hs : Sim n0 base m (deaden (Hs i)) w := by
        refine ⟨I.wsz, by simpa [deaden] using Nat.le_trans C.low0 (C.len (Nat.zero_le i) (by omega)), fun b c k hk hkc => ?_, fun b k lo hk hm => ?_, fun b k lo ha => ?_, I.ro, fun b k lo _ ha => ?_, fun b b' k k' lo lo' _ _ ha => ?_⟩
        · rw [deaden_get, Option.map_eq_some_iff] at hk; obtain ⟨_, _, rfl⟩ := hk; simp [killed] at hkc
        · rw [deaden_get, Option.map_eq_some_iff] at hk; obtain ⟨k0, hk0, rfl⟩ := hk
          show lo.e = k0.e
          exact I.esAt C (i := i) (by omega) hk0 hm
        · rw [deaden_act] at ha; simp at ha
        · rw [deaden_act] at ha; simp at ha
        · rw [deaden_act] at ha; simp at ha
      refine wpOp_of_ok ho hguard (op_sound hco hrun' hX hXk hs C.flow (fun h => by omega) hcl) fun v' w' m' hv hstep => ?_
      have hmm : m' = m := by
        funext b
        cases hb : m b with
        | some lo => exact hstep.ext b lo hb
        | none =>
          cases hb' : m' b with
          | none => rfl
          | some lo => have := hstep.new b lo hb' hb; omega
      subst hmm
      exact hK p d m' _ w' (Act.put_defers' _ _ _) (I.still C ho hc hr hns ⟨hstep.os, hstep.tape, hstep.output, hstep.size⟩ (fun c hcl => hstep.frame c hcl fun ⟨b, k, lo, _, ha, _⟩ => by rw [deaden_act] at ha; simp at ha) hL hv)
  · -- the operation is passed over
    rw [hw] at hguard
    have hgo : K (a.put o.dst undef) w := by
      by_cases hsol : solidAt all l i
      · obtain ⟨ht, hl⟩ := solid_touches (hsolid.1 hsol)
        obtain ⟨hp1, hpos⟩ := I.pos C ho hro ht hl hr.un hr.pre
        rcases hpos with ⟨_, h⟩ | ⟨hp2, _⟩
        · rw [hsolid.1 hsol] at h; simp at h
        · have hs := I.sim C hp1 (by omega)
          obtain ⟨p', d', I'⟩ := I.solidStep C ho hc hr hsol hp2 (m' := m) (w' := w) (by rw [hHs]; exact Step.refl hs) hL (VRel.undef m)
          exact hK p' d' m _ w (Act.put_defers' _ _ _) I'
      · exact hK p d m _ w (Act.put_defers' _ _ _) (I.still C ho hc hr hsol ⟨rfl, rfl, rfl, Nat.le_refl _⟩ (fun _ _ => rfl) hL (VRel.undef m))
    unfold wpOp
    simp only [List.getElem?_toArray, ho, hguard, Bool.false_eq_true, if_false]
    exact hgo

end
end Go.RM
