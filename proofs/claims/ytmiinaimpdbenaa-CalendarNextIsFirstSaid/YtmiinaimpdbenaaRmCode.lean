/-
  Code and calls: what the abstract machine computes, the model computes.
-/
import Derived.Test.YtmiinaimpdbenaaRmRegion8
import Derived.LoopN
import Derived.Laws.Sem
namespace Go.RM
set_option linter.unusedSimpArgs false
set_option linter.unusedVariables false

def exitOf : Out → Exit
  | .normal => .normal
  | .exit id => .exit id
  | .ret => .ret

def Post (vars : List Nat) (nt fl n0 base : Nat) (m : BMap) (H : Heap) (w : World) (ds : List Deferred) (o : Out) (E' : List AV) (H' : Heap) : Exit → Act → World → Prop := fun e a' w' =>
  e = exitOf o ∧ a'.defers = ds ∧ ∃ m', EnvOk vars nt E' m' a' ∧ Step n0 base fl m H w m' H' w'

theorem Post.after {vars : List Nat} {nt fl n0 base : Nat} {m m1 : BMap} {H H1 : Heap} {w w1 : World} {ds : List Deferred} {o : Out} {E' : List AV} {H' : Heap} (s : Step n0 base fl m H w m1 H1 w1) {e : Exit} {a : Act} {w' : World}
    (h : Post vars nt fl n0 base m1 H1 w1 ds o E' H' e a w') : Post vars nt fl n0 base m H w ds o E' H' e a w' :=
  let ⟨h1, h2, m', h3, h4⟩ := h; ⟨h1, h2, m', h3, s.trans h4⟩

theorem rounds_mono {P : Program} {c : Code} {Q Q' : Exit → Act → World → Prop} (h : ∀ e a w, Q e a w → Q' e a w) : ∀ (r : Nat) (a : Act) (w : World), Code.rounds P c Q r a w → Code.rounds P c Q' r a w
  | 0, _, _, hr => hr
  | r + 1, a, w, hr => by
    rw [rounds_succ] at hr ⊢
    refine wp_mono hr fun e a w hq => ?_
    cases e <;> simp only [Exit.then] at hq ⊢ <;> first | exact rounds_mono h r _ _ hq | exact h _ _ _ hq

theorem Step.fresh {n0 base fl : Nat} {m m1 : BMap} {H H1 : Heap} {w w1 : World} (s : Step n0 base fl m H w m1 H1 w1) {n : Nat} (hf : ∀ b, H.length ≤ b → b < n → m b = none) : ∀ b, H1.length ≤ b → b < n → m1 b = none := fun b h1 h2 => by
  cases hm : m1 b with
  | none => rfl
  | some l => have := s.new b l hm (hf b (Nat.le_trans s.len h1) h2); omega

theorem EnvOk.mono {vars : List Nat} {nt : Nat} {E : List AV} {m m' : BMap} {a : Act} (h : EnvOk vars nt E m a) (he : Ext m m') : EnvOk vars nt E m' a := ⟨h.size, h.len, fun y t hy => (h.rel y t hy).mono he⟩

def CodeSound (P : Program) (n : Nat) : Prop := ∀ (c : Code) (vars : List Nat) (nt fl : Nat) (E : List AV) (H : Heap) (o : Out) (E' : List AV) (H' : Heap), nodupB vars = true → rexec (table P) n fl (compileCode P vars nt c) E H = some (o, E', H') →
  ∀ (n0 base : Nat) (m : BMap) (w : World) (a : Act), n0 ≤ fl → Sim n0 base m H w → EnvOk vars nt E m a → (∀ b, H.length ≤ b → b < H'.length → m b = none) → c.wp P (Post vars nt fl n0 base m H w a.defers o E' H') a w

def LoopSound (P : Program) (n : Nat) : Prop := ∀ (c : Code) (vars : List Nat) (nt fl : Nat) (E : List AV) (H : Heap) (o : Out) (E' : List AV) (H' : Heap), nodupB vars = true → rexec (table P) n fl (.loop (compileCode P vars nt c)) E H = some (o, E', H') →
  ∃ r, ∀ (n0 base : Nat) (m : BMap) (w : World) (a : Act), n0 ≤ fl → Sim n0 base m H w → EnvOk vars nt E m a → (∀ b, H.length ≤ b → b < H'.length → m b = none) → Code.rounds P c (Post vars nt fl n0 base m H w a.defers o E' H') r a w

theorem cond_eval {vars : List Nat} {nt : Nat} {E : List AV} {m : BMap} {a : Act} (hE : EnvOk vars nt E m a) {c : Operand} {x : RX} (h : resAt vars false [] [] 0 c = some x) {b : Bool} (hx : x.ev [] E = .bool b) : a.eval c = .bool b := by
  cases c with
  | tmp t =>
    simp only [resAt, writer, Option.map_eq_some_iff] at h
    obtain ⟨y, hy, rfl⟩ := h
    have := hE.rel y t (idx_some hy)
    simp only [RX.ev] at hx
    rw [hx] at this
    exact this
  | const v =>
    simp only [resAt, Option.map_eq_some_iff] at h
    obtain ⟨v', hv, rfl⟩ := h
    simp only [RX.ev] at hx
    subst hx
    exact ofConst_rel m hv
  | func f => simp only [resAt, Option.some.injEq] at h; subst h; simp [RX.ev] at hx
  | global g => simp [resAt] at h

theorem loop_step {P : Program} {n : Nat} (hc : CodeSound P n) (hl : LoopSound P n) : LoopSound P (n + 1) := by
  intro c vars nt fl E H o E' H' hnd h
  simp only [rexec] at h
  split at h
  · rename_i E1 H1 h1
    obtain ⟨r, hr⟩ := hl c vars nt fl E1 H1 o E' H' hnd h
    have f1 := rexec_facts _ _ _ _ _ _ _ _ _ h1
    have f2 := rexec_facts _ _ _ _ _ _ _ _ _ h
    refine ⟨r + 1, fun n0 base m w a hfl hs hE hf => ?_⟩
    rw [rounds_succ]
    refine wp_mono (hc c vars nt fl E H _ E1 H1 hnd h1 n0 base m w a hfl hs hE fun b g1 g2 => hf b g1 (Nat.lt_of_lt_of_le g2 f2.len)) fun e a1 w1 hp => ?_
    obtain ⟨rfl, hd, m1, hE1, hst⟩ := hp
    have := hr n0 base m1 w1 a1 hfl hst.sim hE1 (hst.fresh hf)
    rw [hd] at this
    exact rounds_mono (fun e a w h => h.after hst) r a1 w1 this
  · rename_i hne
    refine ⟨1, fun n0 base m w a hfl hs hE hf => ?_⟩
    rw [rounds_succ]
    refine wp_mono (hc c vars nt fl E H o E' H' hnd h n0 base m w a hfl hs hE hf) fun e a1 w1 hp => ?_
    have he := hp.1
    cases o with
    | normal => exact absurd h (by intro h; exact hne _ _ h)
    | exit id => rw [he] at hp ⊢; exact hp
    | ret => rw [he] at hp ⊢; exact hp

theorem code_step {P : Program} (hmix : P.follows .mixedOrders = true) {n : Nat} (hc : CodeSound P n) (hl : LoopSound P (n + 1)) (hcall : CallSound P (rcall (table P) n)) : CodeSound P (n + 1) := by
  intro c vars nt fl E H o E' H' hnd h n0 base m w a hfl hs hE hf
  cases c <;> simp only [compileCode] at h
  case skip =>
    simp only [rexec, Option.some.injEq, Prod.mk.injEq] at h
    obtain ⟨rfl, rfl, rfl⟩ := h
    exact wp_skip ⟨rfl, rfl, m, hE, Step.refl hs⟩
  case region id ops draw =>
    cases hcr : compileRegion P vars nt draw ops.toList with
    | ops l =>
      rw [hcr] at h
      simp only [rexec, Option.map_eq_some_iff, Prod.mk.injEq] at h
      obtain ⟨⟨L, H1⟩, hr, rfl, rfl, rfl⟩ := h
      exact region_sound hmix (rcall_facts _ n) hcall hnd hcr hr hfl hs hE hf
    | _ =>
      exfalso
      unfold compileRegion at hcr
      split at hcr
      · split at hcr <;> first | (simp at hcr; done) | (rw [← hcr] at *; simp_all [rexec, compileRegion])
      · simp_all [rexec, compileRegion]
  case seq x y =>
    simp only [rexec] at h
    split at h
    · rename_i E1 H1 h1
      have f2 := rexec_facts _ _ _ _ _ _ _ _ _ h
      refine wp_seq (wp_mono (hc x vars nt fl E H _ E1 H1 hnd h1 n0 base m w a hfl hs hE fun b g1 g2 => hf b g1 (Nat.lt_of_lt_of_le g2 f2.len)) fun e a1 w1 hp => ?_)
      obtain ⟨rfl, hd, m1, hE1, hst⟩ := hp
      have := hc y vars nt fl E1 H1 o E' H' hnd h n0 base m1 w1 a1 hfl hst.sim hE1 (hst.fresh hf)
      rw [hd] at this
      exact wp_mono this fun e a w h => h.after hst
    · rename_i hne
      refine wp_seq (wp_mono (hc x vars nt fl E H o E' H' hnd h n0 base m w a hfl hs hE hf) fun e a1 w1 hp => ?_)
      have he := hp.1
      cases o with
      | normal => exact absurd h (by intro h; exact hne _ _ h)
      | exit id => rw [he] at hp ⊢; exact hp
      | ret => rw [he] at hp ⊢; exact hp
  case cond cc x y =>
    split at h
    · rename_i rx hrx
      simp only [rexec] at h
      split at h
      · rename_i hx
        exact wp_cond_true (cond_eval hE hrx hx) (hc x vars nt fl E H o E' H' hnd h n0 base m w a hfl hs hE hf)
      · rename_i hx
        exact wp_cond_false (cond_eval hE hrx hx) (hc y vars nt fl E H o E' H' hnd h n0 base m w a hfl hs hE hf)
      · simp at h
    · simp [rexec] at h
  case block id c =>
    simp only [rexec] at h
    split at h
    · rename_i id' E1 H1 h1
      have key : ∀ e a1 w1, Post vars nt fl n0 base m H w a.defers (.exit id') E1 H1 e a1 w1 → Exit.inBlock id (Post vars nt fl n0 base m H w a.defers o E' H') e a1 w1 := fun e a1 w1 hp => by
        obtain ⟨rfl, hd, hrest⟩ := hp
        simp only [exitOf, Exit.inBlock]
        split at h
        · rename_i heq
          simp only [Option.some.injEq, Prod.mk.injEq] at h
          obtain ⟨rfl, rfl, rfl⟩ := h
          rw [if_pos heq]
          exact ⟨rfl, hd, hrest⟩
        · rename_i heq
          simp only [Option.some.injEq, Prod.mk.injEq] at h
          obtain ⟨rfl, rfl, rfl⟩ := h
          rw [if_neg heq]
          exact ⟨rfl, hd, hrest⟩
      have hlen : H1 = H' := by
        split at h <;> · simp only [Option.some.injEq, Prod.mk.injEq] at h; exact h.2.2
      exact wp_block (wp_mono (hc c vars nt fl E H _ E1 H1 hnd h1 n0 base m w a hfl hs hE (by rw [hlen]; exact hf)) key)
    · rename_i hne
      refine wp_block (wp_mono (hc c vars nt fl E H o E' H' hnd h n0 base m w a hfl hs hE hf) fun e a1 w1 hp => ?_)
      have he := hp.1
      cases o with
      | exit id' => exact absurd h (by intro h; exact hne _ _ _ h)
      | normal => rw [he] at hp ⊢; exact hp
      | ret => rw [he] at hp ⊢; exact hp
  case loop c =>
    obtain ⟨r, hr⟩ := hl c vars nt fl E H o E' H' hnd h
    exact wp_loop_rounds r (hr n0 base m w a hfl hs hE hf)
  case exit id =>
    simp only [rexec, Option.some.injEq, Prod.mk.injEq] at h
    obtain ⟨rfl, rfl, rfl⟩ := h
    exact wp_exit ⟨rfl, rfl, m, hE, Step.refl hs⟩
  case ret =>
    simp only [rexec, Option.some.injEq, Prod.mk.injEq] at h
    obtain ⟨rfl, rfl, rfl⟩ := h
    exact wp_ret ⟨rfl, rfl, m, hE, Step.refl hs⟩
  all_goals (simp [rexec] at h)

/-! ### Calls -/

theorem res_run {P : Program} {vars : List Nat} {nt : Nat} {E : List AV} {m : BMap} {a : Act} {H : Heap} {w : World} {n0 base : Nat} (hs : Sim n0 base m H w) (hE : EnvOk vars nt E m a) :
    ∀ {rl : List ResultVar} {rs : List RRes} {vs : List AV}, compileResL P vars rl = some rs → resAll E H rs = some vs →
      ∃ cvs, (rl.mapM (fun (r : ResultVar) => (match r with | .tmp t => pure (a.tmps.getD t undef) | .cell x t => do loadVar t (← asAddr (a.tmps.getD x undef)) : Sem Value))).run P w = .ok cvs w ∧ VRels m vs cvs
  | [], rs, vs, hc, hr => by
    simp only [compileResL, Option.some.injEq] at hc; subst hc
    simp only [resAll, Option.some.injEq] at hr; subst hr
    exact ⟨[], rfl, trivial⟩
  | r :: rl, rs, vs, hc, hr => by
    simp only [compileResL] at hc
    split at hc
    · rename_i x l h1 h2
      simp only [Option.some.injEq] at hc; subst hc
      simp only [resAll] at hr
      split at hr
      · rename_i v hv
        simp only [Option.map_eq_some_iff] at hr
        obtain ⟨vs', hvs, rfl⟩ := hr
        obtain ⟨cvs, e1, e2⟩ := res_run hs hE h2 hvs
        have hone : ∃ cv, ((match r with | .tmp t => pure (a.tmps.getD t undef) | .cell x t => do loadVar t (← asAddr (a.tmps.getD x undef)) : Sem Value)).run P w = .ok cv w ∧ VRel m v cv := by
          cases r with
          | tmp t =>
            simp only [compileRes, Option.map_eq_some_iff] at h1
            obtain ⟨y, hy, rfl⟩ := h1
            simp only [resOf, Option.some.injEq] at hv; subst hv
            exact ⟨_, rfl, hE.rel y t (idx_some hy)⟩
          | cell t ty =>
            simp only [compileRes] at h1
            split at h1
            · rename_i y sz hy hsz
              simp only [Option.some.injEq] at h1; subst h1
              simp only [resOf] at hv
              split at hv
              · rename_i b off hb
                have := hE.rel y t (idx_some hy)
                rw [hb] at this
                obtain ⟨lo, hm, hval⟩ := this
                obtain ⟨cv, g1, g2⟩ := run_loadVar_rel (P := P) hs hsz hv hm
                refine ⟨cv, ?_, g2⟩
                simp only [Sem.run_bind, hval, asAddr, Sem.run_pure, Result.andThen_ok]
                exact g1
              · simp at hv
            · simp at h1
        obtain ⟨cv, f1, f2⟩ := hone
        refine ⟨cv :: cvs, ?_, f2, e2⟩
        rw [List.mapM_cons, Sem.run_bind, f1]
        simp only [Result.andThen_ok, Sem.run_bind, e1, Sem.run_pure]
      · simp at hr
    · simp at hc

theorem results_run {P : Program} {fn : Func} {vars : List Nat} {nt : Nat} {E : List AV} {m : BMap} {a : Act} {H : Heap} {w : World} {n0 base : Nat} (hs : Sim n0 base m H w) (hE : EnvOk vars nt E m a) {rs : List RRes} {vs : List AV}
    (hc : compileResL P vars fn.results.toList = some rs) (hr : resAll E H rs = some vs) : ∃ v, (results fn a.tmps).run P w = .ok v w ∧ VRel m (resVal vs) v := by
  obtain ⟨cvs, h1, h2⟩ := res_run hs hE hc hr
  have hfr : fn.results = fn.results.toList.toArray := by simp
  have hlen := h2.length
  have hmap : (fn.results.mapM (fun (r : ResultVar) => (match r with | .tmp t => pure (a.tmps.getD t undef) | .cell x t => do loadVar t (← asAddr (a.tmps.getD x undef)) : Sem Value))).run P w = .ok cvs.toArray w := by
    rw [hfr, List.mapM_toArray]
    rw [map_eq_pure_bind, Sem.run_bind, h1]
    rfl
  refine ⟨if h : cvs.toArray.size = 1 then cvs.toArray[0] else .tuple cvs.toArray, ?_, ?_⟩
  · unfold results
    rw [Sem.run_bind]
    refine Eq.trans (congrArg (fun r => Result.andThen r _) hmap) ?_
    simp only [Result.andThen_ok, Sem.run_pure]
  rcases vs with _ | ⟨v, _ | ⟨v2, vs⟩⟩ <;> rcases cvs with _ | ⟨cv, _ | ⟨cv2, cvs⟩⟩ <;> simp at hlen
  · exact ⟨_, rfl, trivial⟩
  · exact h2.1
  · exact ⟨_, rfl, h2⟩

theorem call_step {P : Program} {n : Nat} (hc : CodeSound P n) : CallSound P (rcall (table P) (n + 1)) := by
  intro flx g args H v H' h
  simp only [rcall] at h
  split at h
  · simp at h
  · rename_i rf hrf
    rw [Option.ite_none_right_eq_some] at h
    obtain ⟨hlen, h⟩ := h
    unfold table at hrf
    rw [Option.bind_eq_some_iff] at hrf
    obtain ⟨fn, hfn, hcf⟩ := hrf
    unfold compileFunc at hcf
    split at hcf
    · simp at hcf
    · rename_i c hbody
      simp only at hcf
      split at hcf
      · rename_i res hres
        rw [Option.ite_none_right_eq_some] at hcf
        obtain ⟨hcond, hcf⟩ := hcf
        simp only [Option.some.injEq] at hcf
        subst hcf
        simp only [Bool.and_eq_true, bne_iff_ne, ne_eq, decide_eq_true_eq] at hcond
        obtain ⟨⟨⟨hname, hnd⟩, hlt⟩, htake⟩ := hcond
        refine ⟨⟨fn, hfn, by rw [hbody]; rfl, hname⟩, fun n0 base m w cargs hfl hs hargs hfresh => ?_⟩
        simp only at h hlen
        generalize hvars : varsOf fn c = vars at *
        generalize hna : fn.params.size + fn.nfree = na at *
        have hnal : na ≤ vars.length := by
          have := congrArg List.length htake
          simp only [List.length_take, List.length_range] at this
          omega
        have hcl : cargs.length = na := by rw [← hargs.length]; exact hlen
        -- the run
        have hrun : ∃ o E1, rexec (table P) n flx (compileCode P vars fn.ntmps c) (args ++ List.replicate (vars.length - na) .undef) H = some (o, E1, H') ∧ (o = .normal ∨ o = .ret) ∧ ∃ vs, resAll E1 H' res = some vs ∧ resVal vs = v := by
          split at h
          · rename_i E1 H1 h1
            simp only [Option.map_eq_some_iff, Prod.mk.injEq] at h
            obtain ⟨vs, g1, g2, rfl⟩ := h
            exact ⟨_, E1, h1, .inl rfl, vs, g1, g2⟩
          · rename_i E1 H1 h1
            simp only [Option.map_eq_some_iff, Prod.mk.injEq] at h
            obtain ⟨vs, g1, g2, rfl⟩ := h
            exact ⟨_, E1, h1, .inr rfl, vs, g1, g2⟩
          · simp at h
        obtain ⟨o, E1, hex, ho, vs, hvs, rfl⟩ := hrun
        have hE : EnvOk vars fn.ntmps (args ++ List.replicate (vars.length - na) .undef) m { tmps := ⟨cargs⟩ ++ Array.replicate (fn.ntmps - (⟨cargs⟩ : Array Value).size) undef, defers := [] } := by
          refine ⟨by simp; omega, by simp; omega, fun y t hy => ?_⟩
          by_cases hyn : y < na
          · have hty : t = y := by
              have h1 : (vars.take na)[y]? = some t := by rw [List.getElem?_take_of_lt hyn]; exact hy
              rw [htake, List.getElem?_range hyn] at h1
              exact (Option.some.inj h1).symm
            subst hty
            obtain ⟨cv, g1, g2⟩ := hargs.get t args[t] (List.getElem?_eq_getElem (by omega))
            rw [List.getD_eq_getElem?_getD, List.getElem?_append_left (by omega), List.getElem?_eq_getElem (by omega)]
            have hcv : (⟨cargs⟩ ++ Array.replicate (fn.ntmps - (⟨cargs⟩ : Array Value).size) undef : Array Value).getD t undef = cv := by
              rw [Array.getD_eq_getD_getElem?, Array.getElem?_append_left (by simp; omega)]
              simp [g1]
            simp only [hcv]
            exact g2
          · have hyl := (List.getElem?_eq_some_iff.1 hy).1
            have htn : na ≤ t := by
              rcases Nat.lt_or_ge t na with h | h
              · exfalso
                have h1 : (vars.take na)[t]? = some t := by rw [htake, List.getElem?_range h]
                rw [List.getElem?_take_of_lt h] at h1
                have e1 := idx_of_get hnd h1
                have e2 := idx_of_get hnd hy
                rw [e1] at e2; cases e2; omega
              · exact h
            have hE1 : (args ++ List.replicate (vars.length - na) AV.undef).getD y .undef = .undef := by
              rw [List.getD_eq_getElem?_getD, List.getElem?_append_right (by omega), List.getElem?_replicate]
              split <;> rfl
            have hE2 : (⟨cargs⟩ ++ Array.replicate (fn.ntmps - (⟨cargs⟩ : Array Value).size) undef : Array Value).getD t undef = undef := by
              rw [Array.getD_eq_getD_getElem?, Array.getElem?_append_right (by simp; omega), Array.getElem?_replicate]
              split <;> rfl
            simp only [hE1, hE2]
            exact VRel.undef m
        refine calls_of_wp hfn hbody (wp_mono (hc c vars fn.ntmps flx _ H o E1 H' hnd hex n0 base m w _ hfl hs hE hfresh) fun e a w' hp => ?_)
        obtain ⟨rfl, hd, m', hE', hst⟩ := hp
        obtain ⟨rv, r1, r2⟩ := results_run hst.sim hE' hres hvs
        rcases ho with rfl | rfl
        · exact ⟨hd, rv, r1, rv, m', rfl, r2, hst⟩
        · exact ⟨hd, rv, r1, rv, m', rfl, r2, hst⟩
      · simp at hcf

theorem sound_all {P : Program} (hmix : P.follows .mixedOrders = true) : ∀ n, CodeSound P n ∧ LoopSound P n ∧ CallSound P (rcall (table P) n)
  | 0 => ⟨fun c vars nt fl E H o E' H' _ h => by simp [rexec] at h, fun c vars nt fl E H o E' H' _ h => by simp [rexec] at h, fun flx g args H v H' h => by simp [rcall] at h⟩
  | n + 1 => by
    obtain ⟨h1, h2, h3⟩ := sound_all hmix n
    have hl := loop_step h1 h2
    exact ⟨code_step hmix h1 hl h3, hl, call_step h1⟩

/-- WHAT THE ABSTRACT MACHINE COMPUTES, A CALL COMPUTES. -/
theorem call_sound {P : Program} (hmix : P.follows .mixedOrders = true) (n : Nat) : CallSound P (rcall (table P) n) := (sound_all hmix n).2.2

end Go.RM
