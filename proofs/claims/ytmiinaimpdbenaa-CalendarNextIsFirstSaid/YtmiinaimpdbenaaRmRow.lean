/-
  The row of a law that answers true: its lifted form, from what the abstract machine computes.
-/
import Derived.Test.YtmiinaimpdbenaaRmEntry
import Derived.Test.YtmiinaimpdbenaaRmUng
import Derived.ChangeCalls
import Derived.JoinedCond
namespace Go.RM
open Go.ChangeShapes Go.WideShapes Go.ChangeAt Go.RowKit
set_option linter.unusedVariables false

theorem trodAll_below {T : Type} {enc : TypeId × Value → T} {P : Program} (hl : laidOutB P = true) {W W' : World} (hb : Below W.heap.size W W') : ∀ {ts : List TypeId} {vs : List Value} {ds : List (DataW T)} {ps : List MemPlace},
    (ts.all fun t => P.readableRec t && decide (t < P.types.size)) = true → DataW.TrodAll enc P W 0 (fun _ => true) true ts vs ds ps → (∀ x ∈ ps, x.block < W.heap.size) →
    DataW.TrodAll enc P W' 0 (fun b => decide (b < W.heap.size)) true ts vs ds ps
  | [], [], [], ps, _, h, _ => h
  | t :: ts, v :: vs, d :: ds, ps, hr, h, hlt => by
    obtain ⟨p, q, h1, h2, rfl⟩ := h
    simp only [List.all_cons, Bool.and_eq_true, decide_eq_true_eq] at hr
    exact ⟨p, q, Below.trod hl hr.1.1 hr.1.2 h1 hb (fun x hx => hlt x (by simp [hx])), trodAll_below hl hb hr.2 h2 (fun x hx => hlt x (by simp [hx])), rfl⟩
  | [], [], _ :: _, _, _, h, _ => h.elim
  | [], _ :: _, _, _, _, h, _ => h.elim
  | _ :: _, [], _, _, _, h, _ => h.elim
  | _ :: _, _ :: _, [], _, _, h, _ => h.elim

theorem Bd.all {T : Type} : Bd (T := T) (fun _ => True) (fun _ => True) := ⟨trivial, fun _ => trivial, fun _ _ => trivial, fun _ _ => trivial, fun _ => trivial⟩

theorem lifted {C : Checked} {os : Os} {f : FuncId} {fn : Func} {s : ChangeSpec} {T : Type} {enc : TypeId × Value → T}
    (own : ownKnob C.prog.godebug = none) (started : os.Started) (noInit : C.prog.inits.idxOf? f = none) (hfn : C.prog.funcs[f]? = some fn)
    (witness : ∃ (w : World) (tape : Tape) (i : Input), w.os = os ∧ (w.forCall tape i).Shaped C.prog ∧ i.vars = [] ∧ Input.okWide C.prog (w.forCall tape i) .any w.heap.size f i ∧
      s.pre6 enc C.prog fn [] false (w.forCall tape i).memory i.args ∧ ({} : Assume).holds C.prog (lone (Frame.enter C.prog f i.args .normal) [] (w.forCall tape i)))
    (hl : laidOutB C.prog = true) (hr : (fn.params.toList.all fun t => C.prog.readableRec t && decide (t < C.prog.types.size)) = true) {tb : TypeId} (hres : fn.resultTypes.toList = [tb]) (htb : C.prog.underlying tb = some .bool)
    (hvars : s.vars = []) (hs : ∀ ds : List (DataW T), ds.length = fn.params.toList.length → (s.fn T ds).results = [.lit (.bool true)] ∧ (s.fn T ds).args = ds ∧ (s.fn T ds).vars = [])
    {tcs : List TC} (hk : tcsOk C.prog fn.params.toList tcs = true) (hcore : ∀ (H : Heap) (avs : List AV), WFvs (fun _ => True) H tcs avs → ∃ n H', rcall (tableU C.prog) n H.length f avs H = some (.bool true, H')) :
    ReturnsInHanded {} C os f .any (s.pre6 enc C.prog fn [] false) (s.post enc C.prog fn false true false false) := by
  refine returnsInHanded_of_change (C := C) own started noInit hfn witness ?_
  intro W base args ds gs before hval hW _ _
  have hW' := hW
  obtain ⟨p, q, hA, hV, rfl, hfz, hnd⟩ := hW
  rw [hvars] at hV
  obtain ⟨rfl, rfl⟩ := trodVars_none hV
  have hlen := (Go.trodAll_length hA).2
  obtain ⟨s1, s2, s3⟩ := hs ds hlen
  have hcore' : ∀ (H : Heap) (avs : List AV), WFvs (fun _ => True) H tcs avs → ∃ n H', rcall (table C.prog) n H.length f avs H = some (.bool true, H') := fun H avs h => by
    obtain ⟨n, H', h'⟩ := hcore H avs h
    obtain ⟨HA', h2⟩ := ung_sound (Nat.le_refl _) h'
    exact ⟨n, HA', h2⟩
  have hcalls := calls_true C.mixed hcore' (Bd.all (T := T)) (fun _ _ => trivial) hk hA (fun j t v ht hv => hval j t v (by simpa using ht) (by simpa using hv))
  refine Calls.mono hcalls fun e W' ⟨he, hb⟩ => ?_
  subst he
  have hsz : fn.resultTypes.size = 1 := by rw [← Array.length_toList, hres]; rfl
  refine ⟨_, rfl, ds, [], p ++ [], [], p, [], hW', ?_, ?_, ?_, hb.frame _, fun h => by cases h⟩
  · rw [List.append_nil, s1, hres, hsz]
    exact trodAll_mk1 (shut_bool htb _)
  · rw [List.append_nil, s2]
    exact trodAll_below hl hb hr hA fun x hx => hW'.lt x (by simp [hx])
  · rw [List.append_nil, s3, hvars]; rfl

/-- The same where the input is small. -/
theorem liftedU {C : Checked} {os : Os} {f : FuncId} {fn : Func} {s : ChangeSpec} {k : (H : Type) → List (DataW H) → Bool} {T : Type} {enc : TypeId × Value → T} {F : Stop.Interp}
    (own : ownKnob C.prog.godebug = none) (started : os.Started) (noInit : C.prog.inits.idxOf? f = none) (hfn : C.prog.funcs[f]? = some fn)
    (witness : ∃ (w : World) (tape : Tape) (i : Input), w.os = os ∧ (w.forCall tape i).Shaped C.prog ∧ i.vars = [] ∧ Input.okWide C.prog (w.forCall tape i) .any w.heap.size f i ∧
      ({ OpenSpec.ofChange s with cond := some k } : OpenSpec).pre6 enc C.prog fn [] false (w.forCall tape i).memory i.args ∧ ({} : Assume).holds C.prog (lone (Frame.enter C.prog f i.args .normal) [] (w.forCall tape i)))
    (hl : laidOutB C.prog = true) (hr : (fn.params.toList.all fun t => C.prog.readableRec t && decide (t < C.prog.types.size)) = true) {tb : TypeId} (hres : fn.resultTypes.toList = [tb]) (htb : C.prog.underlying tb = some .bool)
    (hvars : s.vars = []) (hs : ∀ ds : List (DataW T), ds.length = fn.params.toList.length → (s.fn T ds).results = [.lit (.bool true)] ∧ (s.fn T ds).args = ds ∧ (s.fn T ds).vars = [])
    {Pn : Nat → Prop} {B : DataW T → Prop} (hB : Bd Pn B) (hbs : ∀ ds : List (DataW T), k T ds = true → ∀ d ∈ ds, B d)
    {tcs : List TC} (hk : tcsOk C.prog fn.params.toList tcs = true) (hcore : ∀ (H : Heap) (avs : List AV), WFvs Pn H tcs avs → ∃ n H', rcall (tableU C.prog) n H.length f avs H = some (.bool true, H')) :
    ReturnsInHanded {} C os f .any (({ OpenSpec.ofChange s with cond := some k } : OpenSpec).pre6 enc C.prog fn [] false) ((({ OpenSpec.ofChange s with cond := some k } : OpenSpec).at F).post enc C.prog fn false true false false) := by
  refine returnsInHanded_of_cond (C := C) (s := { OpenSpec.ofChange s with cond := some k }) (k := k) rfl own started noInit hfn witness ?_
  intro W base args ds gs before hval hW _ hkk _
  have hW' := hW
  obtain ⟨p, q, hA, hV, rfl, hfz, hnd⟩ := hW
  have hV : DataW.TrodVars enc C.prog W (fun _ => true) s.vars gs q := hV
  rw [hvars] at hV
  obtain ⟨rfl, rfl⟩ := trodVars_none hV
  have hlen := (Go.trodAll_length hA).2
  obtain ⟨s1, s2, s3⟩ := hs ds hlen
  have hcore' : ∀ (H : Heap) (avs : List AV), WFvs Pn H tcs avs → ∃ n H', rcall (table C.prog) n H.length f avs H = some (.bool true, H') := fun H avs h => by
    obtain ⟨n, H', h'⟩ := hcore H avs h
    obtain ⟨HA', h2⟩ := ung_sound (Nat.le_refl _) h'
    exact ⟨n, HA', h2⟩
  rw [List.append_nil] at hkk
  have hcalls := calls_true C.mixed hcore' hB (hbs ds hkk) hk hA (fun j t v ht hv => hval j t v (by simpa using ht) (by simpa using hv))
  refine Calls.mono hcalls fun e W' ⟨he, hb⟩ => ?_
  subst he
  have hsz : fn.resultTypes.size = 1 := by rw [← Array.length_toList, hres]; rfl
  refine ⟨_, rfl, ds, [], p ++ [], [], p, [], hW', ?_, ?_, ?_, hb.frame _, fun h => by cases h⟩
  · show DataW.TrodAll enc C.prog W' _ _ _ fn.resultTypes.toList _ (s.fn T (ds ++ [])).results _
    rw [List.append_nil, s1, hres, hsz]
    exact trodAll_mk1 (shut_bool htb _)
  · show DataW.TrodAll enc C.prog W' _ _ _ fn.params.toList _ (s.fn T (ds ++ [])).args _
    rw [List.append_nil, s2]
    exact trodAll_below hl hb hr hA fun x hx => hW'.lt x (by simp [hx])
  · show DataW.TrodVars enc C.prog W' _ s.vars (s.fn T (ds ++ [])).vars _
    rw [List.append_nil, s3, hvars]; rfl

end Go.RM
