/-
  Package calendar and its reference: what their functions return.
-/
import Derived.Test.YtmiinaimpdbenaaCalW
import Derived.Test.YtmiinaimpdbenaaRefC
import Derived.Test.YtmiinaimpdbenaaPlCal
namespace Go.RM
set_option linter.unusedSimpArgs false
set_option linter.unusedVariables false
set_option maxRecDepth 4000
open Cal

variable {F : Nat → Option RFunc}

def winE (w : Win) : List AV := [i64 w.1, i64 w.2.1, i64 w.2.2]
def tWin : Ty Win := tEnc 3 winE (by decide) (fun _ => rfl) (fun _ => rfl)
def spnE (s : Spn) : List AV := [i64 s.1, i64 s.2]
def tSpn : Ty Spn := tEnc 2 spnE (by decide) (fun _ => rfl) (fun _ => rfl)
theorem tSpn.plain : tSpn.Plain := fun h => h

/-- The argument that is a calendar. -/
structure CalA (H : Heap) (w h : AV) (c : Calr) : Prop where
  ws : Arr tWin H w c.ws
  hs : Ints H h c.hs
theorem CalA.keep {H H' : Heap} {w h : AV} {c : Calr} (k : Keep H.length H H') (a : CalA H w h c) : CalA H' w h c := ⟨a.ws.keep k, a.hs.keep k⟩

abbrev calV (w h : AV) : AV := .agg [w, h]

theorem Arr.win {H : Heap} {v : AV} {l : List Win} (h : Arr tWin H v l) {i : Nat} (hi : i < l.length) : getA H 3 (some 3) v (i : Int) 0 = some (.agg [i64 l[i].1, i64 l[i].2.1, i64 l[i].2.2]) := Arr.enc h hi
theorem Arr.spn {H : Heap} {v : AV} {l : List Spn} (h : Arr tSpn H v l) {i : Nat} (hi : i < l.length) : getA H 2 (some 2) v (i : Int) 0 = some (.agg [i64 l[i].1, i64 l[i].2]) := Arr.enc h hi

/-! ### Validation -/

/-- The faults of windows behind the window p (none: the first). -/
def wLoop : Nat → Option Win → List Win → Option (Int × Int)
  | _, _, [] => none
  | i, p, w :: r => if w.1 < 0 ∨ w.1 > 6 ∨ w.2.1 < 0 ∨ w.2.2 > 1440 ∨ w.2.1 ≥ w.2.2 then some (3, (i : Int)) else
    match p with
    | some v => if w.1 * 1440 + w.2.1 < v.1 * 1440 + v.2.2 then some (5, (i : Int)) else wLoop (i + 1) (some w) r
    | none => wLoop (i + 1) (some w) r
def hLoop : Nat → Option Int → List Int → Option (Int × Int)
  | _, _, [] => none
  | i, p, d :: r => if d < 0 ∨ d > 6944 then some (3, -3 - (i : Int)) else
    match p with
    | some e => if d ≤ e then some (5, -3 - (i : Int)) else hLoop (i + 1) (some d) r
    | none => hLoop (i + 1) (some d) r
theorem wLoop_nil {i : Nat} {p : Option Win} : wLoop i p [] = none := by cases p <;> rfl
theorem hLoop_nil {i : Nat} {p : Option Int} : hLoop i p [] = none := by cases p <;> rfl
theorem wLoop_cons {i : Nat} {p : Option Win} {w : Win} {r : List Win} : wLoop i p (w :: r) = if w.1 < 0 ∨ w.1 > 6 ∨ w.2.1 < 0 ∨ w.2.2 > 1440 ∨ w.2.1 ≥ w.2.2 then some (3, (i : Int)) else
    match p with
    | some v => if w.1 * 1440 + w.2.1 < v.1 * 1440 + v.2.2 then some (5, (i : Int)) else wLoop (i + 1) (some w) r
    | none => wLoop (i + 1) (some w) r := by cases p <;> rfl
theorem hLoop_cons {i : Nat} {p : Option Int} {d : Int} {r : List Int} : hLoop i p (d :: r) = if d < 0 ∨ d > 6944 then some (3, -3 - (i : Int)) else
    match p with
    | some e => if d ≤ e then some (5, -3 - (i : Int)) else hLoop (i + 1) (some d) r
    | none => hLoop (i + 1) (some d) r := by cases p <;> rfl
def calFault (c : Calr) : Int × Int :=
  if c.ws.length > 12 then (2, -1) else if c.hs.length > 12 then (2, -2) else
    match wLoop 0 none c.ws with
    | some f => f
    | none => (match hLoop 0 none c.hs with | some f => f | none => (0, 0))

/-- The element before place i. -/
def prevE {α : Type} (l : List α) (i : Nat) : Option α := if i = 0 then none else l[i - 1]?
theorem prevE_succ {α : Type} {l : List α} {i : Nat} (h : i < l.length) : prevE l (i + 1) = some l[i] := by
  unfold prevE; rw [if_neg (by omega)]; simp [h]
theorem prevE_pos {α : Type} {l : List α} {i : Nat} (h0 : 0 < i) (h : i < l.length) : prevE l i = some l[i - 1] := by
  unfold prevE; rw [if_neg (by omega), List.getElem?_eq_getElem]

abbrev BeginC (F : Nat → Option RFunc) (f : Nat) (e : Bool) : Prop := ∀ {fl H Q} {w : Win}, winOk w → (∀ H', Keep H.length H H' → Q (i64 (w.1 * 1440 + (if e then w.2.2 else w.2.1))) H') → Ret F fl f [.agg (winE w)] H Q
theorem begin_c {f : Nat} (hF : F f = some rf_calendar_begin) : BeginC F f false := fun {fl H Q w} hw hq => by
  refine v_calendar_begin hF _ _ _ ?_
  intro H3 d3
  unfold winOk at hw
  have e1 : IntKind.wrap .i64 (w.1 * 1440) = w.1 * 1440 := by rw [wrap64 (by omega) (by omega)]
  rw [e1, wrap64 (by omega) (by omega)]
  exact hq H3 d3.keep
theorem end_c {f : Nat} (hF : F f = some rf_calendar_end) : BeginC F f true := fun {fl H Q w} hw hq => by
  refine v_calendar_end hF _ _ _ ?_
  intro H3 d3
  unfold winOk at hw
  have e1 : IntKind.wrap .i64 (w.1 * 1440) = w.1 * 1440 := by rw [wrap64 (by omega) (by omega)]
  rw [e1, wrap64 (by omega) (by omega)]
  exact hq H3 d3.keep

abbrev fp2 (p : Int × Int) : AV := flt p.1 p.2

abbrev CalFaultC (F : Nat → Option RFunc) (f : Nat) : Prop := ∀ {fl H Q w h} {c : Calr}, CalA H w h c → (∀ H', Keep H.length H H' → Q (fp2 (calFault c)) H') → Ret F fl f [calV w h] H Q

theorem calValidate_c {f n1 n2 : Nat} (hF : F f = some (rf_calendar_Validate n1 n2)) (h1 : BeginC F n1 false) (h2 : BeginC F n2 true) : CalFaultC F f := fun {fl H Q w h c} hc hq => by
  refine v_calendar_Validate hF _ _ ?_
  intro H2 d2 H3 d3
  have k3 := d2.keep.call d3.keep
  unfold calFault at hq
  have hws := hc.ws.small
  have hhs := hc.hs.small
  refine ⟨_, (hc.ws.keep k3).len, fun hl => ?_, fun hl => ⟨_, (hc.hs.keep k3).len, fun hl2 => ?_, fun hl2 => ⟨_, (hc.ws.keep k3).len, ?_⟩⟩⟩
  · rw [if_pos (by omega)] at hq; exact hq H3 k3
  · rw [if_neg (by omega), if_pos (by omega)] at hq; exact hq H3 k3
  rw [if_neg (by omega), if_neg (by omega)] at hq
  refine ⟨fun m a b v H' => ∃ i : Nat, v = i ∧ i + m = c.ws.length ∧ a = 0 ∧ b = 0 ∧ Keep H.length H H' ∧ wLoop 0 none c.ws = wLoop i (prevE c.ws i) (c.ws.drop i) ∧ (∀ x ∈ c.ws.take i, winOk x), c.ws.length, ⟨0, rfl, by omega, rfl, rfl, k3, rfl, by simp⟩, ?_⟩
  rintro m _ _ _ H' ⟨i, rfl, hm, rfl, rfl, hk, hi, hok⟩
  refine ⟨fun hlt => ?_, fun hge => ?_⟩
  · have hil : i < c.ws.length := by omega
    rw [List.drop_eq_getElem_cons hil, wLoop_cons] at hi
    refine ⟨_, _, _, (hc.ws.keep hk).win hil, fun H23 d23 => ?_⟩
    have k23 := hk.call d23.keep
    refine ⟨fun hbad => ?_, fun hgood => ?_⟩
    · rw [if_pos (by omega)] at hi
      rw [hi] at hq; exact hq H23 k23
    · rw [if_neg (by omega)] at hi
      have hw : winOk c.ws[i] := by unfold winOk; omega
      have hokn : ∀ x ∈ c.ws.take (i + 1), winOk x := by
        intro x hx
        rw [List.take_succ_eq_append_getElem hil, List.mem_append, List.mem_singleton] at hx
        rcases hx with hx | rfl
        · exact hok x hx
        · exact hw
      refine ⟨fun hpos => ?_, fun hz => ?_⟩
      · have hi0 : 0 < i := by omega
        rw [prevE_pos hi0 hil] at hi
        have hpv : winOk c.ws[i - 1] := hok _ (by rw [List.mem_take_iff_getElem]; exact ⟨i - 1, by omega, rfl⟩)
        refine h1 hw fun H25 k25 => ⟨_, rfl, ?_⟩
        rw [wpred hi0 (by omega)]
        refine ⟨_, _, _, (hc.ws.keep (k23.call k25)).win (by omega), h2 hpv fun H32 k32 => ⟨_, rfl, fun hlt' => ?_, fun hge' => ?_⟩⟩
        · simp only [if_true, if_false, Bool.false_eq_true] at hlt'
          simp only at hi
          rw [if_pos hlt'] at hi
          rw [hi] at hq; exact hq H32 ((k23.call k25).call k32)
        · simp only [if_true, if_false, Bool.false_eq_true] at hge'
          simp only at hi
          rw [if_neg hge'] at hi
          exact ⟨m - 1, by omega, i + 1, wsucc hil hws, by omega, rfl, rfl, (k23.call k25).call k32, by rw [hi, prevE_succ hil], hokn⟩
      · obtain rfl : i = 0 := by omega
        exact ⟨m - 1, by omega, 1, wsucc hil hws, by omega, rfl, rfl, k23, by rw [hi]; exact (by rw [prevE_succ hil]; rfl), hokn⟩
  · rw [List.drop_eq_nil_of_le (by omega), wLoop_nil] at hi
    rw [hi] at hq
    refine ⟨_, (hc.hs.keep hk).len, ?_⟩
    refine ⟨fun m a b v => ∃ j : Nat, v = j ∧ j + m = c.hs.length ∧ a = 0 ∧ b = 0 ∧ hLoop 0 none c.hs = hLoop j (prevE c.hs j) (c.hs.drop j), c.hs.length, ⟨0, rfl, by omega, rfl, rfl, rfl⟩, ?_⟩
    rintro m _ _ _ ⟨j, rfl, hm, rfl, rfl, hj⟩
    refine ⟨fun hlt => ?_, fun hge => ?_⟩
    · have hjl : j < c.hs.length := by omega
      rw [List.drop_eq_getElem_cons hjl, hLoop_cons] at hj
      have ew : IntKind.wrap .i64 (-3 - (j : Int)) = -3 - (j : Int) := by rw [wrap64 (by omega) (by omega)]
      rw [ew]
      refine ⟨_, (hc.hs.keep hk).int hjl, fun hbad => ?_, fun hgood => ⟨fun hpos => ?_, fun hz => ?_⟩⟩
      · rw [if_pos hbad] at hj
        rw [hj] at hq; exact hq H' hk
      · rw [if_neg hgood] at hj
        have hj0 : 0 < j := by omega
        rw [prevE_pos hj0 hjl] at hj
        rw [wpred hj0 (by omega)]
        refine ⟨_, (hc.hs.keep hk).int (by omega), fun hle => ?_, fun hgt => ?_⟩
        · simp only at hj
          rw [if_pos hle] at hj
          rw [hj] at hq; exact hq H' hk
        · simp only at hj
          rw [if_neg hgt] at hj
          exact ⟨m - 1, by omega, j + 1, wsucc hjl hhs, by omega, rfl, rfl, by rw [hj, prevE_succ hjl]⟩
      · rw [if_neg hgood] at hj
        obtain rfl : j = 0 := by omega
        exact ⟨m - 1, by omega, 1, wsucc hjl hhs, by omega, rfl, rfl, by rw [hj]; exact (by rw [prevE_succ hjl]; rfl)⟩
    · rw [List.drop_eq_nil_of_le (by omega), hLoop_nil] at hj
      rw [hj] at hq; exact hq H' hk

/-- The reference compares day and time apart. -/
theorem sep_iff {w v : Win} (hw : winOk w) (hv : winOk v) : (w.1 < v.1 ∨ (w.1 = v.1 ∧ w.2.1 < v.2.2)) ↔ w.1 * 1440 + w.2.1 < v.1 * 1440 + v.2.2 := by
  unfold winOk at hw hv; omega

theorem fCalFault_c {f n1 : Nat} (hF : F f = some (rf_FCalendarFault n1)) (h1 : FFaultC F n1) : CalFaultC F f := fun {fl H Q w h c} hc hq => by
  refine v_FCalendarFault hF _ _ ?_
  intro H2 d2 H3 d3
  have k3 := d2.keep.call d3.keep
  unfold calFault at hq
  have hws := hc.ws.small
  have hhs := hc.hs.small
  refine ⟨_, (hc.ws.keep k3).len, fun hl => h1 fun H7 k7 => ⟨_, _, rfl, ?_⟩, fun hl => ⟨_, (hc.hs.keep k3).len, fun hl2 => h1 fun H7 k7 => ⟨_, _, rfl, ?_⟩, fun hl2 => ?_⟩⟩
  · rw [if_pos (by omega)] at hq; exact hq H7 (k3.call k7)
  · rw [if_neg (by omega), if_pos (by omega)] at hq; exact hq H7 (k3.call k7)
  rw [if_neg (by omega), if_neg (by omega)] at hq
  refine ⟨fun m a b v H' => ∃ i : Nat, v = i ∧ i + m = c.ws.length ∧ a = 0 ∧ b = 0 ∧ Keep H.length H H' ∧ wLoop 0 none c.ws = wLoop i (prevE c.ws i) (c.ws.drop i) ∧ (∀ x ∈ c.ws.take i, winOk x), c.ws.length, ⟨0, rfl, by omega, rfl, rfl, k3, rfl, by simp⟩, ?_⟩
  rintro m _ _ _ H' ⟨i, rfl, hm, rfl, rfl, hk, hi, hok⟩
  refine ⟨_, (hc.ws.keep hk).len, fun hlt => ?_, fun hge => ?_⟩
  · have hil : i < c.ws.length := by omega
    rw [List.drop_eq_getElem_cons hil, wLoop_cons] at hi
    refine ⟨_, _, _, (hc.ws.keep hk).win hil, fun H23 d23 => ?_⟩
    have k23 := hk.call d23.keep
    refine ⟨fun hbad => h1 fun H7 k7 => ⟨_, _, rfl, ?_⟩, fun hgood => ?_⟩
    · rw [if_pos (by omega)] at hi
      rw [hi] at hq; exact hq H7 (k23.call k7)
    · rw [if_neg (by omega)] at hi
      have hw : winOk c.ws[i] := by unfold winOk; omega
      have hokn : ∀ x ∈ c.ws.take (i + 1), winOk x := by
        intro x hx
        rw [List.take_succ_eq_append_getElem hil, List.mem_append, List.mem_singleton] at hx
        rcases hx with hx | rfl
        · exact hok x hx
        · exact hw
      refine ⟨fun hpos => ?_, fun hz => ?_⟩
      · have hi0 : 0 < i := by omega
        rw [prevE_pos hi0 hil] at hi
        have hpv : winOk c.ws[i - 1] := hok _ (by rw [List.mem_take_iff_getElem]; exact ⟨i - 1, by omega, rfl⟩)
        rw [wpred hi0 (by omega)]
        refine ⟨_, _, _, (hc.ws.keep k23).win (by omega), fun H41 d41 => ⟨fun hlt' => h1 fun H7 k7 => ⟨_, _, rfl, ?_⟩, fun hge' => ?_⟩⟩
        · simp only at hi
          rw [if_pos ((sep_iff hw hpv).1 hlt')] at hi
          rw [hi] at hq; exact hq H7 ((k23.call d41.keep).call k7)
        · simp only at hi
          rw [if_neg fun h => hge' ((sep_iff hw hpv).2 h)] at hi
          exact ⟨m - 1, by omega, i + 1, wsucc hil hws, by omega, rfl, rfl, k23.call d41.keep, by rw [hi, prevE_succ hil], hokn⟩
      · obtain rfl : i = 0 := by omega
        exact ⟨m - 1, by omega, 1, wsucc hil hws, by omega, rfl, rfl, k23, by rw [hi]; exact (by rw [prevE_succ hil]; rfl), hokn⟩
  · rw [List.drop_eq_nil_of_le (by omega), wLoop_nil] at hi
    rw [hi] at hq
    refine ⟨fun m a b v H2 => ∃ j : Nat, v = j ∧ j + m = c.hs.length ∧ a = 0 ∧ b = 0 ∧ Keep H.length H H2 ∧ hLoop 0 none c.hs = hLoop j (prevE c.hs j) (c.hs.drop j), c.hs.length, ⟨0, rfl, by omega, rfl, rfl, hk, rfl⟩, ?_⟩
    rintro m _ _ _ H2 ⟨j, rfl, hm, rfl, rfl, hk2, hj⟩
    refine ⟨_, (hc.hs.keep hk2).len, fun hlt => ?_, fun hge => ?_⟩
    · have hjl : j < c.hs.length := by omega
      rw [List.drop_eq_getElem_cons hjl, hLoop_cons] at hj
      have ew : IntKind.wrap .i64 (-3 - (j : Int)) = -3 - (j : Int) := by rw [wrap64 (by omega) (by omega)]
      rw [ew]
      have hg := (hc.hs.keep hk2).int hjl
      refine ⟨_, hg, fun hb => h1 fun H7 k7 => ⟨_, _, rfl, ?_⟩, fun hb => ⟨_, hg, fun hb2 => h1 fun H7 k7 => ⟨_, _, rfl, ?_⟩, fun hb2 => ⟨fun hpos => ?_, fun hz => ?_⟩⟩⟩
      · rw [if_pos (.inl hb)] at hj
        rw [hj] at hq; exact hq H7 (hk2.call k7)
      · rw [if_pos (.inr hb2)] at hj
        rw [hj] at hq; exact hq H7 (hk2.call k7)
      · rw [if_neg (by omega)] at hj
        have hj0 : 0 < j := by omega
        rw [prevE_pos hj0 hjl] at hj
        rw [wpred hj0 (by omega)]
        refine ⟨_, hg, _, (hc.hs.keep hk2).int (by omega), fun hle => h1 fun H7 k7 => ⟨_, _, rfl, ?_⟩, fun hgt => ?_⟩
        · simp only at hj
          rw [if_pos hle] at hj
          rw [hj] at hq; exact hq H7 (hk2.call k7)
        · simp only at hj
          rw [if_neg hgt] at hj
          exact ⟨m - 1, by omega, j + 1, wsucc hjl hhs, by omega, rfl, rfl, hk2, by rw [hj, prevE_succ hjl]⟩
      · rw [if_neg (by omega)] at hj
        obtain rfl : j = 0 := by omega
        exact ⟨m - 1, by omega, 1, wsucc hjl hhs, by omega, rfl, rfl, hk2, by rw [hj]; exact (by rw [prevE_succ hjl]; rfl)⟩
    · rw [List.drop_eq_nil_of_le (by omega), hLoop_nil] at hj
      refine h1 fun H7 k7 => ⟨_, _, rfl, ?_⟩
      rw [hj] at hq; exact hq H7 (hk2.call k7)

/-! ### A valid calendar -/

theorem wLoop_ok : ∀ {l : List Win} {i : Nat} {p : Option Win}, wLoop i p l = none → (∀ w ∈ l, winOk w) ∧ l.Pairwise before ∧ (∀ v w, p = some v → w ∈ l → winOk v → before v w)
  | [], _, _, _ => ⟨fun w hw => (List.not_mem_nil hw).elim, List.Pairwise.nil, fun v w _ hw => (List.not_mem_nil hw).elim⟩
  | w :: r, i, p, h => by
    rw [wLoop_cons] at h
    split at h
    · cases h
    · rename_i hb
      have hw : winOk w := by unfold winOk; omega
      have main : wLoop (i + 1) (some w) r = none → (∀ v, p = some v → before v w) → (∀ x ∈ w :: r, winOk x) ∧ (w :: r).Pairwise before ∧ (∀ v x, p = some v → x ∈ w :: r → winOk v → before v x) := fun h hp => by
        obtain ⟨a, b, c⟩ := wLoop_ok h
        refine ⟨fun x hx => ?_, List.pairwise_cons.2 ⟨fun x hx => c w x rfl hx hw, b⟩, fun v x hv hx hvo => ?_⟩
        · rcases List.mem_cons.1 hx with rfl | hx
          · exact hw
          · exact a x hx
        · rcases List.mem_cons.1 hx with rfl | hx
          · exact hp v hv
          · have h1 := hp v hv
            have h2 := c w x rfl hx hw
            unfold before at h1 h2 ⊢
            unfold winOk at hw
            omega
      split at h
      · split at h
        · cases h
        · rename_i v hlt
          exact main h fun v' hv => by cases hv; unfold before; omega
      · exact main h fun v hv => by cases hv

theorem hLoop_ok : ∀ {l : List Int} {i : Nat} {p : Option Int}, hLoop i p l = none → (∀ d ∈ l, 0 ≤ d ∧ d ≤ 6944) ∧ l.Pairwise (· < ·) ∧ (∀ e d, p = some e → d ∈ l → e < d)
  | [], _, _, _ => ⟨fun w hw => (List.not_mem_nil hw).elim, List.Pairwise.nil, fun v w _ hw => (List.not_mem_nil hw).elim⟩
  | d :: r, i, p, h => by
    rw [hLoop_cons] at h
    split at h
    · cases h
    · rename_i hb
      have main : hLoop (i + 1) (some d) r = none → (∀ e, p = some e → e < d) → (∀ x ∈ d :: r, 0 ≤ x ∧ x ≤ 6944) ∧ (d :: r).Pairwise (· < ·) ∧ (∀ e x, p = some e → x ∈ d :: r → e < x) := fun h hp => by
        obtain ⟨a, b, c⟩ := hLoop_ok h
        refine ⟨fun x hx => ?_, List.pairwise_cons.2 ⟨fun x hx => c d x rfl hx, b⟩, fun e x he hx => ?_⟩
        · rcases List.mem_cons.1 hx with rfl | hx
          · omega
          · exact a x hx
        · rcases List.mem_cons.1 hx with rfl | hx
          · exact hp e he
          · have h1 := hp e he
            have h2 := c d x rfl hx
            omega
      split at h
      · split at h
        · cases h
        · rename_i v hlt
          exact main h fun v' hv => by cases hv; omega
      · exact main h fun v hv => by cases hv

theorem wLoop_code : ∀ {l : List Win} {i : Nat} {p : Option Win} {f : Int × Int}, wLoop i p l = some f → f.1 ≠ 0
  | [], _, _, _, h => by cases h
  | w :: r, i, p, f, h => by
    rw [wLoop_cons] at h
    split at h
    · cases h; first | exact (by decide : (3 : Int) ≠ 0) | exact (by decide : (5 : Int) ≠ 0)
    · split at h
      · split at h
        · cases h; first | exact (by decide : (3 : Int) ≠ 0) | first | exact (by decide : (5 : Int) ≠ 0) | exact (by decide : (3 : Int) ≠ 0)
        · exact wLoop_code h
      · exact wLoop_code h
theorem hLoop_code : ∀ {l : List Int} {i : Nat} {p : Option Int} {f : Int × Int}, hLoop i p l = some f → f.1 ≠ 0
  | [], _, _, _, h => by cases h
  | w :: r, i, p, f, h => by
    rw [hLoop_cons] at h
    split at h
    · cases h; first | exact (by decide : (3 : Int) ≠ 0) | exact (by decide : (5 : Int) ≠ 0)
    · split at h
      · split at h
        · cases h; first | exact (by decide : (3 : Int) ≠ 0) | first | exact (by decide : (5 : Int) ≠ 0) | exact (by decide : (3 : Int) ≠ 0)
        · exact hLoop_code h
      · exact hLoop_code h

theorem calFault_ok {c : Calr} (h : (calFault c).1 = 0) : Ok c ∧ calFault c = (0, 0) := by
  unfold calFault at h ⊢
  split at h
  · cases h
  · rename_i h1
    split at h
    · cases h
    · rename_i h2
      rw [if_neg h1, if_neg h2]
      split at h
      · rename_i f hf; exact absurd h (wLoop_code hf)
      · rename_i hw
        obtain ⟨a, b, _⟩ := wLoop_ok hw
        split at h
        · rename_i f hf; exact absurd h (hLoop_code hf)
        · rename_i hh
          obtain ⟨c1, c2, _⟩ := hLoop_ok hh
          exact ⟨⟨by omega, by omega, a, b, c1, c2⟩, rfl⟩

end Go.RM
