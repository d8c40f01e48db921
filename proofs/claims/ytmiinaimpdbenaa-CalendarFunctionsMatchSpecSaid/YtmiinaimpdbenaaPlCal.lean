/-
  Calendars, plainly: open minutes, how many there are before a time, and the ways to count them.
-/
namespace Go.RM.Cal
set_option linter.unusedSimpArgs false
set_option linter.unusedVariables false

/-- A window: its day, from, to. -/
abbrev Win := Int × Int × Int
structure Calr where
  ws : List Win
  hs : List Int

def winOk (w : Win) : Prop := 0 ≤ w.1 ∧ w.1 ≤ 6 ∧ 0 ≤ w.2.1 ∧ w.2.2 ≤ 1440 ∧ w.2.1 < w.2.2
/-- One window ends before the other begins. -/
def before (v w : Win) : Prop := v.1 * 1440 + v.2.2 ≤ w.1 * 1440 + w.2.1

structure Ok (c : Calr) : Prop where
  nw : c.ws.length ≤ 12
  nh : c.hs.length ≤ 12
  win : ∀ w ∈ c.ws, winOk w
  sep : c.ws.Pairwise before
  hol : ∀ h ∈ c.hs, 0 ≤ h ∧ h ≤ 6944
  inc : c.hs.Pairwise (· < ·)

/-- A minute of the week in a window. -/
def inWin (m : Int) (w : Win) : Bool := decide (w.1 * 1440 + w.2.1 ≤ m ∧ m < w.1 * 1440 + w.2.2)
def cov (l : List Win) (m : Int) : Nat := (l.filter (inWin m)).length
def weekly (c : Calr) (t : Int) : Bool := c.ws.any (inWin (t % 10080))
/-- Is a minute open? -/
def op (c : Calr) (t : Int) : Bool := !decide (t / 1440 ∈ c.hs) && weekly c t

def b2n (b : Bool) : Nat := if b then 1 else 0

theorem cov_sep {m : Int} : ∀ {l : List Win}, l.Pairwise before → (∀ w ∈ l, winOk w) → cov l m = b2n (l.any (inWin m))
  | [], _, _ => rfl
  | w :: l, hp, hw => by
    rw [List.pairwise_cons] at hp
    have ih := cov_sep (m := m) hp.2 fun x hx => hw x (by simp [hx])
    unfold cov at ih ⊢
    rw [List.filter_cons, List.any_cons]
    by_cases h : inWin m w = true
    · rw [if_pos h, h]
      have : l.filter (inWin m) = [] := by
        rw [List.filter_eq_nil_iff]
        intro x hx h2
        have h3 := hp.1 x hx
        have h4 := hw x (by simp [hx])
        unfold inWin at h h2
        rw [decide_eq_true_eq] at h h2
        unfold before at h3
        omega
      rw [this]; rfl
    · rw [if_neg h, ih]; simp [h]

/-- The number of open minutes before a time. -/
def cnt0 (f : Int → Bool) : Nat → Nat
  | 0 => 0
  | n + 1 => cnt0 f n + b2n (f n)
def N (c : Calr) (t : Int) : Int := (cnt0 (op c) t.toNat : Nat)
theorem N_succ {c : Calr} {t : Int} (h : 0 ≤ t) : N c (t + 1) = N c t + (b2n (op c t) : Nat) := by
  unfold N
  have e : (t + 1).toNat = t.toNat + 1 := by omega
  have e2 : ((t.toNat : Nat) : Int) = t := by omega
  rw [e, cnt0, e2]; omega
theorem b2n_le (b : Bool) : b2n b ≤ 1 := by cases b <;> decide

/-- A number that grows as the open minutes do is their number. -/
theorem count_eq {f : Int → Bool} {g : Int → Int} {a : Int} (h0 : 0 ≤ a) (hs : ∀ t, a ≤ t → g (t + 1) = g t + (b2n (f t) : Nat)) : ∀ n : Nat, g (a + n) = g a + ((cnt0 f (a.toNat + n) : Int) - cnt0 f a.toNat)
  | 0 => by simp
  | n + 1 => by
    have ih := count_eq h0 hs n
    have e : a + ((n + 1 : Nat) : Int) = (a + n) + 1 := by omega
    have e2 : a.toNat + (n + 1) = (a.toNat + n) + 1 := rfl
    have e3 : ((a.toNat + n : Nat) : Int) = a + n := by omega
    rw [e, hs _ (by omega), ih, e2, cnt0, e3]; omega

theorem count_N {c : Calr} {g : Int → Int} {a b : Int} (h0 : 0 ≤ a) (hab : a ≤ b) (hs : ∀ t, a ≤ t → t < b → g (t + 1) = g t + (b2n (op c t) : Nat)) : g b = g a + (N c b - N c a) := by
  obtain ⟨n, rfl⟩ : ∃ n : Nat, b = a + n := ⟨(b - a).toNat, by omega⟩
  induction n with
  | zero => simp
  | succ n ih =>
    have e : a + ((n + 1 : Nat) : Int) = (a + n) + 1 := by omega
    rw [e, hs _ (by omega) (by omega), ih (by omega) fun t h1 h2 => hs t h1 (by omega), N_succ (by omega)]; omega

theorem N_mono {c : Calr} {a b : Int} (h0 : 0 ≤ a) (hab : a ≤ b) : N c a ≤ N c b ∧ N c b ≤ N c a + (b - a) := by
  obtain ⟨n, rfl⟩ : ∃ n : Nat, b = a + n := ⟨(b - a).toNat, by omega⟩
  induction n with
  | zero => simp
  | succ n ih =>
    obtain ⟨i1, i2⟩ := ih (by omega)
    have e : a + ((n + 1 : Nat) : Int) = (a + n) + 1 := by omega
    have := b2n_le (op c (a + n))
    rw [e, N_succ (by omega)]; omega

theorem N_flat {c : Calr} {a b : Int} (h0 : 0 ≤ a) (hab : a ≤ b) (h : ∀ t, a ≤ t → t < b → op c t = false) : N c b = N c a := by
  have := count_N (c := c) (g := fun _ => 0) h0 hab fun t h1 h2 => by rw [h t h1 h2]; rfl
  omega
theorem N_flat' {c : Calr} {a b : Int} (h0 : 0 ≤ a) (hab : a ≤ b) (h : N c b = N c a) : ∀ t, a ≤ t → t < b → op c t = false := fun t h1 h2 => by
  cases ho : op c t with
  | false => rfl
  | true =>
    have x1 := (N_mono (c := c) h0 h1).1
    have x2 := N_succ (c := c) (t := t) (by omega)
    have x3 := (N_mono (c := c) (a := t + 1) (b := b) (by omega) (by omega)).1
    rw [ho] at x2
    have : b2n true = 1 := rfl
    omega

/-! ### Spans of a day -/

abbrev Spn := Int × Int
def spans (c : Calr) (d : Int) : List Spn := if d ∈ c.hs then [] else (c.ws.filter fun w => w.1 == d % 7).map fun w => (d * 1440 + w.2.1, d * 1440 + w.2.2)

def inSp (t : Int) (s : Spn) : Bool := decide (s.1 ≤ t ∧ t < s.2)

theorem week_day {d t : Int} (h : t / 1440 = d) (ht : 0 ≤ t) (w : Win) (hw : winOk w) : (inWin (t % 10080) w = true) ↔ (w.1 = d % 7 ∧ d * 1440 + w.2.1 ≤ t ∧ t < d * 1440 + w.2.2) := by
  unfold inWin
  rw [decide_eq_true_eq]
  unfold winOk at hw
  have h1 : t % 10080 = (d % 7) * 1440 + (t - d * 1440) := by omega
  have h2 : 0 ≤ t - d * 1440 ∧ t - d * 1440 < 1440 := by omega
  rw [h1]
  constructor
  · intro h3
    have : w.1 = d % 7 := by omega
    rw [this] at h3
    omega
  · rintro ⟨h3, h4, h5⟩
    rw [h3]; omega

/-- Open, by the spans of the day. -/
theorem op_spans {c : Calr} (ho : Ok c) {d t : Int} (h : t / 1440 = d) (ht : 0 ≤ t) : op c t = (spans c d).any (inSp t) := by
  unfold op spans
  rw [h]
  by_cases hh : d ∈ c.hs
  · simp [hh]
  · rw [if_neg hh]
    simp only [hh, decide_false, Bool.not_false, Bool.true_and]
    unfold weekly
    rw [Bool.eq_iff_iff, List.any_eq_true, List.any_eq_true]
    constructor
    · rintro ⟨w, hw, hi⟩
      obtain ⟨a, b, e⟩ := (week_day h ht w (ho.win w hw)).1 hi
      exact ⟨_, List.mem_map.2 ⟨w, List.mem_filter.2 ⟨hw, by simp [a]⟩, rfl⟩, by unfold inSp; simp [b, e]⟩
    · rintro ⟨s, hs, hi⟩
      obtain ⟨w, hw, rfl⟩ := List.mem_map.1 hs
      obtain ⟨hw, hd⟩ := List.mem_filter.1 hw
      refine ⟨w, hw, (week_day h ht w (ho.win w hw)).2 ⟨by simpa using hd, ?_⟩⟩
      unfold inSp at hi
      simpa using hi

structure SpOk (d : Int) (s : Spn) : Prop where
  lo : d * 1440 ≤ s.1
  hi : s.2 ≤ d * 1440 + 1440
  lt : s.1 < s.2

theorem spans_ok {c : Calr} (ho : Ok c) {d : Int} : (∀ s ∈ spans c d, SpOk d s) ∧ (spans c d).Pairwise (fun a b => a.2 ≤ b.1) := by
  unfold spans
  split
  · exact ⟨fun s hs => (List.not_mem_nil hs).elim, List.Pairwise.nil⟩
  · constructor
    · intro s hs
      obtain ⟨w, hw, rfl⟩ := List.mem_map.1 hs
      have := ho.win w (List.mem_filter.1 hw).1
      unfold winOk at this
      exact ⟨by simp only; omega, by simp only; omega, by simp only; omega⟩
    · rw [List.pairwise_map]
      refine ((ho.sep.filter _).imp_of_mem ?_)
      intro a b ha hb hab
      have h1 := (List.mem_filter.1 ha).2
      have h2 := (List.mem_filter.1 hb).2
      rw [beq_iff_eq] at h1 h2
      unfold before at hab
      simp only
      rw [h1, h2] at hab
      omega

/-- What the spans of a list share with a range. -/
def ov (a b : Int) : List Spn → Int
  | [] => 0
  | s :: l => max 0 (min s.2 b - max s.1 a) + ov a b l
def covS (t : Int) (l : List Spn) : Nat := (l.filter (inSp t)).length

theorem covS_sep {t : Int} : ∀ {l : List Spn}, l.Pairwise (fun a b => a.2 ≤ b.1) → (∀ s ∈ l, s.1 < s.2) → covS t l = b2n (l.any (inSp t))
  | [], _, _ => rfl
  | w :: l, hp, hw => by
    rw [List.pairwise_cons] at hp
    have ih := covS_sep (t := t) hp.2 fun x hx => hw x (by simp [hx])
    unfold covS at ih ⊢
    rw [List.filter_cons, List.any_cons]
    by_cases h : inSp t w = true
    · rw [if_pos h, h]
      have : l.filter (inSp t) = [] := by
        rw [List.filter_eq_nil_iff]
        intro x hx h2
        have h3 := hp.1 x hx
        unfold inSp at h h2
        rw [decide_eq_true_eq] at h h2
        omega
      rw [this]; rfl
    · rw [if_neg h, ih]; simp [h]

theorem ov_step {a t : Int} (hat : a ≤ t) : ∀ {l : List Spn}, (∀ s ∈ l, s.1 < s.2) → ov a (t + 1) l = ov a t l + (covS t l : Nat)
  | [], _ => rfl
  | s :: l, h => by
    have ih := ov_step hat (l := l) fun x hx => h x (by simp [hx])
    have hs := h s (by simp)
    rw [ov, ov, ih]
    unfold covS
    rw [List.filter_cons]
    by_cases hi : inSp t s = true
    · rw [if_pos hi, List.length_cons]
      unfold inSp at hi
      rw [decide_eq_true_eq] at hi
      omega
    · rw [if_neg hi]
      unfold inSp at hi
      rw [decide_eq_true_eq] at hi
      omega

theorem ov_small {a b : Int} (h : b ≤ a) : ∀ {l : List Spn}, ov a b l = 0
  | [] => rfl
  | s :: l => by rw [ov, ov_small h]; omega
theorem ov_early {d a b : Int} (h : b ≤ d * 1440) : ∀ {l : List Spn}, (∀ s ∈ l, SpOk d s) → ov a b l = 0
  | [], _ => rfl
  | s :: l, hl => by
    have := (hl s (by simp)).lo
    rw [ov, ov_early h fun x hx => hl x (by simp [hx])]; omega
theorem covS_other {d t : Int} (h : t / 1440 ≠ d) : ∀ {l : List Spn}, (∀ s ∈ l, SpOk d s) → covS t l = 0 := fun {l} hl => by
  unfold covS
  have : l.filter (inSp t) = [] := by
    rw [List.filter_eq_nil_iff]
    intro s hs h2
    have := hl s hs
    have h3 := this.lo
    have h4 := this.hi
    unfold inSp at h2
    rw [decide_eq_true_eq] at h2
    omega
  rw [this]; rfl

/-- The days from d on, n of them. -/
def ovDays (c : Calr) (a b : Int) : Nat → Int → Int
  | 0, _ => 0
  | n + 1, d => ov a b (spans c d) + ovDays c a b n (d + 1)

theorem ovDays_step {c : Calr} (ho : Ok c) {a t : Int} (hat : a ≤ t) (ht : 0 ≤ t) : ∀ (n : Nat) (d : Int), ovDays c a (t + 1) n d = ovDays c a t n d + (if d ≤ t / 1440 ∧ t / 1440 < d + n then (b2n (op c t) : Nat) else 0 : Int)
  | 0, d => by rw [ovDays, ovDays, if_neg (by omega)]; rfl
  | n + 1, d => by
    obtain ⟨h1, h2⟩ := spans_ok ho (d := d)
    rw [ovDays, ovDays, ovDays_step ho hat ht n (d + 1), ov_step hat fun s hs => (h1 s hs).lt]
    by_cases e : t / 1440 = d
    · rw [covS_sep h2 fun s hs => (h1 s hs).lt, ← op_spans ho e ht, if_neg (by omega), if_pos (by omega)]; omega
    · rw [covS_other e h1]
      by_cases h3 : d + 1 ≤ t / 1440 ∧ t / 1440 < d + 1 + n
      · rw [if_pos h3, if_pos (by omega)]; simp only [Int.natCast_zero]; omega
      · rw [if_neg h3, if_neg (by omega)]; simp only [Int.natCast_zero]; omega

theorem ovDays_small {c : Calr} {a b : Int} (h : b ≤ a) : ∀ (n : Nat) (d : Int), ovDays c a b n d = 0
  | 0, _ => rfl
  | n + 1, d => by rw [ovDays, ov_small h, ovDays_small h]; rfl

/-- Counted by the spans of the days. -/
theorem ovDays_N {c : Calr} (ho : Ok c) {a b : Int} (h0 : 0 ≤ a) (hab : a ≤ b) (n : Nat) (h : b ≤ (a / 1440 + n) * 1440) : ovDays c a b n (a / 1440) = N c b - N c a := by
  have := count_N (c := c) (g := fun t => ovDays c a t n (a / 1440)) h0 hab fun t h1 h2 => by
    show ovDays c a (t + 1) n (a / 1440) = _
    rw [ovDays_step ho h1 (by omega), if_pos (by omega)]
  have e := ovDays_small (c := c) (a := a) (b := a) (Int.le_refl _) n (a / 1440)
  omega

/-! ### The reference's way to count -/

def restW (m : Int) : List Win → Int
  | [] => 0
  | w :: l => max 0 (min (w.2.2 - w.2.1) (m - (1440 * w.1 + w.2.1))) + restW m l
def weekW : List Win → Int
  | [] => 0
  | w :: l => (w.2.2 - w.2.1) + weekW l
def U (c : Calr) (t : Int) : Int := t / 10080 * weekW c.ws + restW (t % 10080) c.ws

theorem restW_step {m : Int} : ∀ {l : List Win}, (∀ w ∈ l, winOk w) → restW (m + 1) l = restW m l + (cov l m : Nat)
  | [], _ => rfl
  | w :: l, h => by
    have ih := restW_step (m := m) (l := l) fun x hx => h x (by simp [hx])
    have hw := h w (by simp)
    unfold winOk at hw
    rw [restW, restW, ih]
    unfold cov
    rw [List.filter_cons]
    by_cases hi : inWin m w = true
    · rw [if_pos hi, List.length_cons]
      unfold inWin at hi
      rw [decide_eq_true_eq] at hi
      omega
    · rw [if_neg hi]
      unfold inWin at hi
      rw [decide_eq_true_eq] at hi
      omega
theorem restW_all : ∀ {l : List Win}, (∀ w ∈ l, winOk w) → restW 10080 l = weekW l ∧ restW 0 l = 0
  | [], _ => ⟨rfl, rfl⟩
  | w :: l, h => by
    obtain ⟨i1, i2⟩ := restW_all (l := l) fun x hx => h x (by simp [hx])
    have hw := h w (by simp)
    unfold winOk at hw
    rw [restW, restW, weekW, i1, i2]
    omega

theorem U_succ {c : Calr} (ho : Ok c) {t : Int} (ht : 0 ≤ t) : U c (t + 1) = U c t + (b2n (weekly c t) : Nat) := by
  unfold U weekly
  rw [← cov_sep ho.sep ho.win]
  have hst := restW_step (m := t % 10080) ho.win
  by_cases e : t % 10080 = 10079
  · have e1 : (t + 1) / 10080 = t / 10080 + 1 := by omega
    have e2 : (t + 1) % 10080 = 0 := by omega
    obtain ⟨r1, r2⟩ := restW_all ho.win
    rw [e] at hst ⊢
    rw [e1, e2, r2]
    have : restW 10080 c.ws = restW 10079 c.ws + (cov c.ws 10079 : Nat) := hst
    rw [Int.add_mul]; omega
  · have e1 : (t + 1) / 10080 = t / 10080 := by omega
    have e2 : (t + 1) % 10080 = t % 10080 + 1 := by omega
    rw [e1, e2, hst]; omega

def lost (c : Calr) (t : Int) : List Int → Int
  | [] => 0
  | h :: l => (if 1440 * h < t then U c (min t (1440 * h + 1440)) - U c (1440 * h) else 0) + lost c t l
def M (c : Calr) (t : Int) : Int := U c t - lost c t c.hs

theorem lost_step {c : Calr} (ho : Ok c) {t : Int} (ht : 0 ≤ t) : ∀ {l : List Int}, (∀ h ∈ l, 0 ≤ h) → l.Pairwise (· < ·) → lost c (t + 1) l = lost c t l + (if t / 1440 ∈ l then (b2n (weekly c t) : Nat) else 0 : Int)
  | [], _, _ => by simp [lost]
  | h :: l, h0, hp => by
    rw [List.pairwise_cons] at hp
    have ih := lost_step ho ht (l := l) (fun x hx => h0 x (by simp [hx])) hp.2
    have hh := h0 h (by simp)
    rw [lost, lost, ih]
    by_cases e : t / 1440 = h
    · have hn : ¬ t / 1440 ∈ l := fun hm => by have := hp.1 _ hm; omega
      have hmem : t / 1440 ∈ h :: l := by rw [e]; simp
      rw [if_neg hn, if_pos (show 1440 * h < t + 1 by omega), if_pos hmem]
      have hu := U_succ ho ht
      have e1 : min (t + 1) (1440 * h + 1440) = t + 1 := by omega
      rw [e1, hu]
      by_cases e2 : 1440 * h < t
      · rw [if_pos e2]
        have e3 : min t (1440 * h + 1440) = t := by omega
        rw [e3]; omega
      · rw [if_neg e2]
        have e3 : t = 1440 * h := by omega
        rw [← e3]; omega
    · have hiff : (t / 1440 ∈ h :: l) ↔ t / 1440 ∈ l := by simp [e]
      have e2 : (if 1440 * h < t + 1 then U c (min (t + 1) (1440 * h + 1440)) - U c (1440 * h) else 0) = (if 1440 * h < t then U c (min t (1440 * h + 1440)) - U c (1440 * h) else 0) := by
        by_cases e3 : 1440 * h < t
        · rw [if_pos e3, if_pos (by omega)]
          have e4 : min (t + 1) (1440 * h + 1440) = 1440 * h + 1440 := by omega
          have e5 : min t (1440 * h + 1440) = 1440 * h + 1440 := by omega
          rw [e4, e5]
        · rw [if_neg e3, if_neg (by omega)]
      rw [e2]
      by_cases hm : t / 1440 ∈ l
      · rw [if_pos hm, if_pos (hiff.2 hm)]; omega
      · rw [if_neg hm, if_neg fun h => hm (hiff.1 h)]; omega

theorem M_N {c : Calr} (ho : Ok c) {t : Int} (ht : 0 ≤ t) : M c t = N c t := by
  have hl0 : ∀ l : List Int, (∀ h ∈ l, 0 ≤ h) → lost c 0 l = 0 := by
    intro l
    induction l with
    | nil => intro _; rfl
    | cons h l ih => intro h0; rw [lost, ih fun x hx => h0 x (by simp [hx]), if_neg (by have := h0 h (by simp); omega)]; rfl
  have h0 : M c 0 = 0 := by
    unfold M
    rw [hl0 _ fun h hh => (ho.hol h hh).1]
    unfold U
    rw [show (0 : Int) / 10080 = 0 from rfl, show (0 : Int) % 10080 = 0 from rfl, (restW_all ho.win).2]; omega
  have := count_N (c := c) (g := fun t => M c t) (Int.le_refl 0) ht fun t h1 h2 => by
    show U c (t + 1) - lost c (t + 1) c.hs = U c t - lost c t c.hs + _
    rw [U_succ ho h1, lost_step ho h1 (fun h hh => (ho.hol h hh).1) ho.inc]
    unfold op
    by_cases hm : t / 1440 ∈ c.hs
    · rw [if_pos hm]; simp only [hm, decide_true, Bool.not_true, Bool.false_and]
      show _ = _ + ((0 : Nat) : Int); omega
    · rw [if_neg hm]; simp only [hm, decide_false, Bool.not_false, Bool.true_and]; omega
  have hn0 : N c 0 = 0 := rfl
  omega

end Go.RM.Cal
