import Derived.Test.YteplndpnfdmgkaaAuR
import Derived.Test.YteplndpnfdmgkaaRmOpt3
import Derived.Test.YteplndpnfdmgkaaAuM
import Derived.Test.YteplndpnfdmgkaaAuW
/-
  Numbers of 64 bits: a product's two halves, and what is left of a division by 2^61 - 1.
-/
namespace Go.RM
set_option linter.unusedSimpArgs false
set_option linter.unusedVariables false
namespace Au

abbrev M : Int := 2305843009213693951

theorem u64 (x : Int) : IntKind.wrap .u64 x = x % 18446744073709551616 := by
  unfold IntKind.wrap
  simp [IntKind.bits, IntKind.signed]
theorem u64_in {x : Int} (h : 0 ≤ x) (h2 : x < 18446744073709551616) : IntKind.wrap .u64 x = x := by rw [u64]; omega
theorem u8_in {x : Int} (h : 0 ≤ x) (h2 : x < 256) : IntKind.wrap .u8 x = x := by
  unfold IntKind.wrap
  simp [IntKind.bits, IntKind.signed]; omega

theorem shr32 (x : Int) : Int.fdiv x (2 ^ (Min.min (Int.toNat 32) (IntKind.bits .u64))) = x / 4294967296 := by
  show Int.fdiv x 4294967296 = _
  rw [Int.fdiv_eq_ediv_of_nonneg _ (by omega)]

theorem and32 {x : Int} (h : 0 ≤ x) (h2 : x < 18446744073709551616) : IntKind.wrap .u64 (((BitVec.ofInt (IntKind.bits .u64) x &&& BitVec.ofInt (IntKind.bits .u64) 4294967295).toNat : Int)) = x % 4294967296 := by
  obtain ⟨n, rfl⟩ := Int.eq_ofNat_of_zero_le h
  have e1 : (BitVec.ofInt (IntKind.bits .u64) (n : Int)).toNat = n := by
    show (BitVec.ofInt 64 (n : Int)).toNat = n
    rw [BitVec.toNat_ofInt]; omega
  have e2 : (BitVec.ofInt (IntKind.bits .u64) 4294967295).toNat = 2 ^ 32 - 1 := by decide
  rw [BitVec.toNat_and, e1, e2, Nat.and_two_pow_sub_one_eq_mod, u64_in (by omega) (by omega)]
  omega

theorem or3 {a b : Int} (ha : 0 ≤ a) (ha2 : a < 2305843009213693952) (hb : 0 ≤ b) (hb2 : b < 8) : IntKind.wrap .u64 (((BitVec.ofInt (IntKind.bits .u64) (a * 8) ||| BitVec.ofInt (IntKind.bits .u64) b).toNat : Int)) = a * 8 + b := by
  obtain ⟨n, rfl⟩ := Int.eq_ofNat_of_zero_le ha
  obtain ⟨m, rfl⟩ := Int.eq_ofNat_of_zero_le hb
  have e1 : (BitVec.ofInt (IntKind.bits .u64) ((n : Int) * 8)).toNat = 2 ^ 3 * n := by
    show (BitVec.ofInt 64 ((n : Int) * 8)).toNat = _
    rw [BitVec.toNat_ofInt]; omega
  have e2 : (BitVec.ofInt (IntKind.bits .u64) (m : Int)).toNat = m := by
    show (BitVec.ofInt 64 (m : Int)).toNat = m
    rw [BitVec.toNat_ofInt]; omega
  rw [BitVec.toNat_or, e1, e2, ← Nat.two_pow_add_eq_or_of_lt (by omega), u64_in (by omega) (by omega)]
  omega

/-- The upper half of a product. -/
theorem mul_hi {x0 x1 y0 y1 : Int} (a : 0 ≤ x0) (a' : x0 < 4294967296) (b : 0 ≤ x1) (b' : x1 < 4294967296) (c : 0 ≤ y0) (c' : y0 < 4294967296) (d : 0 ≤ y1) (d' : y1 < 4294967296) :
    let t := x1 * y0 + x0 * y0 / 4294967296
    let w := t % 4294967296 + x0 * y1
    (0 ≤ x0 * y0 ∧ x0 * y0 < 18446744073709551616) ∧ (0 ≤ x1 * y0 ∧ x1 * y0 < 18446744073709551616) ∧ (0 ≤ x0 * y1 ∧ x0 * y1 < 18446744073709551616) ∧ (0 ≤ x1 * y1 ∧ x1 * y1 < 18446744073709551616) ∧ (0 ≤ t ∧ t < 18446744073709551616) ∧ (0 ≤ w ∧ w < 18446744073709551616) ∧
    0 ≤ x1 * y1 + t / 4294967296 + w / 4294967296 ∧ x1 * y1 + t / 4294967296 + w / 4294967296 < 18446744073709551616 ∧
    x1 * y1 + t / 4294967296 + w / 4294967296 = ((x1 * 4294967296 + x0) * (y1 * 4294967296 + y0)) / 18446744073709551616 := by
  have bound : ∀ u v : Int, 0 ≤ u → u < 4294967296 → 0 ≤ v → v < 4294967296 → 0 ≤ u * v ∧ u * v ≤ 18446744065119617025 := fun u v h1 h2 h3 h4 => by
    refine ⟨Int.mul_nonneg h1 h3, ?_⟩
    have := Int.mul_le_mul (show u ≤ 4294967295 by omega) (show v ≤ 4294967295 by omega) h3 (by omega)
    omega
  have p1 := bound x0 y0 a a' c c'
  have p2 := bound x1 y0 b b' c c'
  have p3 := bound x0 y1 a a' d d'
  have p4 := bound x1 y1 b b' d d'
  have e : (x1 * 4294967296 + x0) * (y1 * 4294967296 + y0) = x1 * y1 * 18446744073709551616 + (x1 * y0 + x0 * y1) * 4294967296 + x0 * y0 := by
    rw [Int.add_mul, Int.mul_add, Int.mul_add]
    have h1 : x1 * 4294967296 * (y1 * 4294967296) = x1 * y1 * 18446744073709551616 := by
      rw [Int.mul_assoc, Int.mul_left_comm 4294967296 y1, ← Int.mul_assoc]; rfl
    have h2 : x1 * 4294967296 * y0 = x1 * y0 * 4294967296 := by rw [Int.mul_right_comm]
    have h3 : x0 * (y1 * 4294967296) = x0 * y1 * 4294967296 := by rw [Int.mul_assoc]
    rw [h1, h2, h3]; omega
  rw [e]
  generalize x0 * y0 = A at *
  generalize x1 * y0 = B at *
  generalize x0 * y1 = C at *
  generalize x1 * y1 = D at *
  omega

/-- The last digit of a long division by 8 * M. -/
theorem rem_of {V q : Int} (h1 : q * (8 * M) ≤ 8 * V) (h2 : 8 * V < (q + 1) * (8 * M)) : (8 * V - q * (8 * M)) / 8 = V % M := by
  have e : (q + 1) * (8 * M) = q * (8 * M) + 8 * M := by rw [Int.add_mul]; omega
  have e2 : q * (8 * M) = 8 * (q * M) := by rw [Int.mul_left_comm]
  rw [e] at h2
  rw [e2] at h1 h2 ⊢
  have h3 : (8 * V - 8 * (q * M)) / 8 = V - q * M := by omega
  rw [h3]
  have h4 : V = V - q * M + q * M := by omega
  have h5 : V % M = (V - q * M) % M := by
    conv => lhs; rw [h4]
    rw [Int.add_mul_emod_self_right]
  rw [h5, Int.emod_eq_of_lt (by omega) (by omega)]

/-- How many bits a number has. -/
def blen (n : Nat) : Nat := if n = 0 then 0 else Nat.log2 n + 1

def tab : ByteArray := (⟨#[0, 1, 2, 2, 3, 3, 3, 3, 4, 4, 4, 4, 4, 4, 4, 4, 5, 5, 5, 5, 5, 5, 5, 5, 5, 5, 5, 5, 5, 5, 5, 5, 6, 6, 6, 6, 6, 6, 6, 6, 6, 6, 6, 6, 6, 6, 6, 6, 6, 6, 6, 6, 6, 6, 6, 6, 6, 6, 6, 6, 6, 6, 6, 6, 7, 7, 7, 7, 7, 7, 7, 7, 7, 7, 7, 7, 7, 7, 7, 7, 7, 7, 7, 7, 7, 7, 7, 7, 7, 7, 7, 7, 7, 7, 7, 7, 7, 7, 7, 7, 7, 7, 7, 7, 7, 7, 7, 7, 7, 7, 7, 7, 7, 7, 7, 7, 7, 7, 7, 7, 7, 7, 7, 7, 7, 7, 7, 7, 8, 8, 8, 8, 8, 8, 8, 8, 8, 8, 8, 8, 8, 8, 8, 8, 8, 8, 8, 8, 8, 8, 8, 8, 8, 8, 8, 8, 8, 8, 8, 8, 8, 8, 8, 8, 8, 8, 8, 8, 8, 8, 8, 8, 8, 8, 8, 8, 8, 8, 8, 8, 8, 8, 8, 8, 8, 8, 8, 8, 8, 8, 8, 8, 8, 8, 8, 8, 8, 8, 8, 8, 8, 8, 8, 8, 8, 8, 8, 8, 8, 8, 8, 8, 8, 8, 8, 8, 8, 8, 8, 8, 8, 8, 8, 8, 8, 8, 8, 8, 8, 8, 8, 8, 8, 8, 8, 8, 8, 8, 8, 8, 8, 8, 8, 8, 8, 8, 8, 8, 8, 8, 8, 8, 8, 8, 8, 8]⟩ : ByteArray)
theorem tab_all : (List.range 256).all (fun n => (tab[n]?).map UInt8.toNat == some (blen n)) = true := by decide +kernel
theorem tab_get {n : Nat} (h : n < 256) : (tab[n]?).map UInt8.toNat = some (blen n) := by
  have := List.all_eq_true.1 tab_all n (List.mem_range.2 h)
  simpa using this

/-! ### Digests, records, logs -/

/-- The digest of two digests. -/
def pairD (a b : Int) : Int := (a * 1000003 % M + b * 31 % M + 7) % M

def dig (d : Int) : Bool := decide (0 ≤ d) && decide (d < M)

theorem dig_iff {d : Int} : dig d = true ↔ 0 ≤ d ∧ d < M := by simp [dig]
theorem pairD_dig (a b : Int) : dig (pairD a b) = true := by
  rw [dig_iff]
  exact ⟨Int.emod_nonneg _ (by decide), Int.emod_lt_of_pos _ (by decide)⟩

structure Rec where
  t : Int
  u : Int
  a : Int
  c : Int
  deriving DecidableEq, Inhabited

def inR (r : Rec) : Bool := decide (0 ≤ r.t) && decide (r.t ≤ 100000) && decide (0 ≤ r.u) && decide (r.u ≤ 7) && decide (0 ≤ r.a) && decide (r.a ≤ 1000000000) && dig r.c

theorem inR_iff {r : Rec} : inR r = true ↔ 0 ≤ r.t ∧ r.t ≤ 100000 ∧ 0 ≤ r.u ∧ r.u ≤ 7 ∧ 0 ≤ r.a ∧ r.a ≤ 1000000000 ∧ dig r.c = true := by
  simp [inR, and_assoc]

/-- The digest of a record after a digest. -/
def chainD (b : Int) (r : Rec) : Int := pairD (pairD b (8 * r.t + r.u)) r.a

theorem chainD_dig (b : Int) (r : Rec) : dig (chainD b r) = true := pairD_dig _ _

/-- The first fault of a log. -/
def vf : Nat → Int → Int → List Rec → Int × Int
  | _, _, _, [] => (0, 0)
  | i, b, t, r :: l =>
    if inR r = true then
      if r.t < t then (5, i)
      else if r.c = chainD b r then vf (i + 1) r.c r.t l else (18, i)
    else (3, i)

def logF (l : List Rec) : Int × Int := if l.length > 40 then (2, -1) else vf 0 0 0 l

theorem vf_ok {l : List Rec} : ∀ {i b t}, vf i b t l = (0, 0) → ∀ r ∈ l, inR r = true := by
  induction l with
  | nil => intro i b t _ r h; cases h
  | cons x l ih =>
    intro i b t h r hr
    rw [vf] at h
    split at h
    · rename_i hx
      split at h
      · simp at h
      · split at h
        · rcases List.mem_cons.1 hr with rfl | hr
          · exact hx
          · exact ih h r hr
        · simp at h
    · simp at h

theorem logF_ok {l : List Rec} (h : logF l = (0, 0)) : l.length ≤ 40 ∧ vf 0 0 0 l = (0, 0) := by
  unfold logF at h
  split at h
  · simp at h
  · exact ⟨by omega, h⟩

theorem logF_in {l : List Rec} (h : logF l = (0, 0)) : ∀ r ∈ l, inR r = true := vf_ok (logF_ok h).2

/-- A faulty log's code is not 0. -/
theorem vf_code {l : List Rec} : ∀ {i b t}, (vf i b t l).1 = 0 → vf i b t l = (0, 0) := by
  induction l with
  | nil => intro i b t _; rfl
  | cons x l ih =>
    intro i b t h
    rw [vf] at h ⊢
    split
    · rename_i hx
      rw [if_pos hx] at h
      split
      · rename_i ht; rw [if_pos ht] at h; simp at h
      · rename_i ht
        rw [if_neg ht] at h
        split
        · rename_i hc; rw [if_pos hc] at h; exact ih h
        · rename_i hc; rw [if_neg hc] at h; simp at h
    · rename_i hx; rw [if_neg hx] at h; simp at h

theorem logF_code {l : List Rec} (h : (logF l).1 = 0) : logF l = (0, 0) := by
  unfold logF at h ⊢
  split
  · rename_i h1; rw [if_pos h1] at h; simp at h
  · rename_i h1; rw [if_neg h1] at h; exact vf_code h

def lastR (l : List Rec) : Rec := l.getLast?.getD ⟨0, 0, 0, 0⟩

theorem lastR_dig {l : List Rec} (h : ∀ r ∈ l, inR r = true) : dig (lastR l).c = true := by
  unfold lastR
  cases hl : l.getLast? with
  | none => rfl
  | some r => exact (inR_iff.1 (h r (List.mem_of_getLast? hl))).2.2.2.2.2.2

/-- A record with its digest. -/
def newR (l : List Rec) (t u a : Int) : Rec := ⟨t, u, a, chainD (lastR l).c ⟨t, u, a, 0⟩⟩

/-- Append's fault. -/
def appF (l : List Rec) (t u a : Int) : Int × Int :=
  if logF l = (0, 0) then
    if inR ⟨t, u, a, 0⟩ = true then
      if t < (lastR l).t then (16, -2)
      else if l.length = 40 then (14, -2)
      else (0, 0)
    else (3, -2)
  else logF l

def appR (l : List Rec) (t u a : Int) : List Rec := if appF l t u a = (0, 0) then l ++ [newR l t u a] else []

/-- Is a record asked for? -/
def ask (u f t : Int) (r : Rec) : Bool := decide (f ≤ r.t) && decide (r.t ≤ t) && (decide (u = -1) || decide (u = r.u))

def qIdx (u f t : Int) : List Rec → Nat → List Int
  | [], _ => []
  | r :: l, i => if ask u f t r = true then (i : Int) :: qIdx u f t l (i + 1) else qIdx u f t l (i + 1)

def qF (l : List Rec) (u : Int) : Int × Int :=
  if logF l = (0, 0) then if u < -1 ∨ u > 7 then (3, -2) else (0, 0) else logF l

def qR (l : List Rec) (u f t : Int) : List Int := if qF l u = (0, 0) then qIdx u f t l 0 else []

def pre : List Rec → List Rec → Nat
  | x :: a, y :: b => if x = y then pre a b + 1 else 0
  | _, _ => 0

def forkF (a b : List Rec) : Int × Int := if logF a = (0, 0) then if logF b = (0, 0) then (0, 0) else ((logF b).1, -2) else logF a
def forkR (a b : List Rec) : Nat := if forkF a b = (0, 0) then pre a b else 0

theorem pair_ne {p : Int × Int} (h : ¬(p.1 = 0 ∧ p.2 = 0 ∧ True)) : p ≠ (0, 0) := fun e => h (by rw [e]; exact ⟨rfl, rfl, trivial⟩)
theorem pair_eq {p : Int × Int} (h : ¬¬(p.1 = 0 ∧ p.2 = 0 ∧ True)) : p = (0, 0) := by
  obtain ⟨h1, h2, _⟩ := Classical.not_not.1 h
  exact Prod.ext h1 h2

end Au
end Go.RM

/-
  Functions of the program as the abstract machine runs them, and what must be shown of a run: printed by RmPrint.
-/
namespace Go.RM
set_option linter.unusedVariables false
set_option maxRecDepth 4000
def rf_FHas : RFunc := ⟨2, 6, [.var 2],
 ((.seq (.ops [⟨.move (.k (.bool false)), none, (some 2), true⟩])
 ((.seq ((.seq (.ops [⟨.move (.k (.int .i64 0)), none, (some 3), true⟩])
 (.block 0 (.loop ((.seq ((.seq (.ops [⟨.move (.var 3), none, none, true⟩, ⟨.move (.var 0), none, none, true⟩, ⟨.len (.loc 1), none, none, true⟩, ⟨.bin .lss .no (.loc 0) (.loc 2), none, (some 4), true⟩])
 (.cond (.var 4) (.skip) (.exit 0))))
 ((.seq (.block 1 ((.seq (.ops [⟨.move (.var 0), none, none, true⟩, ⟨.move (.var 3), none, none, true⟩, ⟨.indexAddr 1 (.loc 0) (.loc 1), none, none, true⟩, ⟨.load none (.loc 2), none, none, true⟩, ⟨.move (.var 1), none, none, true⟩, ⟨.bin .eql .no (.loc 3) (.loc 4), none, (some 5), true⟩])
 (.cond (.var 5) ((.seq (.ops [⟨.move (.k (.bool true)), none, (some 2), true⟩])
 (.ret))) (.skip)))))
 (.ops [⟨.move (.var 3), none, none, true⟩, ⟨.bin .add .no (.loc 0) (.k (.int .i64 1)), none, none, true⟩, ⟨.move (.loc 1), none, (some 3), true⟩])))))))))
 ((.seq (.ops [⟨.move (.k (.bool false)), none, (some 2), true⟩])
 (.ret))))))), none⟩
theorem v_FHas {F : Nat → Option RFunc} {me : Nat} (hF : F me = some (rf_FHas )) {fl : Nat} {H : Heap} {Q : AV → Heap → Prop} (l0 : AV) (n1 : Int)
  (h : ∃ (J2 : Nat → Int → Prop) (k3 : Nat), J2 k3 0 ∧ (∀ (m4 : Nat) (i6 : Int), J2 m4 i6 → ∃ len9 : Nat, lenA l0 = some len9 ∧ ((i6 < (len9 : Int)) → ∃ (e10 : Int), getA H 1 none l0 i6 0 = some (.int .i64 e10) ∧ ((e10 = n1) → Q (.bool true) H) ∧ (¬(e10 = n1) → ∃ m12 : Nat, m12 < m4 ∧ J2 m12 (IntKind.wrap .i64 (i6 + 1)))) ∧ (¬(i6 < (len9 : Int)) → Q (.bool false) H))) : Ret F fl me [l0, (.int .i64 n1)] H Q := by
  refine ret_intro hF rfl ?_
  refine w_seq ?_
  refine w_run [0] ?_
  refine t_done [l0, (.int .i64 n1), (.bool false), .undef, .undef, .undef] H (by kernel_rfl) ?_
  refine then_norm ?_
  refine w_seq ?_
  refine w_seq ?_
  refine w_run [0] ?_
  refine t_done [l0, (.int .i64 n1), (.bool false), (.int .i64 0), .undef, .undef] H (by kernel_rfl) ?_
  refine then_norm ?_
  refine w_block ?_
  obtain ⟨J2, k3, h0, h⟩ := h
  refine w_loop (I := fun mI EI HI => ∃ (d5 : AV) (i6 : Int) (d7 : AV) (d8 : AV), EI = [l0, (.int .i64 n1), d5, (.int .i64 i6), d7, d8] ∧ H = HI ∧ J2 mI i6) ?_ k3 ⟨_, _, _, _, rfl, rfl, h0⟩
  clear h0
  rintro m4 EI HI ⟨d5, i6, d7, d8, rfl, rfl, hJ⟩
  replace h := h m4 i6  hJ
  clear hJ
  refine w_seq ?_
  refine w_seq ?_
  refine w_run [0, 0, 1, 0] ?_
  obtain ⟨len9, hl, h⟩ := h
  refine t_len true l0 len9 H (by kernel_rfl) hl ?_
  refine t_done [l0, (.int .i64 n1), d5, (.int .i64 i6), (.bool (decide (i6 < (len9 : Int)))), d8] H (by kernel_rfl) ?_
  refine then_norm ?_
  refine w_cond (t := (decide (i6 < (len9 : Int)))) rfl (fun hc => ?_) (fun hc => ?_)
  · replace h := h.1 (is_dec.t hc)
    refine w_skip ?_
    refine then_norm ?_
    refine w_seq ?_
    refine w_block ?_
    refine w_seq ?_
    refine w_run [0, 0, 1, 1, 0, 0] ?_
    obtain ⟨e10, hg11, h⟩ := h
    refine t_idxG true 1 l0 .i64 i6 H (by kernel_rfl) hg11 ?_
    refine t_loadG true none 1 l0 i6 0 (.int .i64 e10) H (by kernel_rfl) hg11 ?_
    refine t_done [l0, (.int .i64 n1), d5, (.int .i64 i6), (.bool (decide (i6 < (len9 : Int)))), (.bool (e10 == n1))] H (by kernel_rfl) ?_
    refine then_norm ?_
    refine w_cond (t := (e10 == n1)) rfl (fun hc => ?_) (fun hc => ?_)
    · replace h := h.1 (is_eq.t hc)
      refine w_seq ?_
      refine w_run [0] ?_
      refine t_done [l0, (.int .i64 n1), (.bool true), (.int .i64 i6), (.bool (decide (i6 < (len9 : Int)))), (.bool (e10 == n1))] H (by kernel_rfl) ?_
      refine then_norm ?_
      refine w_ret ?_
      refine block_ret ?_
      refine then_ret ?_
      refine loop_ret ?_
      refine block_ret ?_
      refine then_ret ?_
      exact body_ret (vs := [(.bool true)]) _ (by kernel_rfl) rfl h
    · replace h := h.2 (is_eq.f hc)
      refine w_skip ?_
      refine block_norm ?_
      refine then_norm ?_
      refine w_run [0, 0, 0] ?_
      refine t_done [l0, (.int .i64 n1), d5, (.int .i64 (IntKind.wrap .i64 (i6 + 1))), (.bool (decide (i6 < (len9 : Int)))), (.bool (e10 == n1))] H (by kernel_rfl) ?_
      obtain ⟨m', hm, h⟩ := h
      refine loop_norm ⟨m', hm, _, _, _, _, rfl, rfl, h⟩
  · replace h := h.2 (is_dec.f hc)
    refine w_exit ?_
    refine then_exit ?_
    refine loop_exit ?_
    refine block_exit ?_
    refine then_norm ?_
    refine w_seq ?_
    refine w_run [0] ?_
    refine t_done [l0, (.int .i64 n1), (.bool false), (.int .i64 i6), (.bool (decide (i6 < (len9 : Int)))), d8] H (by kernel_rfl) ?_
    refine then_norm ?_
    refine w_ret ?_
    exact body_ret (vs := [(.bool false)]) _ (by kernel_rfl) rfl h

def rf_FEqualInts : RFunc := ⟨2, 7, [.var 2],
 ((.seq (.ops [⟨.move (.k (.bool false)), none, (some 2), true⟩])
 ((.seq ((.seq (.ops [⟨.move (.var 0), none, none, true⟩, ⟨.len (.loc 0), none, none, true⟩, ⟨.move (.var 1), none, none, true⟩, ⟨.len (.loc 2), none, none, true⟩, ⟨.bin .neq .no (.loc 1) (.loc 3), none, (some 3), true⟩])
 (.cond (.var 3) ((.seq (.ops [⟨.move (.k (.bool false)), none, (some 2), true⟩])
 (.ret))) (.skip))))
 ((.seq ((.seq (.ops [⟨.move (.k (.int .i64 0)), none, (some 4), true⟩])
 (.block 0 (.loop ((.seq ((.seq (.ops [⟨.move (.var 4), none, none, true⟩, ⟨.move (.var 0), none, none, true⟩, ⟨.len (.loc 1), none, none, true⟩, ⟨.bin .lss .no (.loc 0) (.loc 2), none, (some 5), true⟩])
 (.cond (.var 5) (.skip) (.exit 0))))
 ((.seq (.block 1 ((.seq (.ops [⟨.move (.var 0), none, none, false⟩, ⟨.move (.var 4), none, none, false⟩, ⟨.indexAddr 1 (.loc 0) (.loc 1), none, none, false⟩, ⟨.load none (.loc 2), none, none, false⟩, ⟨.move (.var 1), none, none, false⟩, ⟨.move (.var 4), none, none, false⟩, ⟨.indexAddr 1 (.loc 4) (.loc 5), none, none, false⟩, ⟨.load none (.loc 6), none, none, false⟩, ⟨.bin .neq .no (.loc 3) (.loc 7), none, (some 6), true⟩])
 (.cond (.var 6) ((.seq (.ops [⟨.move (.k (.bool false)), none, (some 2), true⟩])
 (.ret))) (.skip)))))
 (.ops [⟨.move (.var 4), none, none, true⟩, ⟨.bin .add .no (.loc 0) (.k (.int .i64 1)), none, none, true⟩, ⟨.move (.loc 1), none, (some 4), true⟩])))))))))
 ((.seq (.ops [⟨.move (.k (.bool true)), none, (some 2), true⟩])
 (.ret))))))))), none⟩
theorem v_FEqualInts {F : Nat → Option RFunc} {me : Nat} (hF : F me = some (rf_FEqualInts )) {fl : Nat} {H : Heap} {Q : AV → Heap → Prop} (a0 : AV) (b1 : AV)
  (h : ∃ len2 : Nat, lenA a0 = some len2 ∧ ∃ len3 : Nat, lenA b1 = some len3 ∧ (((len2 : Int) ≠ (len3 : Int)) → Q (.bool false) H) ∧ (¬((len2 : Int) ≠ (len3 : Int)) → ∃ (J4 : Nat → Int → Prop) (k5 : Nat), J4 k5 0 ∧ (∀ (m6 : Nat) (i8 : Int), J4 m6 i8 → ∃ len11 : Nat, lenA a0 = some len11 ∧ ((i8 < (len11 : Int)) → ∃ (e12 : Int), getA H 1 none a0 i8 0 = some (.int .i64 e12) ∧ ∃ (e14 : Int), getA H 1 none b1 i8 0 = some (.int .i64 e14) ∧ ((e12 ≠ e14) → Q (.bool false) H) ∧ (¬(e12 ≠ e14) → ∃ m16 : Nat, m16 < m6 ∧ J4 m16 (IntKind.wrap .i64 (i8 + 1)))) ∧ (¬(i8 < (len11 : Int)) → Q (.bool true) H)))) : Ret F fl me [a0, b1] H Q := by
  refine ret_intro hF rfl ?_
  refine w_seq ?_
  refine w_run [0] ?_
  refine t_done [a0, b1, (.bool false), .undef, .undef, .undef, .undef] H (by kernel_rfl) ?_
  refine then_norm ?_
  refine w_seq ?_
  refine w_seq ?_
  refine w_run [0, 1, 0, 1, 0] ?_
  obtain ⟨len2, hl, h⟩ := h
  refine t_len true a0 len2 H (by kernel_rfl) hl ?_
  obtain ⟨len3, hl, h⟩ := h
  refine t_len true b1 len3 H (by kernel_rfl) hl ?_
  refine t_done [a0, b1, (.bool false), (.bool ((len2 : Int) != (len3 : Int))), .undef, .undef, .undef] H (by kernel_rfl) ?_
  refine then_norm ?_
  refine w_cond (t := ((len2 : Int) != (len3 : Int))) rfl (fun hc => ?_) (fun hc => ?_)
  · replace h := h.1 (is_ne.t hc)
    refine w_seq ?_
    refine w_run [0] ?_
    refine t_done [a0, b1, (.bool false), (.bool ((len2 : Int) != (len3 : Int))), .undef, .undef, .undef] H (by kernel_rfl) ?_
    refine then_norm ?_
    refine w_ret ?_
    refine then_ret ?_
    exact body_ret (vs := [(.bool false)]) _ (by kernel_rfl) rfl h
  · replace h := h.2 (is_ne.f hc)
    refine w_skip ?_
    refine then_norm ?_
    refine w_seq ?_
    refine w_seq ?_
    refine w_run [0] ?_
    refine t_done [a0, b1, (.bool false), (.bool ((len2 : Int) != (len3 : Int))), (.int .i64 0), .undef, .undef] H (by kernel_rfl) ?_
    refine then_norm ?_
    refine w_block ?_
    obtain ⟨J4, k5, h0, h⟩ := h
    refine w_loop (I := fun mI EI HI => ∃ (d7 : AV) (i8 : Int) (d9 : AV) (d10 : AV), EI = [a0, b1, d7, (.bool ((len2 : Int) != (len3 : Int))), (.int .i64 i8), d9, d10] ∧ H = HI ∧ J4 mI i8) ?_ k5 ⟨_, _, _, _, rfl, rfl, h0⟩
    clear h0
    rintro m6 EI HI ⟨d7, i8, d9, d10, rfl, rfl, hJ⟩
    replace h := h m6 i8  hJ
    clear hJ
    refine w_seq ?_
    refine w_seq ?_
    refine w_run [0, 0, 1, 0] ?_
    obtain ⟨len11, hl, h⟩ := h
    refine t_len true a0 len11 H (by kernel_rfl) hl ?_
    refine t_done [a0, b1, d7, (.bool ((len2 : Int) != (len3 : Int))), (.int .i64 i8), (.bool (decide (i8 < (len11 : Int)))), d10] H (by kernel_rfl) ?_
    refine then_norm ?_
    refine w_cond (t := (decide (i8 < (len11 : Int)))) rfl (fun hc => ?_) (fun hc => ?_)
    · replace h := h.1 (is_dec.t hc)
      refine w_skip ?_
      refine then_norm ?_
      refine w_seq ?_
      refine w_block ?_
      refine w_seq ?_
      refine w_run [0, 0, 1, 1, 0, 0, 1, 1, 0] ?_
      obtain ⟨e12, hg13, h⟩ := h
      refine t_idxG false 1 a0 .i64 i8 H (by kernel_rfl) hg13 ?_
      refine t_loadG false none 1 a0 i8 0 (.int .i64 e12) H (by kernel_rfl) hg13 ?_
      obtain ⟨e14, hg15, h⟩ := h
      refine t_idxG false 1 b1 .i64 i8 H (by kernel_rfl) hg15 ?_
      refine t_loadG false none 1 b1 i8 0 (.int .i64 e14) H (by kernel_rfl) hg15 ?_
      refine t_done [a0, b1, d7, (.bool ((len2 : Int) != (len3 : Int))), (.int .i64 i8), (.bool (decide (i8 < (len11 : Int)))), (.bool (e12 != e14))] H (by kernel_rfl) ?_
      refine then_norm ?_
      refine w_cond (t := (e12 != e14)) rfl (fun hc => ?_) (fun hc => ?_)
      · replace h := h.1 (is_ne.t hc)
        refine w_seq ?_
        refine w_run [0] ?_
        refine t_done [a0, b1, (.bool false), (.bool ((len2 : Int) != (len3 : Int))), (.int .i64 i8), (.bool (decide (i8 < (len11 : Int)))), (.bool (e12 != e14))] H (by kernel_rfl) ?_
        refine then_norm ?_
        refine w_ret ?_
        refine block_ret ?_
        refine then_ret ?_
        refine loop_ret ?_
        refine block_ret ?_
        refine then_ret ?_
        exact body_ret (vs := [(.bool false)]) _ (by kernel_rfl) rfl h
      · replace h := h.2 (is_ne.f hc)
        refine w_skip ?_
        refine block_norm ?_
        refine then_norm ?_
        refine w_run [0, 0, 0] ?_
        refine t_done [a0, b1, d7, (.bool ((len2 : Int) != (len3 : Int))), (.int .i64 (IntKind.wrap .i64 (i8 + 1))), (.bool (decide (i8 < (len11 : Int)))), (.bool (e12 != e14))] H (by kernel_rfl) ?_
        obtain ⟨m', hm, h⟩ := h
        refine loop_norm ⟨m', hm, _, _, _, _, rfl, rfl, h⟩
    · replace h := h.2 (is_dec.f hc)
      refine w_exit ?_
      refine then_exit ?_
      refine loop_exit ?_
      refine block_exit ?_
      refine then_norm ?_
      refine w_seq ?_
      refine w_run [0] ?_
      refine t_done [a0, b1, (.bool true), (.bool ((len2 : Int) != (len3 : Int))), (.int .i64 i8), (.bool (decide (i8 < (len11 : Int)))), d10] H (by kernel_rfl) ?_
      refine then_norm ?_
      refine w_ret ?_
      exact body_ret (vs := [(.bool true)]) _ (by kernel_rfl) rfl h

end Go.RM

/-
  The reference's functions on lists of numbers: what they return.
-/
namespace Go.RM
set_option linter.unusedSimpArgs false
set_option linter.unusedVariables false

abbrev i64 (n : Int) : AV := .int .i64 n
abbrev flt (c i : Int) : AV := .agg [.int .i64 c, .int .i64 i]

/-- One more, for a place in a list. -/
theorem wsucc {i n : Nat} (h : i < n) (hn : n ≤ 9223372036854775807) : IntKind.wrap .i64 ((i : Int) + 1) = ((i + 1 : Nat) : Int) := by
  rw [wrap64 (by omega) (by omega)]; omega
theorem wpred {i : Nat} (h : 0 < i) (hn : i ≤ 9223372036854775807) : IntKind.wrap .i64 ((i : Int) - 1) = ((i - 1 : Nat) : Int) := by
  rw [wrap64 (by omega) (by omega)]; omega

variable {F : Nat → Option RFunc}

abbrev FHasC (F : Nat → Option RFunc) (f : Nat) : Prop := ∀ {fl H Q v l n}, Ints H v l → Q (.bool (decide (n ∈ l))) H → Ret F fl f [v, i64 n] H Q

theorem mem_drop {n : Int} {l : List Int} {i : Nat} (h : i < l.length) : (n ∈ l.drop i) ↔ (l[i] = n ∨ n ∈ l.drop (i + 1)) := by
  rw [List.drop_eq_getElem_cons h, List.mem_cons, eq_comm]

theorem fHas_c {f : Nat} (hF : F f = some rf_FHas) : FHasC F f := fun {fl H Q v l n} hv hq => by
  refine v_FHas hF _ _ ?_
  have hs := hv.small
  refine ⟨fun m v => ∃ i : Nat, v = i ∧ i + m = l.length ∧ (n ∈ l ↔ n ∈ l.drop i), l.length, ⟨0, rfl, by omega, by simp⟩, ?_⟩
  rintro m _ ⟨i, rfl, hm, hi⟩
  refine ⟨_, hv.len, fun hlt => ?_, fun hge => ?_⟩
  · have hil : i < l.length := by omega
    refine ⟨_, hv.int hil, fun he => ?_, fun hne => ?_⟩
    · have : n ∈ l := hi.2 ((mem_drop hil).2 (.inl he))
      rw [decide_eq_true this] at hq; exact hq
    · refine ⟨m - 1, by omega, i + 1, wsucc hil hs, by omega, hi.trans ((mem_drop hil).trans ?_)⟩
      simp [hne]
  · have : ¬ n ∈ l := fun h => by
      have := hi.1 h
      rw [List.drop_eq_nil_of_le (by omega)] at this; cases this
    rw [decide_eq_false this] at hq; exact hq

abbrev FEqualIntsC (F : Nat → Option RFunc) (f : Nat) : Prop := ∀ {fl H Q a b l m}, Ints H a l → Ints H b m → Q (.bool (decide (l = m))) H → Ret F fl f [a, b] H Q
theorem fEqualInts_c {f : Nat} (hF : F f = some rf_FEqualInts) : FEqualIntsC F f := fun {fl H Q a b l m} ha hb hq => by
  refine v_FEqualInts hF _ _ ?_
  have hs := ha.small
  refine ⟨_, ha.len, _, hb.len, fun hne => ?_, fun he => ?_⟩
  · rw [decide_eq_false (fun h => hne (by rw [h]))] at hq; exact hq
  · have he : l.length = m.length := by omega
    refine ⟨fun k v => ∃ i : Nat, v = i ∧ i + k = l.length ∧ (l.take i = m.take i), l.length, ⟨0, rfl, by omega, by simp⟩, ?_⟩
    rintro k _ ⟨i, rfl, hk, hi⟩
    refine ⟨_, ha.len, fun hlt => ?_, fun hge => ?_⟩
    · have hil : i < l.length := by omega
      refine ⟨_, ha.int hil, _, hb.int (by omega), fun hne => ?_, fun heq => ?_⟩
      · rw [decide_eq_false (fun h => hne (by subst h; rfl))] at hq; exact hq
      · refine ⟨k - 1, by omega, i + 1, wsucc hil hs, by omega, ?_⟩
        have heq : l[i] = m[i] := by omega
        rw [List.take_succ_eq_append_getElem hil, List.take_succ_eq_append_getElem (by omega), hi, heq]
    · rw [List.take_of_length_le (by omega), List.take_of_length_le (by omega)] at hi
      rw [decide_eq_true hi] at hq; exact hq

end Go.RM

/-
  What math/bits and digest compute, as contracts.
-/
namespace Go.RM
set_option linter.unusedSimpArgs false
set_option linter.unusedVariables false
namespace Au
variable {F : Nat → Option RFunc}

abbrev U (n : Int) : AV := .int .u64 n

abbrev MulC (F : Nat → Option RFunc) (f : Nat) : Prop := ∀ {fl H Q a b}, 0 ≤ a → a < 18446744073709551616 → 0 ≤ b → b < 18446744073709551616 → Q (.tuple [U (a * b / 18446744073709551616), U (a * b % 18446744073709551616)]) H → Ret F fl f [U a, U b] H Q
theorem mul64_c {f : Nat} (hF : F f = some rf_mathbits_Mul64) : MulC F f := fun {fl H Q a b} a0 a1 b0 b1 hq => by
  refine v_mathbits_Mul64 hF _ _ ?_
  intro x2 h2 x3 h3 x4 h4 x5 h5 x6 h6 x7 h7 x8 h8 x9 h9 x10 h10
  rw [and32 a0 a1] at h2
  rw [and32 b0 b1] at h4
  rw [shr32] at h3 h5
  obtain ⟨q1, q2, q3, q4, q5, q6, q7, q8, q9⟩ := mul_hi (x0 := x2) (x1 := x3) (y0 := x4) (y1 := x5) (by omega) (by omega) (by omega) (by omega) (by omega) (by omega) (by omega) (by omega)
  rw [shr32, u64_in q2.1 q2.2, u64_in q1.1 q1.2, u64_in q5.1 q5.2] at h6
  rw [and32 (by rw [h6]; exact q5.1) (by rw [h6]; exact q5.2)] at h7
  rw [shr32] at h8
  rw [u64_in q3.1 q3.2, h7, h6, u64_in q6.1 q6.2] at h9
  have e : a * b = (x3 * 4294967296 + x2) * (x5 * 4294967296 + x4) := by
    congr 1 <;> omega
  rw [shr32, u64_in q4.1 q4.2, h9, h8, h6] at h10
  rw [u64_in (x := x3 * x5 + _) (by omega) (by omega), u64_in q7 q8, q9, ← e] at h10
  rw [h10, u64 (a * b)]
  exact hq

abbrev LenC (F : Nat → Option RFunc) (f : Nat) : Prop := ∀ {fl H Q} {n : Nat}, n < 256 → Q (i64 (blen n)) H → Ret F fl f [U n] H Q
abbrev LenMC (F : Nat → Option RFunc) (f : Nat) : Prop := ∀ {fl H Q}, Q (i64 61) H → Ret F fl f [U M] H Q

theorem len64_c {f : Nat} (hF : F f = some rf_mathbits_Len64) : LenC F f := fun {fl H Q n} hn hq => by
  refine v_mathbits_Len64 hF _ ?_
  refine ⟨fun h => by omega, fun _ => ⟨fun h => by omega, fun _ => ⟨fun h => by omega, fun _ => ⟨blen n, ⟨?_, ?_⟩, ?_⟩⟩⟩⟩
  · rw [u8_in (by omega) (by omega)]; omega
  · rw [u8_in (by omega) (by omega)]
    exact tab_get hn
  · have hb : blen n ≤ 8 := by
      unfold blen
      split
      · omega
      · have := Nat.log2_lt (n := n) (by omega) (k := 8) |>.2 (by omega)
        omega
    rw [wrap64 (n := ((blen n : Nat) : Int)) (by omega) (by omega), wrap64 (by omega) (by omega)]
    rw [show (0 : Int) + (blen n : Int) = (blen n : Int) by omega]
    exact hq

theorem len64M_c {f : Nat} (hF : F f = some rf_mathbits_Len64) : LenMC F f := fun {fl H Q} hq => by
  refine v_mathbits_Len64 hF _ ?_
  refine ⟨fun _ => ?_, fun h => absurd (by decide) h⟩
  intro x1 h1
  rw [shr32] at h1
  have h1 : x1 = 536870911 := by rw [h1]; decide
  subst h1
  refine ⟨fun _ => ?_, fun h => absurd (by decide) h⟩
  intro x2 h2
  have h2 : x2 = 8191 := by rw [h2]; decide
  subst h2
  refine ⟨fun _ => ?_, fun h => absurd (by decide) h⟩
  intro x3 h3
  have h3 : x3 = 31 := by rw [h3]; decide
  subst h3
  refine ⟨5, ⟨by decide, ?_⟩, ?_⟩
  · exact tab_get (n := 31) (by omega)
  · exact hq

theorem len_c {f n0 n1 : Nat} (hF : F f = some (rf_mathbits_Len n0 n1)) (h1 : LenC F n1) : LenC F f := fun {fl H Q n} hn hq => by
  refine v_mathbits_Len hF _ ?_
  exact h1 hn ⟨_, rfl, hq⟩

abbrev LzMC (F : Nat → Option RFunc) (f : Nat) : Prop := ∀ {fl H Q}, Q (i64 3) H → Ret F fl f [U M] H Q
theorem lzM_c {f n1 : Nat} (hF : F f = some (rf_mathbits_LeadingZeros64 n1)) (h1 : LenMC F n1) : LzMC F f := fun {fl H Q} hq => by
  refine v_mathbits_LeadingZeros64 hF _ ?_
  exact h1 ⟨_, rfl, hq⟩

/-- What is left of a division by M, of a number with a small upper half. -/
abbrev DivMC (F : Nat → Option RFunc) (f : Nat) : Prop := ∀ {fl H Q} {hi lo : Int}, 0 ≤ hi → hi < 1048576 → 0 ≤ lo → lo < 18446744073709551616 → (∀ q, Q (.tuple [U q, U ((hi * 18446744073709551616 + lo) % M)]) H) → Ret F fl f [U hi, U lo, U M] H Q
theorem divM_c {f n1 : Nat} (hF : F f = some (rf_mathbits_Div64 n1)) (h1 : LzMC F n1) : DivMC F f := fun {fl H Q hi lo} a0 a1 b0 b1 hq => by
  refine v_mathbits_Div64 hF _ _ _ ?_
  refine ⟨fun h => absurd h (by decide), fun _ => ⟨fun h => by simp only [M] at h; omega, fun _ => ⟨fun h => ?_, fun hne => ?_⟩⟩⟩
  · refine ⟨by decide, by decide, ?_⟩
    have := hq (IntKind.wrap .u64 (Int.tdiv lo M))
    rw [h] at this
    rw [Int.tmod_eq_emod_of_nonneg b0]
    simpa using this
  · refine h1 ⟨_, rfl, by decide, ?_⟩
    have w3 : IntKind.wrap .u64 3 = 3 := by decide
    have sh : Min.min (Int.toNat (IntKind.wrap .u64 3)) (IntKind.bits .u64) = 3 := by decide
    have sh2 : Min.min (Int.toNat (IntKind.wrap .u64 (64 - (IntKind.wrap .u64 3)))) (IntKind.bits .u64) = 61 := by decide
    rw [sh, sh2]
    intro x6 h6 x7 h7 x8 h8
    have h6 : x6 = 18446744073709551608 := by rw [h6]; decide
    subst h6
    have h7 : x7 = 4294967295 := by rw [h7]; decide
    have h8 : x8 = 4294967288 := by rw [h8]; decide
    subst h7 h8
    refine ⟨by decide, by decide, ?_⟩
    intro x9 h9
    have e1 : IntKind.wrap .u64 (hi * 2 ^ 3) = hi * 8 := by rw [u64_in (by omega) (by omega)]; rfl
    have e2 : Int.fdiv lo (2 ^ 61) = lo / 2305843009213693952 := by rw [Int.fdiv_eq_ediv_of_nonneg _ (by omega)]; rfl
    rw [e1, e2, or3 a0 (by omega) (by omega) (by omega)] at h9
    refine ⟨by decide, ?_⟩
    intro x10 h10 x11 h11 x12 h12
    have e3 : lo * (2 : Int) ^ 3 = lo * 8 := rfl
    rw [e3, u64] at h10
    rw [shr32] at h11
    rw [and32 (by omega) (by omega)] at h12
    refine ⟨by decide, ?_⟩
    intro x13 h13
    have t0 : Int.tdiv x9 4294967295 = 0 := by rw [Int.tdiv_eq_ediv_of_nonneg (by omega)]; omega
    have h13 : x13 = x9 := by
      rw [h13, t0]
      have : IntKind.wrap .u64 (IntKind.wrap .u64 0 * 4294967295) = 0 := by decide
      rw [this, u64_in (by omega) (by omega)]; omega
    subst h13
    rw [t0]
    refine ⟨fun m q r => q = 0 ∧ r = x13, 0, ⟨by decide, rfl⟩, ?_⟩
    rintro m q r ⟨rfl, hr⟩
    have hr := hr.symm
    subst hr
    refine ⟨fun hc => ?_, fun _ => ?_⟩
    · exfalso
      rcases hc with hc | hc
      · omega
      · rw [u64_in (x := 0 * 4294967288) (by omega) (by omega), u64_in (x := 4294967296 * x13) (by omega) (by omega), u64_in (by omega) (by omega)] at hc
        omega
    · intro x36 h36
      rw [u64_in (x := x13 * 4294967296) (by omega) (by omega), u64_in (x := x13 * 4294967296 + x11) (by omega) (by omega), u64_in (x := 0 * _) (by omega) (by omega), u64_in (by omega) (by omega)] at h36
      have h36 : x36 = x13 * 4294967296 + x11 := by omega
      refine ⟨by decide, ?_⟩
      intro x37 h37
      have q1 := Int.emod_add_mul_ediv x36 4294967295
      have q2 := Int.emod_lt_of_pos x36 (b := 4294967295) (by omega)
      have q3 := Int.emod_nonneg x36 (b := 4294967295) (by omega)
      have d0 : Int.tdiv x36 4294967295 = x36 / 4294967295 := Int.tdiv_eq_ediv_of_nonneg (by omega)
      rw [d0] at h37 ⊢
      generalize hq0 : x36 / 4294967295 = q0 at h37 q1 ⊢
      generalize x36 % 4294967295 = r0 at q1 q2 q3
      rw [u64_in (x := q0) (by omega) (by omega), u64_in (x := q0 * 4294967295) (by omega) (by omega), u64_in (by omega) (by omega)] at h37
      rw [u64_in (x := q0) (by omega) (by omega)]
      have h37 : x37 = r0 := by omega
      subst h37
      -- eight times the number
      generalize hV : hi * 18446744073709551616 + lo = V at hq
      have hN : x36 * 4294967296 + x12 = 8 * V := by omega
      have fin : ∀ q, 0 ≤ q → q * 18446744073709551608 ≤ 8 * V → 8 * V < (q + 1) * 18446744073709551608 → ∀ x, x = Int.fdiv (IntKind.wrap .u64 (IntKind.wrap .u64 (IntKind.wrap .u64 (x36 * 4294967296) + x12) - IntKind.wrap .u64 (q * 18446744073709551608))) (2 ^ 3) → x = V % M := by
        intro q g0 g1 g2 x hx
        have e := rem_of (V := V) (q := q) g1 g2
        rw [show q * (8 * M) = q * 18446744073709551608 from rfl] at e
        rw [hx, ← e, Int.fdiv_eq_ediv_of_nonneg _ (by decide)]
        congr 1
        rw [u64, u64, u64, u64]
        omega
      refine ⟨fun m rh q => q * 4294967295 + rh = x36 ∧ 0 ≤ rh ∧ rh < 4294967296 ∧ 0 ≤ q ∧ q ≤ q0 ∧ (m : Int) = q ∧ 8 * V < (q + 1) * 18446744073709551608, q0.toNat, ⟨by omega, by omega, by omega, by omega, by omega, by omega, by omega⟩, ?_⟩
      rintro m rh q ⟨g1, g2, g3, g4, g5, g6, g7⟩
      rw [u64_in (x := q * 4294967288) (by omega) (by omega), u64_in (x := 4294967296 * rh) (by omega) (by omega), u64_in (x := 4294967296 * rh + x12) (by omega) (by omega), u64_in (x := rh + 4294967295) (by omega) (by omega)]
      refine ⟨fun hc => ?_, fun hc => ?_⟩
      · have hc2 : q * 4294967288 > 4294967296 * rh + x12 := by
          rcases hc with hc | hc
          · omega
          · exact hc
        rw [u64_in (x := q - 1) (by omega) (by omega)]
        refine ⟨fun hge => ?_, fun hlt => ⟨m - 1, by omega, by omega, by omega, by omega, by omega, by omega, by omega, by omega⟩⟩
        refine ⟨by decide, ?_⟩
        intro x45 _ x46 h46
        rw [fin (q - 1) (by omega) (by omega) (by omega) x46 h46]
        exact hq _
      · have hc2 : q * 4294967288 ≤ 4294967296 * rh + x12 := by
          have : ¬ q * 4294967288 > 4294967296 * rh + x12 := fun h => hc (.inr h)
          omega
        refine ⟨by decide, ?_⟩
        intro x48 _ x49 h49
        rw [fin q (by omega) (by omega) (by omega) x49 h49]
        exact hq _

/-! ### Digests -/

abbrev DMulC (F : Nat → Option RFunc) (f : Nat) : Prop := ∀ {fl H Q a b}, 0 ≤ a → a < M → 0 ≤ b → b < 1048576 → Q (U (a * b % M)) H → Ret F fl f [U a, U b] H Q
theorem mul_c {f n1 n2 : Nat} (hF : F f = some (rf_digest_mul n1 n2)) (h1 : MulC F n1) (h2 : DivMC F n2) : DMulC F f := fun {fl H Q a b} a0 a1 b0 b1 hq => by
  refine v_digest_mul hF _ _ ?_
  have hm := Int.mul_le_mul (show a ≤ 2305843009213693951 by simp only [M] at a1; omega) (show b ≤ 1048576 by omega) b0 (by omega)
  have hm0 := Int.mul_nonneg a0 b0
  refine h1 a0 (by simp only [M] at a1; omega) b0 (by omega) ⟨_, _, rfl, ?_⟩
  generalize a * b = p at *
  rw [Int.tmod_eq_emod_of_nonneg (by omega), Int.emod_eq_of_lt (by omega) (by omega)]
  refine h2 (by omega) (by omega) (by omega) (by omega) fun q => ⟨_, _, rfl, ?_⟩
  rw [show p / 18446744073709551616 * 18446744073709551616 + p % 18446744073709551616 = p by omega]
  exact hq

abbrev PairC (F : Nat → Option RFunc) (f : Nat) : Prop := ∀ {fl H Q a b}, dig a = true → dig b = true → (∀ H', Keep H.length H H' → Q (.tuple [i64 (pairD a b), flt 0 0]) H') → Ret F fl f [i64 a, i64 b] H Q
theorem pair_c {f n1 : Nat} (hF : F f = some (rf_digest_Pair n1)) (h1 : DMulC F n1) : PairC F f := fun {fl H Q a b} ha hb hq => by
  obtain ⟨a0, a1⟩ := dig_iff.1 ha
  obtain ⟨b0, b1⟩ := dig_iff.1 hb
  refine v_digest_Pair hF _ _ ?_
  intro H2 d2
  refine ⟨fun m _ _ v9 => ∃ j : Nat, v9 = j ∧ j + m = 2, 2, ⟨0, rfl, rfl⟩, ?_⟩
  rintro m _ _ _ ⟨j, rfl, hm⟩
  refine ⟨fun hlt => ?_, fun _ => ?_⟩
  · have hj : j = 0 ∨ j = 1 := by omega
    rcases hj with rfl | rfl
    · refine ⟨by decide, a, rfl, fun hbad => ?_, fun _ => ⟨m - 1, by omega, 1, rfl, by omega⟩⟩
      exfalso; simp only [M] at a1; omega
    · refine ⟨by decide, b, rfl, fun hbad => ?_, fun _ => ⟨m - 1, by omega, 2, rfl, by omega⟩⟩
      exfalso; simp only [M] at b1; omega
  · have e1 : IntKind.wrap .u64 a = a := u64_in a0 (by simp only [M] at a1; omega)
    have e2 : IntKind.wrap .u64 b = b := u64_in b0 (by simp only [M] at b1; omega)
    rw [e1, e2]
    have m1 : 0 ≤ a * 1000003 % M ∧ a * 1000003 % M < M := ⟨Int.emod_nonneg _ (by decide), Int.emod_lt_of_pos _ (by decide)⟩
    have m2 : 0 ≤ b * 31 % M ∧ b * 31 % M < M := ⟨Int.emod_nonneg _ (by decide), Int.emod_lt_of_pos _ (by decide)⟩
    refine h1 a0 a1 (by decide) (by decide) ⟨_, rfl, ?_⟩
    refine h1 b0 b1 (by decide) (by decide) ⟨_, rfl, ?_⟩
    have := hq H2 d2.keep
    unfold pairD at this
    generalize a * 1000003 % M = r at *
    generalize b * 31 % M = s at *
    simp only [M] at *
    rw [u64_in (x := r + s) (by omega) (by omega), u64_in (by omega) (by omega), Int.tmod_eq_emod_of_nonneg (by omega), wrap64 (by omega) (by omega)]
    exact this

end Au
end Go.RM

/-
  Records and logs: what the program and the reference compute, as contracts.
-/
namespace Go.RM
set_option linter.unusedSimpArgs false
set_option linter.unusedVariables false
namespace Au
variable {F : Nat → Option RFunc}

abbrev recV (r : Rec) : AV := .agg [i64 r.t, i64 r.u, i64 r.a, i64 r.c]
def tRec : Ty Rec := tEnc 4 (fun x => [i64 x.t, i64 x.u, i64 x.a, i64 x.c]) (by decide) (fun _ => rfl) (fun _ => rfl)
theorem tRec_plain : tRec.Plain := fun h => h

abbrev DigC (F : Nat → Option RFunc) (f : Nat) : Prop := ∀ {fl H Q d}, Q (.bool (dig d)) H → Ret F fl f [i64 d] H Q
theorem isDigest_c {f : Nat} (hF : F f = some rf_signing_IsDigest) : DigC F f := fun {fl H Q d} hq => by
  refine v_signing_IsDigest hF _ ?_
  exact hq

abbrev InRC (F : Nat → Option RFunc) (f : Nat) : Prop := ∀ {fl H Q t u a c}, (∀ H', Keep H.length H H' → Q (.bool (inR ⟨t, u, a, c⟩)) H') → Ret F fl f [.agg [i64 t, i64 u, i64 a, i64 c]] H Q
theorem inRange_c {f n1 : Nat} (hF : F f = some (rf_audit_inRange n1)) (h1 : DigC F n1) : InRC F f := fun {fl H Q t u a c} hq => by
  refine v_audit_inRange hF _ _ _ _ ?_
  intro H4 d4
  refine ⟨fun h => h1 ⟨_, rfl, ?_⟩, fun h => ?_⟩
  · have e : inR ⟨t, u, a, c⟩ = dig c := by
      rw [Bool.eq_iff_iff, inR_iff]
      simp only
      constructor
      · rintro ⟨_, _, _, _, _, _, h⟩; exact h
      · intro hd; exact ⟨by omega, by omega, by omega, by omega, by omega, by omega, hd⟩
    rw [← e]; exact hq H4 d4.keep
  · have e : inR ⟨t, u, a, c⟩ = false := by
      rw [Bool.eq_false_iff]
      intro hi
      obtain ⟨g1, g2, g3, g4, g5, g6, _⟩ := inR_iff.1 hi
      simp only at g1 g2 g3 g4 g5 g6
      exact h ⟨⟨⟨⟨⟨by omega, by omega⟩, by omega⟩, by omega⟩, by omega⟩, by omega⟩
    have := hq H4 d4.keep
    rw [e] at this; exact this

theorem recordValid_c {f : Nat} (hF : F f = some rf_FRecordValid) : InRC F f := fun {fl H Q t u a c} hq => by
  refine v_FRecordValid hF _ _ _ _ ?_
  intro H4 d4
  have := hq H4 d4.keep
  have e : inR ⟨t, u, a, c⟩ = ((((((((decide (t ≥ 0)) && (decide (t ≤ 100000))) && (decide (u ≥ 0))) && (decide (u ≤ 7))) && (decide (a ≥ 0))) && (decide (a ≤ 1000000000))) && (decide (c ≥ 0))) && (decide (c < 2305843009213693951))) := by
    rw [Bool.eq_iff_iff, inR_iff, dig_iff]
    simp only [Bool.and_eq_true, decide_eq_true_eq, M]
    omega
  rw [← e]; exact this

/-- Both: the digest of a record after a digest. -/
abbrev ChainC (F : Nat → Option RFunc) (f : Nat) : Prop := ∀ {fl H Q b} {r : Rec}, fl ≤ H.length → dig b = true → (0 ≤ r.t ∧ r.t ≤ 100000 ∧ 0 ≤ r.u ∧ r.u ≤ 7 ∧ 0 ≤ r.a ∧ r.a ≤ 1000000000) → (∀ H', Keep H.length H H' → Q (i64 (chainD b r)) H') → Ret F fl f [i64 b, recV r] H Q
theorem chain_c {f n1 : Nat} (hF : F f = some (rf_audit_chain n1)) (h1 : PairC F n1) : ChainC F f := fun {fl H Q b r} hfl hb hr hq => by
  obtain ⟨g1, g2, g3, g4, g5, g6⟩ := hr
  refine v_audit_chain hF _ _ _ _ _ ?_
  intro H5 d5
  rw [wrap64 (n := r.t * 8) (by omega) (by omega), wrap64 (by omega) (by omega), show r.t * 8 + r.u = 8 * r.t + r.u by omega]
  refine h1 hb (dig_iff.2 ⟨by omega, by simp only [M]; omega⟩) fun H9 k9 => ⟨_, _, _, rfl, ?_⟩
  intro b11 H12 n12
  have k9' := d5.keep.call k9
  obtain ⟨H13, p1, p2, p3⟩ := Box.put (fl := fl) (v := .agg [i64 0, i64 0]) (n := 2) (o := 0) n12.box rfl (by decide) rfl (by rw [n12.b_eq]; exact Nat.le_trans hfl k9'.len)
  refine ⟨H13, p1, ?_⟩
  have kx : Keep H.length H H13 := (k9'.call n12.keep).tr (p3.keep (by rw [n12.b_eq]; exact k9'.len) (Nat.le_trans k9'.len n12.keep.len))
  refine h1 (pairD_dig _ _) (dig_iff.2 ⟨by omega, by simp only [M]; omega⟩) fun H17 k17 => ⟨_, _, _, rfl, ?_⟩
  exact hq H17 (kx.call k17)

abbrev LogC (F : Nat → Option RFunc) (f : Nat) : Prop := ∀ {fl H Q v} {l : List Rec}, Arr tRec H v l → fl ≤ H.length → (∀ H', Keep H.length H H' → Q (flt (logF l).1 (logF l).2) H') → Ret F fl f [v] H Q
theorem validate_c {f n1 n2 : Nat} (hF : F f = some (rf_audit_Validate n1 n2)) (h1 : InRC F n1) (h2 : ChainC F n2) : LogC F f := fun {fl H Q v l} hv hfl hq => by
  refine v_audit_Validate hF _ ?_
  intro H1 d1
  refine ⟨_, hv.len, fun hgt => ?_, fun hle => ⟨_, hv.len, ?_⟩⟩
  · have := hq H1 d1.keep
    unfold logF at this
    rw [if_pos (by omega)] at this; exact this
  unfold logF at hq
  rw [if_neg (by omega)] at hq
  refine ⟨fun m _ _ v9 t b H' => ∃ j : Nat, v9 = j ∧ j + m = l.length ∧ Keep H.length H H' ∧ dig b = true ∧ vf j b t (l.drop j) = vf 0 0 0 l, l.length, ⟨0, rfl, by omega, d1.keep, by decide, by rw [List.drop_zero]⟩, ?_⟩
  rintro m _ _ _ t b H' ⟨j, rfl, hm, hk, hb, he⟩
  refine ⟨fun hlt => ?_, fun hge => ?_⟩
  · have hj : j < l.length := by omega
    rw [List.drop_eq_getElem_cons hj, vf] at he
    refine ⟨_, _, _, _, (hv.keep hk).enc hj, ?_⟩
    intro H24 d24
    have k24 := hk.call d24.keep
    refine h1 fun H26 k26 => ⟨_, rfl, fun hno => ?_, fun hyes => ?_⟩
    · have := hq H26 (k24.call k26)
      rw [← he, if_neg hno] at this; exact this
    · have hin : inR l[j] = true := by simpa using hyes
      rw [if_pos hin] at he
      refine ⟨fun hlt2 => ?_, fun hge2 => ?_⟩
      · have := hq H26 (k24.call k26)
        rw [← he, if_pos hlt2] at this; exact this
      · rw [if_neg hge2] at he
        obtain ⟨g1, g2, g3, g4, g5, g6, g7⟩ := inR_iff.1 hin
        refine h2 (r := l[j]) (Nat.le_refl _) hb ⟨g1, g2, g3, g4, g5, g6⟩ fun H29 k29 => ⟨_, rfl, fun hne => ?_, fun heq => ⟨m - 1, by omega, j + 1, wsucc hj hv.small, by omega, (k24.call k26).call k29, g7, ?_⟩⟩
        · have := hq H29 ((k24.call k26).call k29)
          rw [← he, if_neg hne] at this; exact this
        · rw [← he, if_pos (by omega)]
  · rw [List.drop_eq_nil_of_le (by omega), vf] at he
    have := hq H' hk
    rw [← he] at this; exact this

end Au
end Go.RM

/-
  Append, Query, Fork and their like, as contracts.
-/
namespace Go.RM
set_option linter.unusedSimpArgs false
set_option linter.unusedVariables false
namespace Au
variable {F : Nat → Option RFunc}

abbrev CloneRC (F : Nat → Option RFunc) (f : Nat) : Prop := ∀ {fl H Q v} {l : List Rec}, Arr tRec H v l → l.length ≤ 2 ^ 20 → (∀ w H', Keep H.length H H' → Acc H tRec H' w l → Q w H') → Ret F fl f [v] H Q
theorem cloneR_c {f : Nat} (hF : F f = some rf_slices_Clone__api_Record_api_Record) : CloneRC F f := fun {fl H Q v l} hv hl hq => by
  obtain ⟨css, h1, h2⟩ := hv
  obtain ⟨c1, c2⟩ := sl_cells h2
  by_cases h0 : l.length = 0
  · obtain rfl := List.eq_nil_of_length_eq_zero h0
    refine ret_prim (v := .empty) (H' := H) hF rfl ?_ (hq .empty H (Keep.refl H) Acc.nil)
    show rclone 4 32 H v = _
    unfold rclone; rw [c1]; rfl
  · have hlen : css.flatten.length = l.length * tRec.e := by rw [flat_len h1.lens, h1.len]
    refine ret_prim (v := .slice H.length 0 l.length none) (H' := H ++ [{ cells := css.flatten, e := 4 }]) hF rfl ?_ (hq _ _ (Keep.app _ _) ⟨css, h1, ⟨by omega, .inr ⟨H.length, 0, none, { cells := css.flatten, e := 4 }, rfl, Nat.le_refl _, snoc_end _ _, rfl, rfl, by simp [hlen], by rw [List.drop_zero, ← hlen, List.take_length], .inl ⟨rfl, by simp [hlen]⟩⟩⟩⟩)
    show rclone 4 32 H v = _
    unfold rclone; rw [c1]
    simp only
    rw [if_neg h0, if_pos ⟨by decide, by omega, by omega⟩]
    have c2' : sliceCells H 4 l.length v = some css.flatten := c2
    rw [c2']
    rfl

abbrev AppendC (F : Nat → Option RFunc) (f : Nat) : Prop := ∀ {fl H Q v t u a} {l : List Rec}, Arr tRec H v l → fl ≤ H.length →
  (∀ w H', Keep H.length H H' → Acc H tRec H' w (appR l t u a) → Q (.tuple [w, flt (appF l t u a).1 (appF l t u a).2]) H') → Ret F fl f [v, i64 t, i64 u, i64 a] H Q
theorem append_c {f n1 n2 n3 n4 : Nat} (hF : F f = some (rf_audit_Append n1 n2 n3 n4)) (h1 : LogC F n1) (h2 : InRC F n2) (h3 : ChainC F n3) (h4 : CloneRC F n4) : AppendC F f := fun {fl H Q v t u a l} hv hfl hq => by
  refine v_audit_Append hF _ _ _ _ ?_
  intro H4 d4
  refine h1 (hv.keep d4.keep) (Nat.le_trans hfl d4.keep.len) fun H7 k7 => ⟨_, _, rfl, ?_⟩
  intro H9 d9
  have k9 := (d4.keep.call k7).call d9.keep
  have bad : ∀ p, appF l t u a = p → p ≠ (0, 0) → ∀ H', Keep H.length H H' → Q (.tuple [.empty, flt p.1 p.2]) H' := fun p e hp H' k => by
    have := hq .empty H' k
    unfold appR at this
    rw [e, if_neg hp] at this
    exact this Acc.nil
  refine ⟨fun hne => ?_, fun heq => ?_⟩
  · refine bad _ ?_ (pair_ne hne) H9 k9
    unfold appF; rw [if_neg (pair_ne hne)]
  · have hlog := pair_eq heq
    have hin := logF_in hlog
    have hlen := (logF_ok hlog).1
    intro H10 d10 H11 d11
    have k11 := (k9.call d10.keep).call d11.keep
    refine ⟨fun x1 x2 x3 x4 => x1 = (lastR l).t ∧ x4 = (lastR l).c, ⟨_, hv.len, fun hpos => ?_, fun hnp => ?_⟩, ?_⟩
    · have hl1 : l.length - 1 < l.length := by omega
      have e : IntKind.wrap .i64 ((l.length : Int) - 1) = ((l.length - 1 : Nat) : Int) := wpred (by omega) hv.small
      refine ⟨_, hv.len, ?_⟩
      rw [e]
      refine ⟨_, _, _, _, (hv.keep k11).enc hl1, ?_⟩
      unfold lastR
      rw [List.getLast?_eq_getElem?, List.getElem?_eq_getElem hl1]
      exact ⟨rfl, rfl⟩
    · obtain rfl := List.eq_nil_of_length_eq_zero (show l.length = 0 by omega)
      exact ⟨rfl, rfl⟩
    · rintro _ _ _ _ ⟨rfl, rfl⟩
      refine h2 fun H26 k26 => ⟨_, rfl, fun hno => ?_, fun hyes => ?_⟩
      · refine bad (3, -2) ?_ (by decide) H26 (k11.call k26)
        unfold appF; rw [if_pos hlog, if_neg hno]
      · have hyes : inR ⟨t, u, a, 0⟩ = true := by simpa using hyes
        refine ⟨fun hlt => ?_, fun hge => ?_⟩
        · refine bad (16, -2) ?_ (by decide) H26 (k11.call k26)
          unfold appF; rw [if_pos hlog, if_pos hyes, if_pos hlt]
        · refine ⟨_, hv.len, fun h40 => ?_, fun hn40 => ?_⟩
          · refine bad (14, -2) ?_ (by decide) H26 (k11.call k26)
            unfold appF; rw [if_pos hlog, if_pos hyes, if_neg hge, if_pos (by omega)]
          · have k26' := k11.call k26
            obtain ⟨g1, g2, g3, g4, g5, g6, g7⟩ := inR_iff.1 hyes
            have hF0 : appF l t u a = (0, 0) := by unfold appF; rw [if_pos hlog, if_pos hyes, if_neg hge, if_neg (by omega)]
            refine h3 (r := ⟨t, u, a, 0⟩) (Nat.le_trans hfl k26'.len) (lastR_dig hin) ⟨g1, g2, g3, g4, g5, g6⟩ fun H30 k30 => ⟨_, rfl, ?_⟩
            have k30' := k26'.call k30
            refine h4 (hv.keep k30') (by omega) fun w H33 k33 hw => ?_
            intro b35 H36 n36
            have k33' := k30'.call k33
            obtain ⟨v37, H38, p1, p2, p3, _⟩ := (Acc.of tRec_plain k30'.len hw).push (a := newR l t u a) (fl := fl) (free := true) (bytes := 32) rfl n36 k33' hfl (by omega) (by decide)
            refine ⟨v37, H38, p1, ?_⟩
            have := hq v37 H38 p3
            unfold appR at this
            rw [hF0, if_pos rfl] at this
            exact this p2

abbrev QueryC (F : Nat → Option RFunc) (f : Nat) : Prop := ∀ {fl H Q v u a b} {l : List Rec}, Arr tRec H v l → fl ≤ H.length →
  (∀ w H', Keep H.length H H' → Acc H tInt H' w (qR l u a b) → Q (.tuple [w, flt (qF l u).1 (qF l u).2]) H') → Ret F fl f [v, i64 u, i64 a, i64 b] H Q
theorem query_c {f n1 : Nat} (hF : F f = some (rf_audit_Query n1)) (h1 : LogC F n1) : QueryC F f := fun {fl H Q v u a b l} hv hfl hq => by
  refine v_audit_Query hF _ _ _ _ ?_
  intro H4 d4
  refine h1 (hv.keep d4.keep) (Nat.le_trans hfl d4.keep.len) fun H7 k7 => ⟨_, _, rfl, ?_⟩
  intro H9 d9
  have k9 := (d4.keep.call k7).call d9.keep
  refine ⟨fun x y => x = (qF l u).1 ∧ y = (qF l u).2, ⟨fun hc => ?_, fun hc => ?_⟩, ?_⟩
  · have hlog : logF l = (0, 0) := pair_eq (fun h => h hc.1)
    unfold qF
    rw [if_pos hlog, if_pos hc.2]
    exact ⟨rfl, rfl⟩
  · unfold qF
    split
    · rename_i hlog
      rw [if_neg (fun h => hc ⟨by rw [hlog]; exact ⟨rfl, rfl, trivial⟩, h⟩), hlog]
      exact ⟨rfl, rfl⟩
    · exact ⟨rfl, rfl⟩
  · rintro _ _ ⟨rfl, rfl⟩
    refine ⟨fun hne => ?_, fun heq => ?_⟩
    · have := hq .empty H9 k9
      unfold qR at this
      rw [if_neg (pair_ne hne)] at this
      exact this Acc.nil
    · have h0 := pair_eq heq
      unfold qR at hq
      rw [if_pos h0] at hq
      have hlog : logF l = (0, 0) := by
        unfold qF at h0
        split at h0
        · assumption
        · exact h0
      have hlen := (logF_ok hlog).1
      refine ⟨_, hv.len, fun m out v19 H' => ∃ (j : Nat) (acc : List Int), v19 = j ∧ j + m = l.length ∧ Keep H.length H H' ∧ Acc H tInt H' out acc ∧ acc.length ≤ j ∧ acc ++ qIdx u a b (l.drop j) j = qIdx u a b l 0, l.length, ⟨0, [], rfl, by omega, k9, Acc.nil, by simp, by rw [List.drop_zero]; rfl⟩, ?_⟩
      rintro m out _ H' ⟨j, acc, rfl, hm, hk, ho, hle, he⟩
      refine ⟨fun hlt => ?_, fun hge => ?_⟩
      · have hj : j < l.length := by omega
        rw [List.drop_eq_getElem_cons hj, qIdx] at he
        refine ⟨_, _, _, _, (hv.keep hk).enc hj, ?_⟩
        intro H30 d30
        have k30 := hk.call d30.keep
        refine ⟨fun hc => ?_, fun hc => ?_⟩
        · intro b31 H32 n32
          obtain ⟨v33, H34, p1, p2, p3, _⟩ := (ho.keep d30.keep).push (a := (j : Int)) (fl := fl) (free := true) (bytes := 8) rfl n32 k30 hfl (by omega) (by decide)
          refine ⟨v33, H34, p1, m - 1, by omega, j + 1, acc ++ [(j : Int)], wsucc hj hv.small, by omega, p3, p2, by simp; omega, ?_⟩
          rw [if_pos (by simp only [ask, Bool.and_eq_true, Bool.or_eq_true, decide_eq_true_eq]; omega)] at he
          rw [← he]; simp
        · refine ⟨m - 1, by omega, j + 1, acc, wsucc hj hv.small, by omega, k30, ho.keep d30.keep, by omega, ?_⟩
          rw [if_neg (by simp only [ask, Bool.and_eq_true, Bool.or_eq_true, decide_eq_true_eq]; omega)] at he
          exact he
      · rw [List.drop_eq_nil_of_le (by omega), qIdx, List.append_nil] at he
        rw [he] at ho
        exact hq out H' hk ho

abbrev ForkC (F : Nat → Option RFunc) (f : Nat) : Prop := ∀ {fl H Q v w} {a b : List Rec}, Arr tRec H v a → Arr tRec H w b → fl ≤ H.length →
  (∀ H', Keep H.length H H' → Q (.tuple [i64 (forkR a b), flt (forkF a b).1 (forkF a b).2]) H') → Ret F fl f [v, w] H Q
theorem fork_c {f n1 : Nat} (hF : F f = some (rf_audit_Fork n1)) (h1 : LogC F n1) : ForkC F f := fun {fl H Q v w a b} hv hw hfl hq => by
  refine v_audit_Fork hF _ _ ?_
  intro H2 d2
  refine h1 (hv.keep d2.keep) (Nat.le_trans hfl d2.keep.len) fun H5 k5 => ⟨_, _, rfl, ?_⟩
  intro H7 d7
  have k7 := (d2.keep.call k5).call d7.keep
  have hF0 : ∀ p, forkF a b = p → p ≠ (0, 0) → ∀ H', Keep H.length H H' → Q (.tuple [i64 0, flt p.1 p.2]) H' := fun p e hp H' k => by
    have := hq H' k
    unfold forkR at this
    rw [e, if_neg hp] at this
    exact this
  refine ⟨fun hne => hF0 _ (by unfold forkF; rw [if_neg (pair_ne hne)]) (pair_ne hne) H7 k7, fun heq => ?_⟩
  have ha := pair_eq heq
  refine h1 (hw.keep k7) (Nat.le_trans hfl k7.len) fun H10 k10 => ⟨_, _, rfl, ?_⟩
  intro H12 d12
  have k12 := (k7.call k10).call d12.keep
  refine ⟨fun hne => hF0 ((logF b).1, -2) (by unfold forkF; rw [if_pos ha, if_neg (pair_ne hne)]) (by simp) H12 k12, fun heq2 => ?_⟩
  have hb := pair_eq heq2
  have hf : forkF a b = (0, 0) := by unfold forkF; rw [if_pos ha, if_pos hb]
  unfold forkR at hq
  rw [hf, if_pos rfl] at hq
  have la := (logF_ok ha).1
  refine ⟨fun m n => ∃ j : Nat, n = j ∧ j + m = a.length ∧ pre a b = j + pre (a.drop j) (b.drop j), a.length, ⟨0, rfl, by omega, by simp⟩, ?_⟩
  rintro m _ ⟨j, rfl, hm, he⟩
  refine ⟨_, hv.len, _, hw.len, fun hlt => ?_, fun hge => ?_⟩
  · have hlt2 : (j : Int) < a.length ∧ (j : Int) < b.length := by
      unfold imin at hlt; split at hlt <;> omega
    have h1j : j < a.length := by omega
    have h2j : j < b.length := by omega
    rw [List.drop_eq_getElem_cons h1j, List.drop_eq_getElem_cons h2j, pre] at he
    refine ⟨_, _, _, _, (hv.keep k12).enc h1j, _, _, _, _, (hw.keep k12).enc h2j, fun hc => ?_, fun hc => ?_⟩
    · refine ⟨m - 1, by omega, j + 1, wsucc h1j hv.small, by omega, ?_⟩
      have : a[j] = b[j] := by
        have e1 := hc.1; have e2 := hc.2.1; have e3 := hc.2.2.1; have e4 := hc.2.2.2.1
        cases ha : a[j]; cases hb : b[j]
        rw [ha, hb] at e1 e2 e3 e4
        simp only at e1 e2 e3 e4
        rw [e1, e2, e3, e4]
      rw [if_pos this] at he
      omega
    · rw [if_neg (fun e => hc (by rw [e]; exact ⟨rfl, rfl, rfl, rfl, trivial⟩))] at he
      have := hq H12 k12
      rw [he] at this; exact this
  · have hend : a.drop j = [] ∨ b.drop j = [] := by
      by_cases h : j < a.length
      · right; exact List.drop_eq_nil_of_le (by unfold imin at hge; split at hge <;> omega)
      · left; exact List.drop_eq_nil_of_le (by omega)
    have h0 : pre (a.drop j) (b.drop j) = 0 := by
      rcases hend with e | e
      · rw [e]; simp [pre]
      · rw [e]; cases a.drop j <;> simp [pre]
    have := hq H12 k12
    rw [he, h0] at this; exact this

/-- Both: the digests of a log. -/
abbrev ChainsC (F : Nat → Option RFunc) (f : Nat) : Prop := ∀ {fl H Q v} {l : List Rec}, Arr tRec H v l → fl ≤ H.length → l.length ≤ 2 ^ 20 → (∀ w H', Keep H.length H H' → Acc H tInt H' w (l.map (·.c)) → Q w H') → Ret F fl f [v] H Q
theorem chains_c {f : Nat} (hF : F f = some rf_audit_chains) : ChainsC F f := fun {fl H Q v l} hv hfl hl hq => by
  refine v_audit_chains hF _ ?_
  refine ⟨_, hv.len, fun m i out H' => ∃ j : Nat, i = j ∧ j + m = l.length ∧ Keep H.length H H' ∧ Acc H tInt H' out ((l.take j).map (·.c)), l.length, ⟨0, rfl, by omega, Keep.refl H, Acc.nil⟩, ?_⟩
  rintro m _ out H' ⟨j, rfl, hm, hk, ho⟩
  refine ⟨fun hlt => ?_, fun hge => ?_⟩
  · have hj : j < l.length := by omega
    refine ⟨_, _, _, _, (hv.keep hk).enc hj, ?_⟩
    intro H15 d15 b16 H17 n17
    obtain ⟨v18, H19, p1, p2, p3, _⟩ := (ho.keep d15.keep).push (a := l[j].c) (fl := fl) (free := true) (bytes := 8) rfl n17 (hk.call d15.keep) hfl (by simp; omega) (by decide)
    refine ⟨v18, H19, p1, m - 1, by omega, j + 1, wsucc hj hv.small, by omega, p3, ?_⟩
    rw [List.take_succ_eq_append_getElem hj, List.map_append]; exact p2
  · rw [List.take_of_length_le (by omega)] at ho
    exact hq out H' hk ho

end Au
end Go.RM

/-
  The tree over a list of digests: its root, a leaf's proof, and what a proof implies.
-/
namespace Go.RM
set_option linter.unusedSimpArgs false
set_option linter.unusedVariables false
namespace Au

/-- The largest power of two below a number. -/
def splitP (n : Nat) : Nat := 2 ^ (blen (n - 1) - 1)

theorem split_all : (List.range 65).all (fun n => decide (n < 2) || (decide (1 ≤ splitP n) && decide (splitP n < n) && decide (1 ≤ blen (n - 1)) && decide (blen (n - 1) ≤ 7))) = true := by decide +kernel
theorem split_in {n : Nat} (h1 : 2 ≤ n) (h2 : n ≤ 64) : (1 ≤ splitP n ∧ splitP n < n) ∧ 1 ≤ blen (n - 1) ∧ blen (n - 1) ≤ 7 := by
  have := List.all_eq_true.1 split_all n (List.mem_range.2 (by omega))
  simp only [Bool.or_eq_true, Bool.and_eq_true, decide_eq_true_eq] at this
  omega

/-- The root of a list; the number bounds its length. -/
def rootN : Nat → List Int → Int
  | 0, _ => 0
  | m + 1, l =>
    if l.length = 0 then 0
    else if l.length = 1 then l.headD 0
    else pairD (rootN m (l.take (splitP l.length))) (rootN m (l.drop (splitP l.length)))
def rootP (l : List Int) : Int := rootN 64 l

def nextP : List Int × Bool → Int × (List Int × Bool)
  | ([], _) => (0, ([], false))
  | (d :: p, ok) => (d, (p, ok))

def incN : Nat → Nat → Nat → Int → List Int × Bool → Int × (List Int × Bool)
  | 0, _, _, leaf, s => (leaf, s)
  | m + 1, n, i, leaf, s =>
    if n ≤ 1 then (leaf, s)
    else if i < splitP n then
      (pairD (incN m (splitP n) i leaf s).1 (nextP (incN m (splitP n) i leaf s).2).1, (nextP (incN m (splitP n) i leaf s).2).2)
    else
      (pairD (nextP (incN m (n - splitP n) (i - splitP n) leaf s).2).1 (incN m (n - splitP n) (i - splitP n) leaf s).1, (nextP (incN m (n - splitP n) (i - splitP n) leaf s).2).2)
def incP (n i : Nat) (leaf : Int) (s : List Int × Bool) : Int × (List Int × Bool) := incN 64 n i leaf s

theorem rootN_eq : ∀ {m k : Nat} {l : List Int}, l.length ≤ m → l.length ≤ k → l.length ≤ 64 → rootN m l = rootN k l := by
  intro m
  induction m with
  | zero => intro k l h1 h2 _
            have : l.length = 0 := by omega
            cases k with
            | zero => rfl
            | succ k => rw [rootN, rootN, if_pos this]
  | succ m ih =>
    intro k l h1 h2 h3
    cases k with
    | zero => rw [rootN, rootN, if_pos (by omega)]
    | succ k =>
      rw [rootN, rootN]
      split
      · rfl
      · split
        · rfl
        · obtain ⟨⟨s1, s2⟩, _⟩ := split_in (n := l.length) (by omega) h3
          rw [ih (k := k) (l := l.take (splitP l.length)) (by simp; omega) (by simp; omega) (by simp; omega), ih (k := k) (l := l.drop (splitP l.length)) (by simp; omega) (by simp; omega) (by simp; omega)]

theorem rootP_one {l : List Int} (h : l.length = 1) : rootP l = l.headD 0 := by
  unfold rootP
  rw [rootN, if_neg (by omega), if_pos h]
theorem rootP_two {l : List Int} (h1 : 2 ≤ l.length) (h2 : l.length ≤ 64) : rootP l = pairD (rootP (l.take (splitP l.length))) (rootP (l.drop (splitP l.length))) := by
  obtain ⟨⟨s1, s2⟩, _⟩ := split_in (n := l.length) h1 h2
  unfold rootP
  rw [rootN, if_neg (by omega), if_neg (by omega), rootN_eq (k := 64) (m := 63) (l := l.take (splitP l.length)) (by simp; omega) (by simp; omega) (by simp; omega), rootN_eq (k := 64) (m := 63) (l := l.drop (splitP l.length)) (by simp; omega) (by simp; omega) (by simp; omega)]

theorem incN_eq : ∀ {m k n i : Nat} {leaf : Int} {s : List Int × Bool}, n ≤ m → n ≤ k → n ≤ 64 → incN m n i leaf s = incN k n i leaf s := by
  intro m
  induction m with
  | zero => intro k n i leaf s h1 h2 _
            cases k with
            | zero => rfl
            | succ k => rw [incN, incN, if_pos (by omega)]
  | succ m ih =>
    intro k n i leaf s h1 h2 h3
    cases k with
    | zero => rw [incN, incN, if_pos (by omega)]
    | succ k =>
      rw [incN, incN]
      split
      · rfl
      · obtain ⟨⟨s1, s2⟩, _⟩ := split_in (n := n) (by omega) h3
        rw [ih (k := k) (n := splitP n) (by omega) (by omega) (by omega), ih (k := k) (n := n - splitP n) (by omega) (by omega) (by omega)]

theorem incP_one {n i : Nat} {leaf : Int} {s : List Int × Bool} (h : n ≤ 1) : incP n i leaf s = (leaf, s) := by
  unfold incP; rw [incN, if_pos h]
theorem incP_left {n i : Nat} {leaf : Int} {s : List Int × Bool} (h1 : 2 ≤ n) (h2 : n ≤ 64) (hi : i < splitP n) : incP n i leaf s = (pairD (incP (splitP n) i leaf s).1 (nextP (incP (splitP n) i leaf s).2).1, (nextP (incP (splitP n) i leaf s).2).2) := by
  obtain ⟨⟨s1, s2⟩, _⟩ := split_in (n := n) h1 h2
  unfold incP
  rw [incN, if_neg (by omega), if_pos hi, incN_eq (m := 63) (k := 64) (by omega) (by omega) (by omega)]
theorem incP_right {n i : Nat} {leaf : Int} {s : List Int × Bool} (h1 : 2 ≤ n) (h2 : n ≤ 64) (hi : ¬ i < splitP n) : incP n i leaf s = (pairD (nextP (incP (n - splitP n) (i - splitP n) leaf s).2).1 (incP (n - splitP n) (i - splitP n) leaf s).1, (nextP (incP (n - splitP n) (i - splitP n) leaf s).2).2) := by
  obtain ⟨⟨s1, s2⟩, _⟩ := split_in (n := n) h1 h2
  unfold incP
  rw [incN, if_neg (by omega), if_neg hi, incN_eq (m := 63) (k := 64) (by omega) (by omega) (by omega)]

theorem rootN_dig : ∀ {m : Nat} {l : List Int}, (∀ x ∈ l, dig x = true) → dig (rootN m l) = true := by
  intro m
  induction m with
  | zero => intro l _; rfl
  | succ m ih =>
    intro l h
    rw [rootN]
    split
    · rfl
    · split
      · cases l with
        | nil => rfl
        | cons x l => exact h x (by simp)
      · exact pairD_dig _ _
theorem rootP_dig {l : List Int} (h : ∀ x ∈ l, dig x = true) : dig (rootP l) = true := rootN_dig h

def digs (s : List Int × Bool) : Prop := ∀ x ∈ s.1, dig x = true
theorem nextP_dig {s : List Int × Bool} (h : digs s) : dig (nextP s).1 = true ∧ digs (nextP s).2 := by
  obtain ⟨p, ok⟩ := s
  cases p with
  | nil => exact ⟨rfl, fun x hx => by cases hx⟩
  | cons d p => exact ⟨h d (by simp), fun x hx => h x (List.mem_cons_of_mem _ hx)⟩
theorem incN_dig : ∀ {m n i : Nat} {leaf : Int} {s : List Int × Bool}, dig leaf = true → digs s → dig (incN m n i leaf s).1 = true ∧ digs (incN m n i leaf s).2 := by
  intro m
  induction m with
  | zero => intro n i leaf s h1 h2; exact ⟨h1, h2⟩
  | succ m ih =>
    intro n i leaf s h1 h2
    rw [incN]
    split
    · exact ⟨h1, h2⟩
    · split
      · exact ⟨pairD_dig _ _, (nextP_dig (ih h1 h2).2).2⟩
      · exact ⟨pairD_dig _ _, (nextP_dig (ih h1 h2).2).2⟩
theorem incP_dig {n i : Nat} {leaf : Int} {s : List Int × Bool} (h1 : dig leaf = true) (h2 : digs s) : dig (incP n i leaf s).1 = true ∧ digs (incP n i leaf s).2 := incN_dig h1 h2

/-! ### Faults -/

def df : Int → List Int → Int × Int
  | _, [] => (0, 0)
  | i, d :: l => if dig d = true then df (i + 1) l else (3, i)
def leafF (l : List Int) : Int × Int := if l.length > 64 then (2, -1) else df 0 l
def proofF (l : List Int) : Int × Int := if l.length > 64 then (2, -1) else df 4 l

theorem df_ok {l : List Int} : ∀ {i}, df i l = (0, 0) → ∀ x ∈ l, dig x = true := by
  induction l with
  | nil => intro i _ x h; cases h
  | cons d l ih =>
    intro i h x hx
    rw [df] at h
    split at h
    · rcases List.mem_cons.1 hx with rfl | hx
      · assumption
      · exact ih h x hx
    · simp at h
theorem df_of {l : List Int} : ∀ {i}, (∀ x ∈ l, dig x = true) → df i l = (0, 0) := by
  induction l with
  | nil => intro i _; rfl
  | cons d l ih => intro i h; rw [df, if_pos (h d (by simp))]; exact ih fun x hx => h x (List.mem_cons_of_mem _ hx)
theorem leafF_of {l : List Int} (h1 : l.length ≤ 64) (h2 : ∀ x ∈ l, dig x = true) : leafF l = (0, 0) := by
  unfold leafF; rw [if_neg (by omega)]; exact df_of h2
theorem leafF_ok {l : List Int} (h : leafF l = (0, 0)) : l.length ≤ 64 ∧ ∀ x ∈ l, dig x = true := by
  unfold leafF at h
  split at h
  · simp at h
  · exact ⟨by omega, df_ok h⟩
theorem proofF_ok {l : List Int} (h : proofF l = (0, 0)) : l.length ≤ 64 ∧ ∀ x ∈ l, dig x = true := by
  unfold proofF at h
  split at h
  · simp at h
  · exact ⟨by omega, df_ok h⟩

/-- The ranges of Verify's arguments. -/
def rangF : Int → List Bool → Int × Int
  | _, [] => (0, 0)
  | i, b :: l => if b = true then rangF (i + 1) l else (3, i)

def verF (root n i leaf : Int) (p : List Int) : Int × Int :=
  if rangF 0 [dig root, decide (n ≥ 1) && decide (n ≤ 64), decide (i ≥ 0) && decide (i < n), dig leaf] = (0, 0) then proofF p
  else rangF 0 [dig root, decide (n ≥ 1) && decide (n ≤ 64), decide (i ≥ 0) && decide (i < n), dig leaf]
def verR (root n i leaf : Int) (p : List Int) : Bool :=
  if verF root n i leaf p = (0, 0) then
    ((incP n.toNat i.toNat leaf (p, true)).2.2 && (incP n.toNat i.toNat leaf (p, true)).2.1.isEmpty) && (incP n.toNat i.toNat leaf (p, true)).1 == root
  else false

end Au
end Go.RM

/-
  The tree over a list of digests, as contracts.
-/
namespace Go.RM
set_option linter.unusedSimpArgs false
set_option linter.unusedVariables false
namespace Au
variable {F : Nat → Option RFunc}

theorem split_val : (List.range 65).all (fun n => decide (n < 2) || (decide (0 ≤ IntKind.wrap .i64 ((blen (n - 1) : Int) - 1)) && decide (IntKind.wrap .i64 (1 * 2 ^ (Min.min (Int.toNat (IntKind.wrap .i64 ((blen (n - 1) : Int) - 1))) (IntKind.bits .i64))) = (splitP n : Int)))) = true := by decide +kernel

abbrev SplitC (F : Nat → Option RFunc) (f : Nat) : Prop := ∀ {fl H Q} {n : Nat}, 2 ≤ n → n ≤ 64 → Q (i64 (splitP n)) H → Ret F fl f [i64 n] H Q
theorem split_c {f n1 : Nat} (hF : F f = some (rf_translog_split n1)) (h1 : LenC F n1) : SplitC F f := fun {fl H Q n} a b hq => by
  refine v_translog_split hF _ ?_
  have e1 : IntKind.wrap .i64 ((n : Int) - 1) = ((n - 1 : Nat) : Int) := by rw [wrap64 (by omega) (by omega)]; omega
  have e2 : IntKind.wrap .u64 ((n - 1 : Nat) : Int) = ((n - 1 : Nat) : Int) := u64_in (by omega) (by omega)
  rw [e1, e2]
  have := List.all_eq_true.1 split_val n (List.mem_range.2 (by omega))
  simp only [Bool.or_eq_true, Bool.and_eq_true, decide_eq_true_eq] at this
  have this := this.resolve_left (by omega)
  refine h1 (by omega) ⟨_, rfl, this.1, ?_⟩
  rw [this.2]; exact hq

abbrev TPairC (F : Nat → Option RFunc) (f : Nat) : Prop := ∀ {fl H Q a b}, fl ≤ H.length → dig a = true → dig b = true → (∀ H', Keep H.length H H' → Q (i64 (pairD a b)) H') → Ret F fl f [i64 a, i64 b] H Q
theorem tpair_c {f n1 : Nat} (hF : F f = some (rf_translog_pair n1)) (h1 : PairC F n1) : TPairC F f := fun {fl H Q a b} hfl ha hb hq => by
  refine v_translog_pair hF _ _ ?_
  refine h1 ha hb fun H5 k5 => ⟨_, _, _, rfl, ?_⟩
  intro b7 H8 n8
  obtain ⟨H9, p1, p2, p3⟩ := Box.put (fl := fl) (v := .agg [i64 0, i64 0]) (n := 2) (o := 0) n8.box rfl (by decide) rfl (by rw [n8.b_eq]; exact Nat.le_trans hfl k5.len)
  refine ⟨H9, p1, hq H9 ((k5.call n8.keep).tr (p3.keep (by rw [n8.b_eq]; exact k5.len) (Nat.le_trans k5.len n8.keep.len)))⟩

abbrev LeafC (F : Nat → Option RFunc) (f : Nat) : Prop := ∀ {fl H Q v} {l : List Int}, Ints H v l → (∀ H', Keep H.length H H' → Q (flt (leafF l).1 (leafF l).2) H') → Ret F fl f [v] H Q
theorem leafFault_c {f n1 : Nat} (hF : F f = some (rf_translog_fault n1)) (h1 : DigC F n1) : LeafC F f := fun {fl H Q v l} hv hq => by
  refine v_translog_fault hF _ ?_
  intro H1 d1
  refine ⟨_, hv.len, fun hgt => ?_, fun hle => ⟨_, hv.len, ?_⟩⟩
  · have := hq H1 d1.keep
    unfold leafF at this
    rw [if_pos (by omega)] at this; exact this
  unfold leafF at hq
  rw [if_neg (by omega)] at hq
  refine ⟨fun m _ _ i H' => ∃ j : Nat, i = j ∧ j + m = l.length ∧ Keep H.length H H' ∧ df j (l.drop j) = df 0 l, l.length, ⟨0, rfl, by omega, d1.keep, by rw [List.drop_zero]; rfl⟩, ?_⟩
  rintro m _ _ _ H' ⟨j, rfl, hm, hk, he⟩
  refine ⟨fun hlt => ?_, fun hge => ?_⟩
  · have hj : j < l.length := by omega
    rw [List.drop_eq_getElem_cons hj, df] at he
    refine ⟨_, (hv.keep hk).int hj, h1 ⟨_, rfl, fun hno => ?_, fun hyes => ⟨m - 1, by omega, j + 1, wsucc hj hv.small, by omega, hk, ?_⟩⟩⟩
    · have := hq H' hk
      rw [← he, if_neg hno] at this; exact this
    · rw [if_pos (by simpa using hyes)] at he; exact he
  · rw [List.drop_eq_nil_of_le (by omega), df] at he
    have := hq H' hk
    rw [← he] at this; exact this

abbrev PrfC (F : Nat → Option RFunc) (f : Nat) : Prop := ∀ {fl H Q v} {l : List Int}, Ints H v l → (∀ H', Keep H.length H H' → Q (flt (proofF l).1 (proofF l).2) H') → Ret F fl f [v, i64 4] H Q
theorem proofFault_c {f n1 : Nat} (hF : F f = some (rf_translog_proofFault n1)) (h1 : DigC F n1) : PrfC F f := fun {fl H Q v l} hv hq => by
  refine v_translog_proofFault hF _ _ ?_
  intro H1 d1
  refine ⟨_, hv.len, fun hgt => ?_, fun hle => ⟨_, hv.len, ?_⟩⟩
  · have := hq H1 d1.keep
    unfold proofF at this
    rw [if_pos (by omega)] at this; exact this
  unfold proofF at hq
  rw [if_neg (by omega)] at hq
  refine ⟨fun m _ _ i H' => ∃ j : Nat, i = j ∧ j + m = l.length ∧ Keep H.length H H' ∧ df (4 + j) (l.drop j) = df 4 l, l.length, ⟨0, rfl, by omega, d1.keep, by rw [List.drop_zero]; rfl⟩, ?_⟩
  rintro m _ _ _ H' ⟨j, rfl, hm, hk, he⟩
  refine ⟨fun hlt => ?_, fun hge => ?_⟩
  · have hj : j < l.length := by omega
    rw [List.drop_eq_getElem_cons hj, df] at he
    refine ⟨_, (hv.keep hk).int hj, h1 ⟨_, rfl, fun hno => ?_, fun hyes => ⟨m - 1, by omega, j + 1, wsucc hj hv.small, by omega, hk, ?_⟩⟩⟩
    · have := hq H' hk
      rw [wrap64 (by omega) (by omega)]
      rw [← he, if_neg hno] at this; exact this
    · rw [if_pos (by simpa using hyes)] at he
      rw [← he]; congr 1
  · rw [List.drop_eq_nil_of_le (by omega), df] at he
    have := hq H' hk
    rw [← he] at this; exact this

abbrev RangC (F : Nat → Option RFunc) (f : Nat) : Prop := ∀ {fl H Q v} {l : List Bool}, Arr tBool H v l → (∀ H', Keep H.length H H' → Q (flt (rangF 0 l).1 (rangF 0 l).2) H') → Ret F fl f [v] H Q
theorem ranges_c {f : Nat} (hF : F f = some rf_translog_ranges) : RangC F f := fun {fl H Q v l} hv hq => by
  refine v_translog_ranges hF _ ?_
  intro H1 d1
  refine ⟨_, hv.len, fun m _ _ i => ∃ j : Nat, i = j ∧ j + m = l.length ∧ rangF j (l.drop j) = rangF 0 l, l.length, ⟨0, rfl, by omega, by rw [List.drop_zero]; rfl⟩, ?_⟩
  rintro m _ _ _ ⟨j, rfl, hm, he⟩
  refine ⟨fun hlt => ?_, fun hge => ?_⟩
  · have hj : j < l.length := by omega
    rw [List.drop_eq_getElem_cons hj, rangF] at he
    refine ⟨_, (hv.keep d1.keep).bool hj, fun hno => ?_, fun hyes => ⟨m - 1, by omega, j + 1, wsucc hj hv.small, by omega, ?_⟩⟩
    · have := hq H1 d1.keep
      rw [← he, if_neg hno] at this; exact this
    · rw [if_pos (by simpa using hyes)] at he; exact he
  · rw [List.drop_eq_nil_of_le (by omega), rangF] at he
    have := hq H1 d1.keep
    rw [← he] at this; exact this

/-! ### Root and Prove -/

abbrev RootC (F : Nat → Option RFunc) (f : Nat) : Prop := ∀ {fl H Q v} {l : List Int}, Ints H v l → fl ≤ H.length → l.length ≤ 64 → (∀ x ∈ l, dig x = true) → (∀ H', Keep H.length H H' → Q (i64 (rootP l)) H') → Ret F fl f [v] H Q
theorem root_c {f n1 n2 : Nat} (hF : F f = some (rf_translog_root n1 f n2)) (h1 : SplitC F n1) (h2 : TPairC F n2) : RootC F f := by
  have key : ∀ (n : Nat) {fl : Nat} {H : Heap} {Q : AV → Heap → Prop} {v : AV} {l : List Int}, l.length = n → Ints H v l → fl ≤ H.length → l.length ≤ 64 → (∀ x ∈ l, dig x = true) → (∀ H', Keep H.length H H' → Q (i64 (rootP l)) H') → Ret F fl f [v] H Q := by
    intro n
    induction n using Nat.strongRecOn with
    | _ n ih =>
      intro fl H Q v l hn hv hfl h64 hd hq
      refine v_translog_root hF _ ?_
      refine ⟨_, hv.len, fun h0 => ?_, fun hne0 => ⟨fun h1 => ?_, fun hne1 => ?_⟩⟩
      · have : l = [] := List.eq_nil_of_length_eq_zero (by omega)
        subst this
        exact hq H (Keep.refl H)
      · have hl : l.length = 1 := by omega
        have := hq H (Keep.refl H)
        rw [rootP_one hl] at this
        refine ⟨_, hv.int (i := 0) (by omega), ?_⟩
        obtain ⟨x, rfl⟩ := List.length_eq_one_iff.1 hl
        exact this
      · obtain ⟨⟨s1, s2⟩, _⟩ := split_in (n := l.length) (by omega) h64
        refine h1 (by omega) h64 ⟨_, rfl, ?_⟩
        obtain ⟨w, w1, w2⟩ := hv.upto (n := splitP l.length) (by omega)
        refine ⟨w, w1, ih _ (by simp; omega) (l := l.take (splitP l.length)) rfl w2 hfl (by simp; omega) (fun x hx => hd x (List.mem_of_mem_take hx)) fun H9 k9 => ⟨_, rfl, ?_⟩⟩
        refine h1 (by omega) h64 ⟨_, rfl, ?_⟩
        obtain ⟨w', w1', w2'⟩ := (hv.keep k9).from (n := splitP l.length) (by omega)
        refine ⟨w', w1', ih _ (by simp; omega) (l := l.drop (splitP l.length)) rfl w2' (Nat.le_trans hfl k9.len) (by simp; omega) (fun x hx => hd x (List.mem_of_mem_drop hx)) fun H16 k16 => ⟨_, rfl, ?_⟩⟩
        refine h2 (Nat.le_trans hfl (k9.call k16).len) (rootP_dig fun x hx => hd x (List.mem_of_mem_take hx)) (rootP_dig fun x hx => hd x (List.mem_of_mem_drop hx)) fun H19 k19 => ⟨_, rfl, ?_⟩
        have := hq H19 ((k9.call k16).call k19)
        rw [rootP_two (by omega) h64] at this; exact this
  exact fun {fl H Q v l} hv hfl h64 hd hq => key _ rfl hv hfl h64 hd hq

theorem tInt_plain : tInt.Plain := fun h => h

end Au
end Go.RM

/-
  Proofs of the tree: how they are read and checked, as contracts; checkpoints of a log.
-/
namespace Go.RM
set_option linter.unusedSimpArgs false
set_option linter.unusedVariables false
namespace Au
variable {F : Nat → Option RFunc}

abbrev RootTC (F : Nat → Option RFunc) (f : Nat) : Prop := ∀ {fl H Q v} {l : List Int}, Ints H v l → fl ≤ H.length → (∀ H', Keep H.length H H' → Q (.tuple [i64 (if leafF l = (0, 0) then rootP l else 0), flt (leafF l).1 (leafF l).2]) H') → Ret F fl f [v] H Q
theorem rootT_c {f n1 n2 : Nat} (hF : F f = some (rf_translog_Root n1 n2)) (h1 : LeafC F n1) (h2 : RootC F n2) : RootTC F f := fun {fl H Q v l} hv hfl hq => by
  refine v_translog_Root hF _ ?_
  intro H1 d1
  refine h1 (hv.keep d1.keep) fun H4 k4 => ⟨_, _, rfl, ?_⟩
  intro H6 d6
  have k6 := (d1.keep.call k4).call d6.keep
  refine ⟨fun hne => ?_, fun heq => ?_⟩
  · have := hq H6 k6
    rw [if_neg (pair_ne hne)] at this; exact this
  · have h0 := pair_eq heq
    obtain ⟨a, b⟩ := leafF_ok h0
    refine h2 (hv.keep k6) (Nat.le_trans hfl k6.len) a b fun H8 k8 => ⟨_, rfl, ?_⟩
    have := hq H8 (k6.call k8)
    rw [if_pos h0, h0] at this; exact this

/-! ### The reader -/

structure RdSt (H0 H : Heap) (rb : Nat) (s : List Int × Bool) : Prop where
  out : ∃ pv, Box H rb [pv, .bool s.2] ∧ Arr tInt H0 pv s.1
  k : Keep H0.length H0 H
  low : H0.length ≤ rb

theorem RdSt.keep {H0 H H' : Heap} {rb : Nat} {s : List Int × Bool} (h : RdSt H0 H rb s) (k : Keep H.length H H') : RdSt H0 H' rb s := by
  obtain ⟨pv, h1, h2⟩ := h.out
  exact ⟨⟨pv, h1.frame (k.get rb h1.lt), h2⟩, h.k.call k, h.low⟩

theorem from_keep {H0 H : Heap} {v : AV} {l : List Int} (h : Arr tInt H0 v l) (k : Keep H0.length H0 H) {n : Nat} (hn : n ≤ l.length) : ∃ w, rslice H 1 v (some (.int .i64 (n : Int))) none none = some w ∧ Arr tInt H0 w (l.drop n) := by
  obtain ⟨w, h1, h2⟩ := h.from hn
  obtain ⟨w', h1', _⟩ := (h.keep k).from hn
  have e : w' = w := by
    have h1 : rslice H0 1 v (some (.int .i64 (n : Int))) none none = some w := h1
    have h1' : rslice H 1 v (some (.int .i64 (n : Int))) none none = some w' := h1'
    unfold rslice at h1 h1'
    split at h1
    · split at h1
      · rename_i e1 e2 e3; simp only [e1, e2, e3, Option.some.injEq] at h1 h1'; rw [← h1, ← h1']
      · simp at h1
    · split at h1
      · rename_i l1 l2 l3 e1 e2 e3
        simp only [e1, e2, e3] at h1'
        split at h1
        · split at h1'
          · simp only [Option.some.injEq] at h1 h1'; rw [← h1, ← h1']
          · simp at h1'
        · simp at h1
      · simp at h1
    · simp at h1
  subst e
  exact ⟨w', h1', h2⟩

abbrev NextC (F : Nat → Option RFunc) (f : Nat) : Prop := ∀ {fl H0 H Q rb} {s : List Int × Bool}, RdSt H0 H rb s → fl ≤ H0.length → (∀ H', RdSt H0 H' rb (nextP s).2 → Q (i64 (nextP s).1) H') → Ret F fl f [.ptr rb 0] H Q
theorem next_c {f : Nat} (hF : F f = some rf_translog_reader_next) : NextC F f := fun {fl H0 H Q rb s} hs hfl hq => by
  refine v_translog_reader_next hF _ _ ?_
  obtain ⟨pv, hb, hp⟩ := hs.out
  obtain ⟨p, ok⟩ := s
  refine ⟨pv, hb.load (o := 0) rfl, _, hp.len, fun h0 => ?_, fun hne => ⟨pv, hb.load (o := 0) rfl, ?_⟩⟩
  · have : p = [] := List.eq_nil_of_length_eq_zero (by simpa using h0)
    subst this
    obtain ⟨H4, p1, p2, p3⟩ := hb.put (fl := fl) (v := .bool false) (n := 1) (o := 1) rfl (by simp) rfl (Nat.le_trans hfl hs.low)
    exact ⟨H4, p1, hq H4 ⟨⟨pv, p2, hp⟩, hs.k.tr (p3.keep hs.low (Nat.le_trans hs.k.low hs.k.len)), hs.low⟩⟩
  · cases p with
    | nil => exact absurd rfl hne
    | cons d p =>
      have hp' : Arr tInt H pv (d :: p) := hp.keep hs.k
      refine ⟨d, hp'.int (i := 0) (by simp), pv, hb.load (o := 0) rfl, ?_⟩
      obtain ⟨w, w1, w2⟩ := from_keep hp hs.k (n := 1) (by simp)
      obtain ⟨H4, p1, p2, p3⟩ := hb.put (fl := fl) (v := w) (n := 1) (o := 0) (by rw [w2.scal.1]; rfl) (by simp) (by rw [w2.scal.1, List.all_cons, w2.scal.2]; rfl) (Nat.le_trans hfl hs.low)
      refine ⟨w, w1, H4, p1, hq H4 ⟨⟨w, ?_, w2⟩, hs.k.tr (p3.keep hs.low (Nat.le_trans hs.k.low hs.k.len)), hs.low⟩⟩
      rw [w2.scal.1] at p2
      exact p2

abbrev DoneC (F : Nat → Option RFunc) (f : Nat) : Prop := ∀ {fl H0 H Q rb} {s : List Int × Bool}, RdSt H0 H rb s → Q (.bool (s.2 && s.1.isEmpty)) H → Ret F fl f [.ptr rb 0] H Q
theorem done_c {f : Nat} (hF : F f = some rf_translog_reader_done) : DoneC F f := fun {fl H0 H Q rb s} hs hq => by
  refine v_translog_reader_done hF _ _ ?_
  obtain ⟨pv, hb, hp⟩ := hs.out
  obtain ⟨p, ok⟩ := s
  refine ⟨ok, hb.load (o := 1) rfl, fun h => ⟨pv, hb.load (o := 0) rfl, _, hp.len, ?_⟩, fun h => ?_⟩
  · subst h
    have : (((p.length : Int)) == 0) = p.isEmpty := by
      cases p with
      | nil => rfl
      | cons _ _ => simp; omega
    rw [this]; simpa using hq
  · have : ok = false := by simpa using h
    subst this; exact hq

abbrev IncC (F : Nat → Option RFunc) (f : Nat) : Prop := ∀ {fl H0 H Q rb n i leaf} {s : List Int × Bool}, RdSt H0 H rb s → fl ≤ H0.length → 1 ≤ n → n ≤ 64 → i < n → dig leaf = true → digs s → (∀ H', RdSt H0 H' rb (incP n i leaf s).2 → Q (i64 (incP n i leaf s).1) H') → Ret F fl f [.ptr rb 0, i64 (n : Nat), i64 (i : Nat), i64 leaf] H Q
theorem include_c {f n1 n2 n3 : Nat} (hF : F f = some (rf_translog_reader_include n1 f n2 n3)) (h1 : SplitC F n1) (h2 : NextC F n2) (h3 : TPairC F n3) : IncC F f := by
  have key : ∀ (n : Nat) {fl : Nat} {H0 H : Heap} {Q : AV → Heap → Prop} {rb i : Nat} {leaf : Int} {s : List Int × Bool}, RdSt H0 H rb s → fl ≤ H0.length → 1 ≤ n → n ≤ 64 → i < n → dig leaf = true → digs s → (∀ H', RdSt H0 H' rb (incP n i leaf s).2 → Q (i64 (incP n i leaf s).1) H') → Ret F fl f [.ptr rb 0, i64 (n : Nat), i64 (i : Nat), i64 leaf] H Q := by
    intro n
    induction n using Nat.strongRecOn with
    | _ n ih =>
      intro fl H0 H Q rb i leaf s hs hfl hn1 h64 hi hd hds hq
      refine v_translog_reader_include hF _ _ _ _ _ ?_
      refine ⟨fun h => ?_, fun hne => ?_⟩
      · have := hq H
        rw [incP_one (by omega)] at this
        exact this hs
      · obtain ⟨⟨s1, s2⟩, _⟩ := split_in (n := n) (by omega) h64
        refine h1 (by omega) h64 ⟨_, rfl, fun hlt => ?_, fun hge => ?_⟩
        · obtain ⟨g1, g2⟩ := incP_dig (n := splitP n) (i := i) hd hds
          refine ih _ s2 hs hfl s1 (by omega) (by omega) hd hds fun H9 s9 => ⟨_, rfl, ?_⟩
          refine h2 s9 hfl fun H12 s12 => ⟨_, rfl, ?_⟩
          refine h3 (Nat.le_trans hfl (Nat.le_trans s12.k.low s12.k.len)) g1 (nextP_dig g2).1 fun H15 k15 => ⟨_, rfl, ?_⟩
          have := hq H15
          rw [incP_left (by omega) h64 (by omega)] at this
          exact this (s12.keep k15)
        · have e1 : IntKind.wrap .i64 ((n : Int) - (splitP n : Int)) = ((n - splitP n : Nat) : Int) := by rw [wrap64 (by omega) (by omega)]; omega
          have e2 : IntKind.wrap .i64 ((i : Int) - (splitP n : Int)) = ((i - splitP n : Nat) : Int) := by rw [wrap64 (by omega) (by omega)]; omega
          rw [e1, e2]
          obtain ⟨g1, g2⟩ := incP_dig (n := n - splitP n) (i := i - splitP n) hd hds
          refine ih _ (by omega) hs hfl (by omega) (by omega) (by omega) hd hds fun H9 s9 => ⟨_, rfl, ?_⟩
          refine h2 s9 hfl fun H12 s12 => ⟨_, rfl, ?_⟩
          refine h3 (Nat.le_trans hfl (Nat.le_trans s12.k.low s12.k.len)) (nextP_dig g2).1 g1 fun H15 k15 => ⟨_, rfl, ?_⟩
          have := hq H15
          rw [incP_right (by omega) h64 (by omega)] at this
          exact this (s12.keep k15)
  exact fun {fl H0 H Q rb n i leaf s} => key n

theorem rang4 {a b c d : Bool} (h : rangF 0 [a, b, c, d] = (0, 0)) : a = true ∧ b = true ∧ c = true ∧ d = true := by
  revert h; cases a <;> cases b <;> cases c <;> cases d <;> decide

abbrev VerC (F : Nat → Option RFunc) (f : Nat) : Prop := ∀ {fl H Q root n i leaf v} {p : List Int}, Ints H v p → fl ≤ H.length → (∀ H', Keep H.length H H' → Q (.tuple [.bool (verR root n i leaf p), flt (verF root n i leaf p).1 (verF root n i leaf p).2]) H') → Ret F fl f [i64 root, i64 n, i64 i, i64 leaf, v] H Q
theorem verify_c {f n1 n2 n3 n4 n5 : Nat} (hF : F f = some (rf_translog_Verify n1 n2 n3 n4 n5)) (h1 : DigC F n1) (h2 : RangC F n2) (h3 : PrfC F n3) (h4 : IncC F n4) (h5 : DoneC F n5) : VerC F f := fun {fl H Q root n i leaf v p} hv hfl hq => by
  refine v_translog_Verify hF _ _ _ _ _ ?_
  intro H5 d5
  refine h1 ⟨_, rfl, ?_⟩
  refine h1 ⟨_, rfl, ?_⟩
  intro b12 H13 n12
  have k13 := d5.keep.call n12.keep
  have har : Arr tBool H13 (.slice b12 0 4 (some 4)) [dig root, decide (n ≥ 1) && decide (n ≤ 64), decide (i ≥ 0) && decide (i < n), dig leaf] :=
    n12.arr (T := tBool) [[.bool (dig root)], [.bool (decide (n ≥ 1) && decide (n ≤ 64))], [.bool (decide (i ≥ 0) && decide (i < n))], [.bool (dig leaf)]] rfl ⟨rfl, rfl, rfl, rfl, trivial⟩ rfl
  refine h2 har fun H16 k16 => ⟨_, _, rfl, ?_⟩
  intro H18 d18
  have k18 := (k13.call k16).call d18.keep
  unfold verR verF at hq
  refine ⟨fun hne => ?_, fun heq => ?_⟩
  · have := hq H18 k18
    rw [if_neg (pair_ne hne), if_neg (pair_ne hne)] at this; exact this
  · have h0 := pair_eq heq
    rw [if_pos h0] at hq
    obtain ⟨r1, r2, r3, r4⟩ := rang4 h0
    simp only [Bool.and_eq_true, decide_eq_true_eq] at r2 r3
    refine h3 (hv.keep k18) fun H21 k21 => ⟨_, _, rfl, ?_⟩
    intro H23 d23
    have k23 := (k18.call k21).call d23.keep
    refine ⟨fun hne2 => ?_, fun heq2 => ?_⟩
    · have := hq H23 k23
      rw [if_neg (pair_ne hne2)] at this; exact this
    · have hp0 := pair_eq heq2
      obtain ⟨p1, p2⟩ := proofF_ok hp0
      refine ⟨hv.scal, ?_⟩
      intro b25 H26 n26
      obtain ⟨nn, rfl⟩ := Int.eq_ofNat_of_zero_le (show 0 ≤ n by omega)
      obtain ⟨ii, rfl⟩ := Int.eq_ofNat_of_zero_le (show 0 ≤ i by omega)
      have st : RdSt H23 H26 b25 (p, true) := ⟨⟨v, n26.box, hv.keep k23⟩, n26.keep, by rw [n26.b_eq]; exact Nat.le_refl _⟩
      refine h4 st (Nat.le_trans hfl k23.len) (by omega) (by omega) (by omega) r4 p2 fun H28 s28 => ⟨_, rfl, ?_⟩
      refine h5 s28 ⟨_, rfl, ?_⟩
      have := hq H28 (k23.call s28.k)
      rw [if_pos hp0, hp0] at this
      simp only [Int.toNat_natCast] at this
      exact this

/-! ### Checkpoints of a log -/

abbrev CheckC (F : Nat → Option RFunc) (f : Nat) : Prop := ∀ {fl H Q v} {l : List Rec}, Arr tRec H v l → fl ≤ H.length → (∀ H', Keep H.length H H' → Q (.tuple [i64 (if logF l = (0, 0) then rootP (l.map (·.c)) else 0), flt (logF l).1 (logF l).2]) H') → Ret F fl f [v] H Q

theorem log_leaf {l : List Rec} (h : logF l = (0, 0)) : leafF (l.map (·.c)) = (0, 0) := by
  refine leafF_of (by simp; have := (logF_ok h).1; omega) fun x hx => ?_
  obtain ⟨r, hr, rfl⟩ := List.mem_map.1 hx
  exact (inR_iff.1 (logF_in h r hr)).2.2.2.2.2.2

theorem checkpoint_c {f n1 n2 n3 : Nat} (hF : F f = some (rf_audit_Checkpoint n1 n2 n3)) (h1 : LogC F n1) (h2 : ChainsC F n2) (h3 : RootTC F n3) : CheckC F f := fun {fl H Q v l} hv hfl hq => by
  refine v_audit_Checkpoint hF _ ?_
  intro H1 d1
  refine h1 (hv.keep d1.keep) (Nat.le_trans hfl d1.keep.len) fun H4 k4 => ⟨_, _, rfl, ?_⟩
  intro H6 d6
  have k6 := (d1.keep.call k4).call d6.keep
  refine ⟨fun hne => ?_, fun heq => ?_⟩
  · have := hq H6 k6
    rw [if_neg (pair_ne hne)] at this; exact this
  · have h0 := pair_eq heq
    refine h2 (hv.keep k6) (Nat.le_trans hfl k6.len) (by have := (logF_ok h0).1; omega) fun w H8 k8 hw => ?_
    refine h3 (hw.arr k8) (Nat.le_trans hfl (k6.call k8).len) fun H13 k13 => ⟨_, _, _, rfl, ?_⟩
    have := hq H13 ((k6.call k8).call k13)
    rw [log_leaf h0, if_pos rfl]
    rw [h0, if_pos rfl] at this; exact this

def incF (c n i b : Int) (r : Rec) (p : List Int) : Int × Int := if inR r = true ∧ dig b = true then verF c n i r.c p else (3, -2)
def incR (c n i b : Int) (r : Rec) (p : List Int) : Bool := if inR r = true ∧ dig b = true then verR c n i r.c p && r.c == chainD b r else false
abbrev InclC (F : Nat → Option RFunc) (f : Nat) : Prop := ∀ {fl H Q c n i b v} {r : Rec} {p : List Int}, Ints H v p → fl ≤ H.length → (∀ H', Keep H.length H H' → Q (.tuple [.bool (incR c n i b r p), flt (incF c n i b r p).1 (incF c n i b r p).2]) H') → Ret F fl f [i64 c, i64 n, i64 i, i64 b, recV r, v] H Q
theorem includes_c {f n1 n2 n3 n4 : Nat} (hF : F f = some (rf_audit_Includes n1 n2 n3 n4)) (h1 : InRC F n1) (h2 : DigC F n2) (h3 : VerC F n3) (h4 : ChainC F n4) : InclC F f := fun {fl H Q c n i b v r p} hv hfl hq => by
  refine v_audit_Includes hF _ _ _ _ _ _ _ _ _ ?_
  intro H9 d9 H10 d10
  have k10 := d9.keep.call d10.keep
  unfold incR incF at hq
  have bad : ¬(inR r = true ∧ dig b = true) → ∀ H', Keep H.length H H' → Q (.tuple [.bool false, flt 3 (-2)]) H' := fun h H' k => by
    have := hq H' k
    rw [if_neg h, if_neg h] at this; exact this
  refine h1 fun H12 k12 => ⟨_, rfl, fun hno => bad (fun h => hno h.1) H12 (k10.call k12), fun hyes => ?_⟩
  have hin : inR r = true := by simpa using hyes
  refine h2 ⟨_, rfl, fun hno => bad (fun h => hno h.2) H12 (k10.call k12), fun hyes2 => ?_⟩
  have hdb : dig b = true := by simpa using hyes2
  rw [if_pos ⟨hin, hdb⟩, if_pos ⟨hin, hdb⟩] at hq
  have k12' := k10.call k12
  refine h3 (hv.keep k12') (Nat.le_trans hfl k12'.len) fun H20 k20 => ⟨_, _, _, rfl, ?_⟩
  intro H22 d22
  have k22 := (k12'.call k20).call d22.keep
  obtain ⟨g1, g2, g3, g4, g5, g6, g7⟩ := inR_iff.1 hin
  refine ⟨fun ht => h4 (r := r) (Nat.le_refl _) hdb ⟨g1, g2, g3, g4, g5, g6⟩ fun H24 k24 => ⟨_, rfl, ?_⟩, fun hf => ?_⟩
  · have := hq H24 (k22.call k24)
    rw [ht, Bool.true_and] at this; exact this
  · have := hq H22 k22
    rw [show verR c n i r.c p = false by simpa using hf, Bool.false_and] at this; exact this

end Au
end Go.RM

