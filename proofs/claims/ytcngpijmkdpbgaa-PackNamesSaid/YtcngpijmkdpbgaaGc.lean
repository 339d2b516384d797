/- The plain theory of graphs and walks, at this seat. -/
import Derived.Test.YtcngpijmkdpbgaaGa
import Derived.Test.YtcngpijmkdpbgaaAm23

namespace Go.AMach
set_option linter.unusedVariables false
set_option linter.unusedSimpArgs false
set_option linter.unnecessarySimpa false
open Go
set_option linter.unusedVariables false

theorem wrapU (n : Nat) : IntKind.wrap .u64 (n : Int) = ((n % 18446744073709551616 : Nat) : Int) := by
  simp [IntKind.wrap, IntKind.bits, IntKind.signed]
theorem ofIntNat (a : Nat) (h : a < 18446744073709551616) : (BitVec.ofInt 64 (a : Int)).toNat = a := by
  rw [BitVec.toNat_ofInt]
  omega
theorem orU (a b : Nat) (ha : a < 18446744073709551616) (hb : b < 18446744073709551616) :
    IntKind.wrap .u64 ((BitVec.toNat (BitVec.ofInt (IntKind.bits .u64) (a : Int) ||| BitVec.ofInt (IntKind.bits .u64) (b : Int)) : Nat) : Int) = ((a ||| b : Nat) : Int) := by
  have e : BitVec.toNat (BitVec.ofInt (IntKind.bits .u64) (a : Int) ||| BitVec.ofInt (IntKind.bits .u64) (b : Int)) = a ||| b := by
    show BitVec.toNat (BitVec.ofInt 64 (a : Int) ||| BitVec.ofInt 64 (b : Int)) = a ||| b
    rw [BitVec.toNat_or, ofIntNat a ha, ofIntNat b hb]
  rw [e, wrapU, Nat.mod_eq_of_lt]
  exact Nat.or_lt_two_pow (n := 64) ha hb
theorem andU (a b : Nat) (ha : a < 18446744073709551616) (hb : b < 18446744073709551616) :
    IntKind.wrap .u64 ((BitVec.toNat (BitVec.ofInt (IntKind.bits .u64) (a : Int) &&& BitVec.ofInt (IntKind.bits .u64) (b : Int)) : Nat) : Int) = ((a &&& b : Nat) : Int) := by
  have e : BitVec.toNat (BitVec.ofInt (IntKind.bits .u64) (a : Int) &&& BitVec.ofInt (IntKind.bits .u64) (b : Int)) = a &&& b := by
    show BitVec.toNat (BitVec.ofInt 64 (a : Int) &&& BitVec.ofInt 64 (b : Int)) = a &&& b
    rw [BitVec.toNat_and, ofIntNat a ha, ofIntNat b hb]
  rw [e, wrapU, Nat.mod_eq_of_lt]
  exact Nat.lt_of_le_of_lt Nat.and_le_left ha

def W2 (h l : Nat) : WordS := ((h : Int), ((l : Int), ()))

theorem Left_raw (h l k : Nat) (hk : 1 ≤ k ∧ k ≤ 8) (hh : h < 18446744073709551616) (hl : l < 18446744073709551616) :
    (q_z0j (W2 h l) (k : Int)).1.1 = W2 ((h * 2 ^ k % 18446744073709551616) ||| (l / 2 ^ (64 - k))) (l * 2 ^ k % 18446744073709551616) := by
  have hM : M_z0j FUEL (W2 h l) (k : Int) = some (encRes ro_z0j rh_z0j ((W2 ((h * 2 ^ k % 18446744073709551616) ||| (l / 2 ^ (64 - k))) (l * 2 ^ k % 18446744073709551616), ()), ())) := by
    unfold M_z0j
    have e64 : IntKind.wrap .i64 (64 - (k : Int)) = ((64 - k : Nat) : Int) := by rw [IntWalk.i64_in _ (by omega)]; omega
    simp only [cond_dec, e64, toNat_cast]
    rw [if_neg (by omega), if_neg (by omega), if_pos (by omega), if_pos (by omega), if_pos (by omega)]
    have b1 : min k (IntKind.bits .u64) = k := Nat.min_eq_left (by show k ≤ 64; omega)
    have b2 : min (64 - k) (IntKind.bits .u64) = 64 - k := Nat.min_eq_left (by show 64 - k ≤ 64; omega)
    rw [b1, b2]
    have e1 : IntKind.wrap .u64 ((W2 h l).1 * 2 ^ k) = ((h * 2 ^ k % 18446744073709551616 : Nat) : Int) := by
      rw [← wrapU]; congr 1
    have e2 : IntKind.wrap .u64 ((W2 h l).2.1 * 2 ^ k) = ((l * 2 ^ k % 18446744073709551616 : Nat) : Int) := by
      rw [← wrapU]; congr 1
    have e3 : Int.fdiv (W2 h l).2.1 (2 ^ (64 - k)) = ((l / 2 ^ (64 - k) : Nat) : Int) := by
      unfold W2
      rw [Int.fdiv_eq_ediv_of_nonneg _ (Int.le_of_lt (Int.pow_pos (by decide)))]
      push_cast; rfl
    rw [e1, e2, e3, orU _ _ (Nat.mod_lt _ (by decide)) (Nat.lt_of_le_of_lt (Nat.div_le_self _ _) hl)]
    rfl
  have : Q_z0j (W2 h l) (k : Int) = some ((W2 ((h * 2 ^ k % 18446744073709551616) ||| (l / 2 ^ (64 - k))) (l * 2 ^ k % 18446744073709551616), ()), ()) := fin hM
  unfold q_z0j
  rw [this]; rfl

theorem or_add (a b k : Nat) (h : b < 2 ^ k) : (2 ^ k * a) ||| b = 2 ^ k * a + b := (Nat.two_pow_add_eq_or_of_lt h a).symm

theorem Left_val (h l k : Nat) (hk : 1 ≤ k ∧ k ≤ 8) (hh : h < 18446744073709551616) (hl : l < 18446744073709551616) :
    ∃ h' l', (q_z0j (W2 h l) (k : Int)).1.1 = W2 h' l' ∧ h' < 18446744073709551616 ∧ l' < 18446744073709551616 ∧ l' % 2 ^ k = 0 ∧ h' * 18446744073709551616 + l' = ((h * 18446744073709551616 + l) * 2 ^ k) % 340282366920938463463374607431768211456 := by
  refine ⟨_, _, Left_raw h l k hk hh hl, ?_⟩
  have : k = 1 ∨ k = 2 ∨ k = 3 ∨ k = 4 ∨ k = 5 ∨ k = 6 ∨ k = 7 ∨ k = 8 := by omega
  rcases this with rfl | rfl | rfl | rfl | rfl | rfl | rfl | rfl
  all_goals
    simp only [Nat.reducePow, Nat.reduceSub]
  · have e : h * 2 % 18446744073709551616 = 2 ^ 1 * (h % 9223372036854775808) := by omega
    rw [e, or_add _ _ 1 (by omega)]; omega
  · have e : h * 4 % 18446744073709551616 = 2 ^ 2 * (h % 4611686018427387904) := by omega
    rw [e, or_add _ _ 2 (by omega)]; omega
  · have e : h * 8 % 18446744073709551616 = 2 ^ 3 * (h % 2305843009213693952) := by omega
    rw [e, or_add _ _ 3 (by omega)]; omega
  · have e : h * 16 % 18446744073709551616 = 2 ^ 4 * (h % 1152921504606846976) := by omega
    rw [e, or_add _ _ 4 (by omega)]; omega
  · have e : h * 32 % 18446744073709551616 = 2 ^ 5 * (h % 576460752303423488) := by omega
    rw [e, or_add _ _ 5 (by omega)]; omega
  · have e : h * 64 % 18446744073709551616 = 2 ^ 6 * (h % 288230376151711744) := by omega
    rw [e, or_add _ _ 6 (by omega)]; omega
  · have e : h * 128 % 18446744073709551616 = 2 ^ 7 * (h % 144115188075855872) := by omega
    rw [e, or_add _ _ 7 (by omega)]; omega
  · have e : h * 256 % 18446744073709551616 = 2 ^ 8 * (h % 72057594037927936) := by omega
    rw [e, or_add _ _ 8 (by omega)]; omega

theorem Or_low (h l b k : Nat) (hh : h < 18446744073709551616) (hl : l < 18446744073709551616) (hb : b < 2 ^ k) (hk : k ≤ 8) (hz : l % 2 ^ k = 0) :
    (q_z0l (W2 h l) (q_z0k (b : Int)).1.1).1.1 = W2 h (l + b) := by
  have hb' : b < 256 := Nat.lt_of_lt_of_le hb (Nat.le_trans (Nat.pow_le_pow_right (by decide) hk) (by decide))
  have hN : (q_z0k (b : Int)).1.1 = W2 0 b := by unfold q_z0k; rw [Q_New]; rfl
  rw [hN]
  have : Q_z0l (W2 h l) (W2 0 b) = some ((W2 h (l + b), ()), ()) := by
    refine fin ?_
    unfold M_z0l W2
    have e1 := orU h 0 hh (by decide)
    have e2 := orU l b hl (by omega)
    have e3 : l ||| b = l + b := by
      have : l = 2 ^ k * (l / 2 ^ k) := by have := Nat.div_add_mod l (2 ^ k); omega
      rw [this, or_add _ _ _ hb]
    rw [e3] at e2
    rw [Nat.or_zero] at e1
    have e1' : IntKind.wrap .u64 ((BitVec.toNat (BitVec.ofInt (IntKind.bits .u64) (h : Int) ||| BitVec.ofInt (IntKind.bits .u64) (((0 : Nat) : Int))) : Nat) : Int) = (h : Int) := e1
    simp only [e1', e2]
  unfold q_z0l
  rw [this]; rfl

/-! ### The mask -/
noncomputable def maskIs (w : Nat) : Bool := (match Q_z0o (w : Int) with
  | some ((v, _), _) => decide (v.1 = ((2 ^ (w - 64) - 1 : Nat) : Int)) && decide (v.2.1 = ((2 ^ (min w 64) - 1 : Nat) : Int))
  | none => false)
theorem masks : (List.range 129).all maskIs = true := by kernel_rfl
theorem Mask_val (w : Nat) (hw : w ≤ 128) : (q_z0o (w : Int)).1.1 = W2 (2 ^ (w - 64) - 1) (2 ^ (min w 64) - 1) := by
  have h := List.all_eq_true.1 masks w (by simp; omega)
  unfold maskIs at h
  rw [Q_Mask] at h
  simp only [Bool.and_eq_true, decide_eq_true_eq] at h
  exact Prod.ext h.1 (Prod.ext h.2 rfl)

theorem Cut_val (h l w : Nat) (hw : w ≤ 128) (hh : h < 18446744073709551616) (hl : l < 18446744073709551616) :
    (q_z0q (W2 h l) (w : Int)).1.1 = W2 (h % 2 ^ (w - 64)) (l % 2 ^ (min w 64)) := by
  have hA : Q_z0p (W2 h l) (W2 (2 ^ (w - 64) - 1) (2 ^ (min w 64) - 1)) = some ((W2 (h % 2 ^ (w - 64)) (l % 2 ^ (min w 64)), ()), ()) := by
    refine fin ?_
    unfold M_z0p W2
    have p1 : 2 ^ (w - 64) ≤ 18446744073709551616 := Nat.le_trans (Nat.pow_le_pow_right (by decide) (show w - 64 ≤ 64 by omega)) (by decide)
    have p2 : 2 ^ (min w 64) ≤ 18446744073709551616 := Nat.le_trans (Nat.pow_le_pow_right (by decide) (show min w 64 ≤ 64 by omega)) (by decide)
    have q1 : 0 < 2 ^ (w - 64) := Nat.two_pow_pos _
    have q2 : 0 < 2 ^ (min w 64) := Nat.two_pow_pos _
    have e1 := andU h (2 ^ (w - 64) - 1) hh (by omega)
    have e2 := andU l (2 ^ (min w 64) - 1) hl (by omega)
    rw [Nat.and_two_pow_sub_one_eq_mod] at e1 e2
    simp only [e1, e2]
  have : Q_z0q (W2 h l) (w : Int) = some ((W2 (h % 2 ^ (w - 64)) (l % 2 ^ (min w 64)), ()), ()) := by
    refine fin ?_
    unfold M_z0q
    simp only [ok_z0o, Q_Mask, Mask_val w hw, ok_z0p, q_z0p, hA, RS.get, Option.getD_some, Option.isSome_some, cond_true]
  unfold q_z0q
  rw [this]; rfl

/-! -: Bits -/
/-- A bit of some bytes, the highest of each ahead. -/
def bitOf (bf : Nat → Nat) (i : Nat) : Nat := bf (i / 8) / 2 ^ (7 - i % 8) % 2
/-- The number of some bits. -/
def bv (bf : Nat → Nat) (off : Nat) : Nat → Nat
  | 0 => 0
  | w + 1 => 2 * bv bf off w + bitOf bf (off + w)

theorem bv_lt (bf : Nat → Nat) (off : Nat) : ∀ w, bv bf off w < 2 ^ w
  | 0 => by simp [bv]
  | w + 1 => by
    have := bv_lt bf off w
    have h2 : bitOf bf (off + w) < 2 := Nat.mod_lt _ (by decide)
    simp only [bv, Nat.pow_succ]
    omega
theorem bv_add (bf : Nat → Nat) (off m : Nat) : ∀ n, bv bf off (m + n) = bv bf off m * 2 ^ n + bv bf (off + m) n
  | 0 => by simp [bv]
  | n + 1 => by
    rw [← Nat.add_assoc]
    simp only [bv, Nat.pow_succ]
    rw [bv_add bf off m n, Nat.add_assoc off m n]
    have : bv bf off m * (2 ^ n * 2) = 2 * (bv bf off m * 2 ^ n) := by rw [Nat.mul_comm (2 ^ n) 2, ← Nat.mul_assoc, Nat.mul_comm (bv bf off m) 2, Nat.mul_assoc]
    omega
theorem bv_byte (bf : Nat → Nat) (j : Nat) : ∀ n, n ≤ 8 → bv bf (8 * j) n = bf j / 2 ^ (8 - n) % 2 ^ n
  | 0, _ => by simp [bv, Nat.mod_one]
  | n + 1, h => by
    have ih := bv_byte bf j n (by omega)
    simp only [bv]
    rw [ih]
    unfold bitOf
    have e1 : (8 * j + n) / 8 = j := by omega
    have e2 : (8 * j + n) % 8 = n := by omega
    rw [e1, e2]
    have : n = 0 ∨ n = 1 ∨ n = 2 ∨ n = 3 ∨ n = 4 ∨ n = 5 ∨ n = 6 ∨ n = 7 := by omega
    rcases this with rfl | rfl | rfl | rfl | rfl | rfl | rfl | rfl <;> simp only [Nat.reducePow, Nat.reduceSub, Nat.reduceAdd] <;> omega

theorem modstep (A b B C M : Nat) : ((A + b) % M * B + C) % M = (A * B + (b * B + C)) % M := by
  rw [← Nat.add_assoc, ← Nat.add_mul, Nat.add_mod, Nat.mod_mul_mod, ← Nat.add_mod]

theorem absorb_val (h l b : Nat) (hh : h < 18446744073709551616) (hl : l < 18446744073709551616) (hb : b < 256) :
    ∃ h' l', absorb (W2 h l) (b : Int) = W2 h' l' ∧ h' < 18446744073709551616 ∧ l' < 18446744073709551616 ∧ h' * 18446744073709551616 + l' = ((h * 18446744073709551616 + l) * 256 + b) % 340282366920938463463374607431768211456 := by
  obtain ⟨h1, l1, e, a1, a2, a3, a4⟩ := Left_val h l 8 (by omega) hh hl
  refine ⟨h1, l1 + b, ?_, a1, ?_, ?_⟩
  · unfold absorb
    have e' : (q_z0j (W2 h l) 8).1.1 = W2 h1 l1 := e
    rw [e', wrapU, Nat.mod_eq_of_lt (by omega)]
    exact Or_low h1 l1 b 8 a1 a2 (by omega) (by omega) a3
  · simp only [Nat.reducePow] at a3; omega
  · simp only [Nat.reducePow] at a3 a4; omega

theorem absorbs_val (bf : Nat → Nat) (hb : ∀ i, bf i < 256) : ∀ (c f h l : Nat), h < 18446744073709551616 → l < 18446744073709551616 →
    ∃ h' l', absorbs (fun i => (bf i : Int)) f c (W2 h l) = W2 h' l' ∧ h' < 18446744073709551616 ∧ l' < 18446744073709551616 ∧ h' * 18446744073709551616 + l' = ((h * 18446744073709551616 + l) * 2 ^ (8 * c) + bv bf (8 * f) (8 * c)) % 340282366920938463463374607431768211456
  | 0, f, h, l, hh, hl => ⟨h, l, rfl, hh, hl, by simp [bv]; omega⟩
  | c + 1, f, h, l, hh, hl => by
    obtain ⟨h1, l1, e1, a1, a2, a3⟩ := absorb_val h l (bf f) hh hl (hb f)
    obtain ⟨h2, l2, e2, b1, b2, b3⟩ := absorbs_val bf hb c (f + 1) h1 l1 a1 a2
    refine ⟨h2, l2, ?_, b1, b2, ?_⟩
    · simp only [absorbs]
      rw [e1]; exact e2
    · rw [b3, a3]
      have hby : bv bf (8 * f) 8 = bf f := by
        rw [bv_byte bf f 8 (by omega)]
        have := hb f
        simp; omega
      have e3 : bv bf (8 * f) (8 * (c + 1)) = bf f * 2 ^ (8 * c) + bv bf (8 * (f + 1)) (8 * c) := by
        rw [show 8 * (c + 1) = 8 + 8 * c by omega, bv_add, hby, show 8 * f + 8 = 8 * (f + 1) by omega]
      rw [e3]
      have e4 : (h * 18446744073709551616 + l) * 2 ^ (8 * (c + 1)) = (h * 18446744073709551616 + l) * 256 * 2 ^ (8 * c) := by
        rw [show 8 * (c + 1) = 8 + 8 * c by omega, Nat.pow_add, ← Nat.mul_assoc]
      rw [e4]
      exact modstep _ _ _ _ _

theorem getP_val (bf : Nat → Nat) (hb : ∀ i, bf i < 256) (off w : Nat) (h1 : 1 ≤ w) (h2 : w ≤ 128) :
    ∃ h l, getP (fun i => (bf i : Int)) off w = W2 h l ∧ h < 18446744073709551616 ∧ l < 18446744073709551616 ∧ h * 18446744073709551616 + l = bv bf off w := by
  unfold getP
  simp only []
  generalize hf : off / 8 = f
  generalize he : (off + w + 7) / 8 = e
  generalize hd : e * 8 - off - w = d
  have hd7 : d ≤ 7 := by omega
  have hef : f + 1 ≤ e := by omega
  generalize hc : e - f - 1 = c
  obtain ⟨a, b, e1, a1, a2, a3⟩ := absorbs_val bf hb c f 0 0 (by decide) (by decide)
  have z : (((0 : Int), ((0 : Int), ())) : WordS) = W2 0 0 := rfl
  rw [z, e1]
  obtain ⟨a', b', e2, c1, c2, c3, c4⟩ := Left_val a b (8 - d) (by omega) a1 a2
  rw [e2]
  have hby : IntKind.wrap .u64 (Int.fdiv ((bf (e - 1) : Nat) : Int) (2 ^ (min d (IntKind.bits .u8)))) = ((bf (e - 1) / 2 ^ d : Nat) : Int) := by
    have : min d (IntKind.bits .u8) = d := Nat.min_eq_left (by show d ≤ 8; omega)
    rw [this, Int.fdiv_eq_ediv_of_nonneg _ (Int.le_of_lt (Int.pow_pos (by decide)))]
    have e0 : ((bf (e - 1) : Nat) : Int) / 2 ^ d = ((bf (e - 1) / 2 ^ d : Nat) : Int) := by push_cast; rfl
    rw [e0, wrapU, Nat.mod_eq_of_lt]
    exact Nat.lt_of_le_of_lt (Nat.div_le_self _ _) (Nat.lt_trans (hb _) (by decide))
  have hby' : IntKind.wrap .u64 (Int.fdiv ((bf (e - 1) : Nat) : Int) (2 ^ (min d 8))) = ((bf (e - 1) / 2 ^ d : Nat) : Int) := hby
  rw [hby']
  have hlt : bf (e - 1) / 2 ^ d < 2 ^ (8 - d) := by
    have hbb := hb (e - 1)
    rw [Nat.div_lt_iff_lt_mul (Nat.two_pow_pos _), ← Nat.pow_add, show 8 - d + d = 8 by omega]
    exact hbb
  rw [Or_low a' b' _ (8 - d) c1 c2 hlt (by omega) c3]
  have hsum : b' + bf (e - 1) / 2 ^ d < 18446744073709551616 := by
    have hdv : 2 ^ (8 - d) ∣ 18446744073709551616 := by
      refine ⟨2 ^ (56 + d), ?_⟩
      rw [← Nat.pow_add, show 8 - d + (56 + d) = 64 by omega]
    obtain ⟨q, hq⟩ := hdv
    have hb'' : b' = 2 ^ (8 - d) * (b' / 2 ^ (8 - d)) := by have := Nat.div_add_mod b' (2 ^ (8 - d)); omega
    have hqlt : b' / 2 ^ (8 - d) < q := by
      rw [Nat.div_lt_iff_lt_mul (Nat.two_pow_pos _), Nat.mul_comm, ← hq]; exact c2
    have : 2 ^ (8 - d) * (b' / 2 ^ (8 - d) + 1) ≤ 2 ^ (8 - d) * q := Nat.mul_le_mul_left _ hqlt
    rw [Nat.mul_add, Nat.mul_one, ← hb'', ← hq] at this
    omega
  rw [Cut_val a' (b' + bf (e - 1) / 2 ^ d) w h2 c1 hsum]
  -- the number
  have key : a' * 18446744073709551616 + (b' + bf (e - 1) / 2 ^ d) = bv bf (8 * f) (8 * c + (8 - d)) % 340282366920938463463374607431768211456 := by
    have hlast : bv bf (8 * f + 8 * c) (8 - d) = bf (e - 1) / 2 ^ d := by
      rw [show 8 * f + 8 * c = 8 * (e - 1) by omega, bv_byte bf (e - 1) (8 - d) (by omega), show 8 - (8 - d) = d by omega, Nat.mod_eq_of_lt hlt]
    rw [bv_add, hlast, ← Nat.add_assoc, c4, a3]
    simp only [Nat.zero_mul, Nat.zero_add]
    generalize bv bf (8 * f) (8 * c) = B at *
    generalize hP : 2 ^ (8 - d) = P at *
    generalize bf (e - 1) / 2 ^ d = r at *
    rw [Nat.mod_mul_mod]
    -- B * P % M + r = (B * P + r) % M
    have hdv : ∃ q, 340282366920938463463374607431768211456 = P * q := by
      refine ⟨2 ^ (120 + d), ?_⟩
      rw [← hP, ← Nat.pow_add, show 8 - d + (120 + d) = 128 by omega]
    obtain ⟨q, hq⟩ := hdv
    have hP0 : 0 < P := by rw [← hP]; exact Nat.two_pow_pos _
    have hmod : B * P % 340282366920938463463374607431768211456 = P * (B % q) := by rw [hq, Nat.mul_comm B P, Nat.mul_mod_mul_left]
    have hlt2 : P * (B % q) + r < P * q := by
      have hq0 : 0 < q := by
        rcases Nat.eq_zero_or_pos q with h | h
        · rw [h] at hq; simp at hq
        · exact h
      have := Nat.mod_lt B hq0
      have : P * (B % q + 1) ≤ P * q := Nat.mul_le_mul_left _ this
      rw [Nat.mul_add] at this
      omega
    generalize (340282366920938463463374607431768211456 : Nat) = M at hq hmod ⊢
    have hrM : r < M := by rw [hq]; omega
    have hsM : P * (B % q) + r < M := by rw [hq]; exact hlt2
    rw [Nat.add_mod (B * P) r M, hmod, Nat.mod_eq_of_lt hrM, Nat.mod_eq_of_lt hsM]
  have hsplit : bv bf (8 * f) (8 * c + (8 - d)) = bv bf (8 * f) (off - 8 * f) * 2 ^ w + bv bf off w := by
    rw [show 8 * c + (8 - d) = (off - 8 * f) + w by omega, bv_add, show 8 * f + (off - 8 * f) = off by omega]
  have hlow : (a' * 18446744073709551616 + (b' + bf (e - 1) / 2 ^ d)) % 2 ^ w = bv bf off w := by
    rw [key, hsplit]
    have hdv : 2 ^ w ∣ 340282366920938463463374607431768211456 := by
      refine ⟨2 ^ (128 - w), ?_⟩
      rw [← Nat.pow_add, show w + (128 - w) = 128 by omega]
    rw [Nat.mod_mod_of_dvd _ hdv, Nat.mul_comm, Nat.mul_add_mod, Nat.mod_eq_of_lt (bv_lt _ _ _)]
  generalize b' + bf (e - 1) / 2 ^ d = L at hsum hlow ⊢
  refine ⟨_, _, rfl, Nat.lt_of_le_of_lt (Nat.mod_le _ _) c1, Nat.lt_of_le_of_lt (Nat.mod_le _ _) hsum, ?_⟩
  rw [← hlow]
  by_cases hw : w ≤ 64
  · rw [show w - 64 = 0 by omega, show min w 64 = w by omega, Nat.pow_zero, Nat.mod_one, Nat.zero_mul, Nat.zero_add]
    have hdv : 2 ^ w ∣ 18446744073709551616 := by
      refine ⟨2 ^ (64 - w), ?_⟩
      rw [← Nat.pow_add, show w + (64 - w) = 64 by omega]
    obtain ⟨q, hq⟩ := hdv
    rw [hq, Nat.mul_comm a', Nat.mul_assoc, Nat.mul_add_mod]
  · rw [show min w 64 = 64 by omega, show (2 : Nat) ^ 64 = 18446744073709551616 by decide, Nat.mod_eq_of_lt hsum]
    have hp : 2 ^ w = 18446744073709551616 * 2 ^ (w - 64) := by
      rw [show (18446744073709551616 : Nat) = 2 ^ 64 by decide, ← Nat.pow_add, show 64 + (w - 64) = w by omega]
    rw [hp, Nat.mod_mul, Nat.mul_comm a', Nat.mul_add_mod, Nat.mod_eq_of_lt hsum, Nat.mul_add_div (by decide), Nat.div_eq_of_lt hsum, Nat.add_zero, Nat.add_comm, Nat.mul_comm]

def bN (s : ByteArray) (i : Nat) : Nat := (s.data.toList.getD i 0).toNat
theorem byteAt_bN (s : ByteArray) : byteAt s = fun i => ((bN s i : Nat) : Int) := rfl
theorem bN_lt (s : ByteArray) (i : Nat) : bN s i < 256 := UInt8.toNat_lt _
theorem bitOf_shift (bf : Nat → Nat) (a i : Nat) : bitOf (fun j => bf (a + j)) i = bitOf bf (8 * a + i) := by
  unfold bitOf
  rw [show (8 * a + i) / 8 = a + i / 8 by omega, show (8 * a + i) % 8 = i % 8 by omega]
theorem bv_shift (bf : Nat → Nat) (a off : Nat) : ∀ w, bv (fun j => bf (a + j)) off w = bv bf (8 * a + off) w
  | 0 => rfl
  | w + 1 => by
    simp only [bv]
    rw [bv_shift bf a off w, bitOf_shift, Nat.add_assoc]

theorem two32 {w : Nat} (h : w ≤ 32) : 2 ^ w ≤ 4294967296 := Nat.le_trans (Nat.pow_le_pow_right (by decide) h) (by decide)

theorem numV_val (s : ByteArray) (a : Nat) (off w : Nat) (h1 : 1 ≤ w) (h2 : w ≤ 32) :
    numV s (a : Int) off w = if a ≤ s.size ∧ off + w ≤ 8 * (s.size - a) then (((bv (bN s) (8 * a + off) w : Nat) : Int), true) else (0, false) := by
  unfold numV
  by_cases h : a ≤ s.size ∧ off + w ≤ 8 * (s.size - a)
  · rw [if_pos h, if_pos (by simp only [toNat_cast]; omega)]
    obtain ⟨x, y, e, hx, hy, hv⟩ := getP_val (fun i => bN s (a + i)) (fun i => bN_lt s _) off w h1 (by omega)
    have e' : getP (fun i => byteAt s ((a : Int).toNat + i)) off w = W2 x y := e
    rw [e', ← bv_shift, ← hv]
    have hlt := bv_lt (fun i => bN s (a + i)) off w
    have := two32 h2
    have hy' : IntKind.wrap .i64 (W2 x y).2.1 = (y : Int) := IntWalk.i64_in _ (by show _ ≤ (y : Int) ∧ (y : Int) ≤ _; omega)
    rw [hy']
    have : x * 18446744073709551616 + y = y := by omega
    rw [this]
  · rw [if_neg h, if_neg (by simp only [toNat_cast]; omega)]

theorem and1 (b : Nat) (h : b < 256) : IntKind.wrap .u8 ((BitVec.toNat (BitVec.ofInt (IntKind.bits .u8) (b : Int) &&& BitVec.ofInt (IntKind.bits .u8) (1 : Int)) : Nat) : Int) = ((b % 2 : Nat) : Int) := by
  have e : BitVec.toNat (BitVec.ofInt (IntKind.bits .u8) (b : Int) &&& BitVec.ofInt (IntKind.bits .u8) (1 : Int)) = b % 2 := by
    show BitVec.toNat (BitVec.ofInt 8 (b : Int) &&& BitVec.ofInt 8 (1 : Int)) = b % 2
    rw [BitVec.toNat_and, BitVec.toNat_ofInt, BitVec.toNat_ofInt]
    have e1 : ((b : Int) % ((2 ^ 8 : Nat) : Int)).toNat = b := by omega
    have e2 : ((1 : Int) % ((2 ^ 8 : Nat) : Int)).toNat = 1 := by decide
    rw [e1, e2, Nat.and_one_is_mod]
  rw [e]
  have : b % 2 < 2 := Nat.mod_lt _ (by decide)
  simp [IntKind.wrap, IntKind.bits, IntKind.signed]; omega

theorem wrap32 (n : Nat) (h : n < 4294967296) : IntKind.wrap .u32 (n : Int) = (n : Int) := by
  simp [IntKind.wrap, IntKind.bits, IntKind.signed]; omega


theorem finV_fine {s : ByteArray} {at_ sz : Int} (h : (finV s at_ sz).2 = 0) : (finV s at_ sz).1 = sz ∧ sz ≤ 256 ∧ 0 ≤ at_ ∧ at_ ≤ (s.size : Int) ∧ sz ≤ (s.size : Int) - at_ := by
  unfold finV at h ⊢
  by_cases c1 : sz > 256
  · rw [if_pos c1] at h; simp at h
  rw [if_neg c1] at h ⊢
  by_cases c2 : at_ < 0
  · rw [if_pos c2] at h; simp at h
  rw [if_neg c2] at h ⊢
  by_cases c3 : at_ > (s.size : Int)
  · rw [if_pos c3] at h; simp at h
  rw [if_neg c3] at h ⊢
  by_cases c4 : sz > (s.size : Int) - at_
  · rw [if_pos c4] at h; simp at h
  rw [if_neg c4]
  exact ⟨rfl, by omega, by omega, by omega, by omega⟩

theorem two16 {w : Nat} (h : w ≤ 16) : 2 ^ w ≤ 65536 := Nat.le_trans (Nat.pow_le_pow_right (by decide) h) (by decide)

theorem sizeV_fine {x : NodeS} (hm : mayL x) {s : ByteArray} {a : Nat} (h : (sizeV x s (a : Int)).2 = 0) : ∃ z : Nat, (sizeV x s (a : Int)).1 = (z : Int) ∧ a + z ≤ s.size ∧ z ≤ 256 := by
  have go : ∀ sz : Int, 0 ≤ sz → (finV s (a : Int) sz).2 = 0 → ∃ z : Nat, (finV s (a : Int) sz).1 = (z : Int) ∧ a + z ≤ s.size ∧ z ≤ 256 := fun sz h0 hf => by
    obtain ⟨e, h1, h2, h3, h4⟩ := finV_fine hf
    exact ⟨sz.toNat, by rw [e]; omega, by omega, by omega⟩
  obtain ⟨m1, m2, m3, m4⟩ := hm
  unfold sizeV at h ⊢
  have hm' : ¬ ¬ mayL x := fun k => k ⟨m1, m2, m3, m4⟩
  rw [if_neg hm'] at h ⊢
  by_cases hw : x.2.2.2.1 > 0
  · rw [if_pos hw] at h ⊢
    by_cases hv : (numV s (a : Int) x.2.2.1.toNat x.2.2.2.1.toNat).2 = false
    · rw [if_pos hv] at h; simp at h
    rw [if_neg hv] at h ⊢
    have e := numV_val s a x.2.2.1.toNat x.2.2.2.1.toNat (by omega) (by omega)
    have hlt := bv_lt (bN s) (8 * a + x.2.2.1.toNat) x.2.2.2.1.toNat
    have h16 := two16 (show x.2.2.2.1.toNat ≤ 16 by omega)
    have hnum : 0 ≤ (numV s (a : Int) x.2.2.1.toNat x.2.2.2.1.toNat).1 ∧ (numV s (a : Int) x.2.2.1.toNat x.2.2.2.1.toNat).1 ≤ 65535 := by
      rw [e]
      split
      · simp only []; omega
      · simp only []; omega
    generalize (numV s (a : Int) x.2.2.1.toNat x.2.2.2.1.toNat).1 = v at h hnum ⊢
    rw [if_neg (show ¬ x.2.2.2.1 = 0 by omega)] at m4
    have hp0 : 0 ≤ x.2.2.2.2.1 * v := Int.mul_nonneg (by omega) hnum.1
    have hp1 : x.2.2.2.2.1 * v ≤ 256 * 65535 := Int.mul_le_mul m4.2 hnum.2 hnum.1 (by decide)
    have e1 : IntKind.wrap .i64 (x.2.1 + IntKind.wrap .i64 (x.2.2.2.2.1 * v)) = x.2.1 + x.2.2.2.2.1 * v := by
      rw [IntWalk.i64_in (x.2.2.2.2.1 * v) (by omega), IntWalk.i64_in _ (by omega)]
    rw [e1] at h ⊢
    exact go _ (by omega) h
  · rw [if_neg hw] at h ⊢
    exact go _ m1.1 h

theorem rdd_mid {α : Type} {d : α} (pre : List α) (x : α) (r : List α) : rdd d (pre ++ x :: r) pre.length = x := by
  rw [rdd_lt (by simp)]; simp
theorem rdd_pre {α : Type} {d : α} (pre r : List α) {k : Nat} (h : k < pre.length) : rdd d (pre ++ r) k ∈ pre := by
  rw [rdd_lt (by simp; omega), List.getElem_append_left h]; exact List.getElem_mem h

/-- Where the law's loop over the headers may end. -/
def GEnd (l : List NodeS) (s : ByteArray) (why : Int) (id at_ : Int) : Prop :=
  (id = 65535 ∧ why = 4) ∨ (id = 0 ∧ findP l id = none ∧ why = 0) ∨ (id ≠ 65535 ∧ ∃ y, findP l id = some y ∧ (sizeV y s at_).2 = why ∧ why ≠ 0)

end Go.AMach
