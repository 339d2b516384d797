/- Parts of the proof. -/
import Derived.Test.YtcngpijmkdpbgaaGreatGa
import Derived.Test.YtcngpijmkdpbgaaGreatAm23
/- The plain theory of graphs and walks, at this seat. -/
namespace Go.AMach
set_option linter.unusedVariables false
set_option linter.unusedSimpArgs false
set_option linter.unnecessarySimpa false
open Go
set_option linter.unusedVariables false

theorem jiW (n : Nat) : IntKind.wrap .u64 (n : Int) = ((n % 18446744073709551616 : Nat) : Int) := by
  simp [IntKind.wrap, IntKind.bits, IntKind.signed]
theorem jkR (a : Nat) (h : a < 18446744073709551616) : (BitVec.ofInt 64 (a : Int)).toNat = a := by
  rw [BitVec.toNat_ofInt]
  omega
theorem orU (a b : Nat) (ha : a < 18446744073709551616) (hb : b < 18446744073709551616) :
    IntKind.wrap .u64 ((BitVec.toNat (BitVec.ofInt (IntKind.bits .u64) (a : Int) ||| BitVec.ofInt (IntKind.bits .u64) (b : Int)) : Nat) : Int) = ((a ||| b : Nat) : Int) := by
  have e : BitVec.toNat (BitVec.ofInt (IntKind.bits .u64) (a : Int) ||| BitVec.ofInt (IntKind.bits .u64) (b : Int)) = a ||| b := by
    show BitVec.toNat (BitVec.ofInt 64 (a : Int) ||| BitVec.ofInt 64 (b : Int)) = a ||| b
    rw [BitVec.toNat_or, jkR a ha, jkR b hb]
  rw [e, jiW, Nat.mod_eq_of_lt]
  exact Nat.or_lt_two_pow (n := 64) ha hb
theorem andU (a b : Nat) (ha : a < 18446744073709551616) (hb : b < 18446744073709551616) :
    IntKind.wrap .u64 ((BitVec.toNat (BitVec.ofInt (IntKind.bits .u64) (a : Int) &&& BitVec.ofInt (IntKind.bits .u64) (b : Int)) : Nat) : Int) = ((a &&& b : Nat) : Int) := by
  have e : BitVec.toNat (BitVec.ofInt (IntKind.bits .u64) (a : Int) &&& BitVec.ofInt (IntKind.bits .u64) (b : Int)) = a &&& b := by
    show BitVec.toNat (BitVec.ofInt 64 (a : Int) &&& BitVec.ofInt 64 (b : Int)) = a &&& b
    rw [BitVec.toNat_and, jkR a ha, jkR b hb]
  rw [e, jiW, Nat.mod_eq_of_lt]
  exact Nat.lt_of_le_of_lt Nat.and_le_left ha

def W2 (h l : Nat) : jaW := ((h : Int), ((l : Int), ()))

theorem jOy (h l k : Nat) (hk : 1 ≤ k ∧ k ≤ 8) (hh : h < 18446744073709551616) (hl : l < 18446744073709551616) :
    (jnf (W2 h l) (k : Int)).1.1 = W2 ((h * 2 ^ k % 18446744073709551616) ||| (l / 2 ^ (64 - k))) (l * 2 ^ k % 18446744073709551616) := by
  have hM : jwQ FUEL (W2 h l) (k : Int) = some (jaa jlx jlL ((W2 ((h * 2 ^ k % 18446744073709551616) ||| (l / 2 ^ (64 - k))) (l * 2 ^ k % 18446744073709551616), ()), ())) := by
    unfold jwQ
    have e64 : IntKind.wrap .i64 (64 - (k : Int)) = ((64 - k : Nat) : Int) := by rw [IntWalk.i64_in _ (by omega)]; omega
    simp only [jao, e64, jal]
    rw [if_neg (by omega), if_neg (by omega), if_pos (by omega), if_pos (by omega), if_pos (by omega)]
    have b1 : min k (IntKind.bits .u64) = k := Nat.min_eq_left (by show k ≤ 64; omega)
    have b2 : min (64 - k) (IntKind.bits .u64) = 64 - k := Nat.min_eq_left (by show 64 - k ≤ 64; omega)
    rw [b1, b2]
    have e1 : IntKind.wrap .u64 ((W2 h l).1 * 2 ^ k) = ((h * 2 ^ k % 18446744073709551616 : Nat) : Int) := by
      rw [← jiW]; congr 1
    have e2 : IntKind.wrap .u64 ((W2 h l).2.1 * 2 ^ k) = ((l * 2 ^ k % 18446744073709551616 : Nat) : Int) := by
      rw [← jiW]; congr 1
    have e3 : Int.fdiv (W2 h l).2.1 (2 ^ (64 - k)) = ((l / 2 ^ (64 - k) : Nat) : Int) := by
      unfold W2
      rw [Int.fdiv_eq_ediv_of_nonneg _ (Int.le_of_lt (Int.pow_pos (by decide)))]
      push_cast; rfl
    rw [e1, e2, e3, orU _ _ (Nat.mod_lt _ (by decide)) (Nat.lt_of_le_of_lt (Nat.div_le_self _ _) hl)]
    rfl
  have : jCg (W2 h l) (k : Int) = some ((W2 ((h * 2 ^ k % 18446744073709551616) ||| (l / 2 ^ (64 - k))) (l * 2 ^ k % 18446744073709551616), ()), ()) := fin hM
  unfold jnf
  rw [this]; rfl

theorem jgE (a b k : Nat) (h : b < 2 ^ k) : (2 ^ k * a) ||| b = 2 ^ k * a + b := (Nat.two_pow_add_eq_or_of_lt h a).symm

theorem jAO (h l k : Nat) (hk : 1 ≤ k ∧ k ≤ 8) (hh : h < 18446744073709551616) (hl : l < 18446744073709551616) :
    ∃ h' l', (jnf (W2 h l) (k : Int)).1.1 = W2 h' l' ∧ h' < 18446744073709551616 ∧ l' < 18446744073709551616 ∧ l' % 2 ^ k = 0 ∧ h' * 18446744073709551616 + l' = ((h * 18446744073709551616 + l) * 2 ^ k) % 340282366920938463463374607431768211456 := by
  refine ⟨_, _, jOy h l k hk hh hl, ?_⟩
  have : k = 1 ∨ k = 2 ∨ k = 3 ∨ k = 4 ∨ k = 5 ∨ k = 6 ∨ k = 7 ∨ k = 8 := by omega
  rcases this with rfl | rfl | rfl | rfl | rfl | rfl | rfl | rfl
  all_goals
    simp only [Nat.reducePow, Nat.reduceSub]
  · have e : h * 2 % 18446744073709551616 = 2 ^ 1 * (h % 9223372036854775808) := by omega
    rw [e, jgE _ _ 1 (by omega)]; omega
  · have e : h * 4 % 18446744073709551616 = 2 ^ 2 * (h % 4611686018427387904) := by omega
    rw [e, jgE _ _ 2 (by omega)]; omega
  · have e : h * 8 % 18446744073709551616 = 2 ^ 3 * (h % 2305843009213693952) := by omega
    rw [e, jgE _ _ 3 (by omega)]; omega
  · have e : h * 16 % 18446744073709551616 = 2 ^ 4 * (h % 1152921504606846976) := by omega
    rw [e, jgE _ _ 4 (by omega)]; omega
  · have e : h * 32 % 18446744073709551616 = 2 ^ 5 * (h % 576460752303423488) := by omega
    rw [e, jgE _ _ 5 (by omega)]; omega
  · have e : h * 64 % 18446744073709551616 = 2 ^ 6 * (h % 288230376151711744) := by omega
    rw [e, jgE _ _ 6 (by omega)]; omega
  · have e : h * 128 % 18446744073709551616 = 2 ^ 7 * (h % 144115188075855872) := by omega
    rw [e, jgE _ _ 7 (by omega)]; omega
  · have e : h * 256 % 18446744073709551616 = 2 ^ 8 * (h % 72057594037927936) := by omega
    rw [e, jgE _ _ 8 (by omega)]; omega

theorem jRe (h l b k : Nat) (hh : h < 18446744073709551616) (hl : l < 18446744073709551616) (hb : b < 2 ^ k) (hk : k ≤ 8) (hz : l % 2 ^ k = 0) :
    (jtf (W2 h l) (jlS (b : Int)).1.1).1.1 = W2 h (l + b) := by
  have hb' : b < 256 := Nat.lt_of_lt_of_le hb (Nat.le_trans (Nat.pow_le_pow_right (by decide) hk) (by decide))
  have hN : (jlS (b : Int)).1.1 = W2 0 b := by unfold jlS; rw [jKi]; rfl
  rw [hN]
  have : jCf (W2 h l) (W2 0 b) = some ((W2 h (l + b), ()), ()) := by
    refine fin ?_
    unfold jOq W2
    have e1 := orU h 0 hh (by decide)
    have e2 := orU l b hl (by omega)
    have e3 : l ||| b = l + b := by
      have : l = 2 ^ k * (l / 2 ^ k) := by have := Nat.div_add_mod l (2 ^ k); omega
      rw [this, jgE _ _ _ hb]
    rw [e3] at e2
    rw [Nat.or_zero] at e1
    have e1' : IntKind.wrap .u64 ((BitVec.toNat (BitVec.ofInt (IntKind.bits .u64) (h : Int) ||| BitVec.ofInt (IntKind.bits .u64) (((0 : Nat) : Int))) : Nat) : Int) = (h : Int) := e1
    simp only [e1', e2]
  unfold jtf
  rw [this]; rfl

noncomputable def jPj (w : Nat) : Bool := (match jCd (w : Int) with
  | some ((v, _), _) => decide (v.1 = ((2 ^ (w - 64) - 1 : Nat) : Int)) && decide (v.2.1 = ((2 ^ (min w 64) - 1 : Nat) : Int))
  | none => false)
theorem masks : (List.range 129).all jPj = true := by kernel_rfl
theorem jNt (w : Nat) (hw : w ≤ 128) : (jLf (w : Int)).1.1 = W2 (2 ^ (w - 64) - 1) (2 ^ (min w 64) - 1) := by
  have h := List.all_eq_true.1 masks w (by simp; omega)
  unfold jPj at h
  rw [jKj] at h
  simp only [Bool.and_eq_true, decide_eq_true_eq] at h
  exact Prod.ext h.1 (Prod.ext h.2 rfl)

theorem Cut_val (h l w : Nat) (hw : w ≤ 128) (hh : h < 18446744073709551616) (hl : l < 18446744073709551616) :
    (jBw (W2 h l) (w : Int)).1.1 = W2 (h % 2 ^ (w - 64)) (l % 2 ^ (min w 64)) := by
  have hA : jwG (W2 h l) (W2 (2 ^ (w - 64) - 1) (2 ^ (min w 64) - 1)) = some ((W2 (h % 2 ^ (w - 64)) (l % 2 ^ (min w 64)), ()), ()) := by
    refine fin ?_
    unfold jKu W2
    have p1 : 2 ^ (w - 64) ≤ 18446744073709551616 := Nat.le_trans (Nat.pow_le_pow_right (by decide) (show w - 64 ≤ 64 by omega)) (by decide)
    have p2 : 2 ^ (min w 64) ≤ 18446744073709551616 := Nat.le_trans (Nat.pow_le_pow_right (by decide) (show min w 64 ≤ 64 by omega)) (by decide)
    have q1 : 0 < 2 ^ (w - 64) := Nat.two_pow_pos _
    have q2 : 0 < 2 ^ (min w 64) := Nat.two_pow_pos _
    have e1 := andU h (2 ^ (w - 64) - 1) hh (by omega)
    have e2 := andU l (2 ^ (min w 64) - 1) hl (by omega)
    rw [Nat.and_two_pow_sub_one_eq_mod] at e1 e2
    simp only [e1, e2]
  have : jCc (W2 h l) (w : Int) = some ((W2 (h % 2 ^ (w - 64)) (l % 2 ^ (min w 64)), ()), ()) := by
    refine fin ?_
    unfold jCp
    simp only [jEu, jKj, jNt w hw, jtp, jBx, hA, RS.get, Option.getD_some, Option.isSome_some, cond_true]
  unfold jBw
  rw [this]; rfl

def jbC (bf : Nat → Nat) (i : Nat) : Nat := bf (i / 8) / 2 ^ (7 - i % 8) % 2
def bv (bf : Nat → Nat) (off : Nat) : Nat → Nat
  | 0 => 0
  | w + 1 => 2 * bv bf off w + jbC bf (off + w)

theorem jvD (bf : Nat → Nat) (off : Nat) : ∀ w, bv bf off w < 2 ^ w
  | 0 => by simp [bv]
  | w + 1 => by
    have := jvD bf off w
    have h2 : jbC bf (off + w) < 2 := Nat.mod_lt _ (by decide)
    simp only [bv, Nat.pow_succ]
    omega
theorem joI (bf : Nat → Nat) (off m : Nat) : ∀ n, bv bf off (m + n) = bv bf off m * 2 ^ n + bv bf (off + m) n
  | 0 => by simp [bv]
  | n + 1 => by
    rw [← Nat.add_assoc]
    simp only [bv, Nat.pow_succ]
    rw [joI bf off m n, Nat.add_assoc off m n]
    have : bv bf off m * (2 ^ n * 2) = 2 * (bv bf off m * 2 ^ n) := by rw [Nat.mul_comm (2 ^ n) 2, ← Nat.mul_assoc, Nat.mul_comm (bv bf off m) 2, Nat.mul_assoc]
    omega
theorem jqg (bf : Nat → Nat) (j : Nat) : ∀ n, n ≤ 8 → bv bf (8 * j) n = bf j / 2 ^ (8 - n) % 2 ^ n
  | 0, _ => by simp [bv, Nat.mod_one]
  | n + 1, h => by
    have ih := jqg bf j n (by omega)
    simp only [bv]
    rw [ih]
    unfold jbC
    have e1 : (8 * j + n) / 8 = j := by omega
    have e2 : (8 * j + n) % 8 = n := by omega
    rw [e1, e2]
    have : n = 0 ∨ n = 1 ∨ n = 2 ∨ n = 3 ∨ n = 4 ∨ n = 5 ∨ n = 6 ∨ n = 7 := by omega
    rcases this with rfl | rfl | rfl | rfl | rfl | rfl | rfl | rfl <;> simp only [Nat.reducePow, Nat.reduceSub, Nat.reduceAdd] <;> omega

theorem modstep (A b B C M : Nat) : ((A + b) % M * B + C) % M = (A * B + (b * B + C)) % M := by
  rw [← Nat.add_assoc, ← Nat.add_mul, Nat.add_mod, Nat.mod_mul_mod, ← Nat.add_mod]

theorem jBW (h l b : Nat) (hh : h < 18446744073709551616) (hl : l < 18446744073709551616) (hb : b < 256) :
    ∃ h' l', jAH (W2 h l) (b : Int) = W2 h' l' ∧ h' < 18446744073709551616 ∧ l' < 18446744073709551616 ∧ h' * 18446744073709551616 + l' = ((h * 18446744073709551616 + l) * 256 + b) % 340282366920938463463374607431768211456 := by
  obtain ⟨h1, l1, e, a1, a2, a3, a4⟩ := jAO h l 8 (by omega) hh hl
  refine ⟨h1, l1 + b, ?_, a1, ?_, ?_⟩
  · unfold jAH
    have e' : (jnf (W2 h l) 8).1.1 = W2 h1 l1 := e
    rw [e', jiW, Nat.mod_eq_of_lt (by omega)]
    exact jRe h1 l1 b 8 a1 a2 (by omega) (by omega) a3
  · simp only [Nat.reducePow] at a3; omega
  · simp only [Nat.reducePow] at a3 a4; omega

theorem jna (bf : Nat → Nat) (hb : ∀ i, bf i < 256) : ∀ (c f h l : Nat), h < 18446744073709551616 → l < 18446744073709551616 →
    ∃ h' l', jfg (fun i => (bf i : Int)) f c (W2 h l) = W2 h' l' ∧ h' < 18446744073709551616 ∧ l' < 18446744073709551616 ∧ h' * 18446744073709551616 + l' = ((h * 18446744073709551616 + l) * 2 ^ (8 * c) + bv bf (8 * f) (8 * c)) % 340282366920938463463374607431768211456
  | 0, f, h, l, hh, hl => ⟨h, l, rfl, hh, hl, by simp [bv]; omega⟩
  | c + 1, f, h, l, hh, hl => by
    obtain ⟨h1, l1, e1, a1, a2, a3⟩ := jBW h l (bf f) hh hl (hb f)
    obtain ⟨h2, l2, e2, b1, b2, b3⟩ := jna bf hb c (f + 1) h1 l1 a1 a2
    refine ⟨h2, l2, ?_, b1, b2, ?_⟩
    · simp only [jfg]
      rw [e1]; exact e2
    · rw [b3, a3]
      have hby : bv bf (8 * f) 8 = bf f := by
        rw [jqg bf f 8 (by omega)]
        have := hb f
        simp; omega
      have e3 : bv bf (8 * f) (8 * (c + 1)) = bf f * 2 ^ (8 * c) + bv bf (8 * (f + 1)) (8 * c) := by
        rw [show 8 * (c + 1) = 8 + 8 * c by omega, joI, hby, show 8 * f + 8 = 8 * (f + 1) by omega]
      rw [e3]
      have e4 : (h * 18446744073709551616 + l) * 2 ^ (8 * (c + 1)) = (h * 18446744073709551616 + l) * 256 * 2 ^ (8 * c) := by
        rw [show 8 * (c + 1) = 8 + 8 * c by omega, Nat.pow_add, ← Nat.mul_assoc]
      rw [e4]
      exact modstep _ _ _ _ _

theorem jyY (bf : Nat → Nat) (hb : ∀ i, bf i < 256) (off w : Nat) (h1 : 1 ≤ w) (h2 : w ≤ 128) :
    ∃ h l, getP (fun i => (bf i : Int)) off w = W2 h l ∧ h < 18446744073709551616 ∧ l < 18446744073709551616 ∧ h * 18446744073709551616 + l = bv bf off w := by
  unfold getP
  simp only []
  generalize hf : off / 8 = f
  generalize he : (off + w + 7) / 8 = e
  generalize hd : e * 8 - off - w = d
  have hd7 : d ≤ 7 := by omega
  have hef : f + 1 ≤ e := by omega
  generalize hc : e - f - 1 = c
  obtain ⟨a, b, e1, a1, a2, a3⟩ := jna bf hb c f 0 0 (by decide) (by decide)
  have z : (((0 : Int), ((0 : Int), ())) : jaW) = W2 0 0 := rfl
  rw [z, e1]
  obtain ⟨a', b', e2, c1, c2, c3, c4⟩ := jAO a b (8 - d) (by omega) a1 a2
  rw [e2]
  have hby : IntKind.wrap .u64 (Int.fdiv ((bf (e - 1) : Nat) : Int) (2 ^ (min d (IntKind.bits .u8)))) = ((bf (e - 1) / 2 ^ d : Nat) : Int) := by
    have : min d (IntKind.bits .u8) = d := Nat.min_eq_left (by show d ≤ 8; omega)
    rw [this, Int.fdiv_eq_ediv_of_nonneg _ (Int.le_of_lt (Int.pow_pos (by decide)))]
    have e0 : ((bf (e - 1) : Nat) : Int) / 2 ^ d = ((bf (e - 1) / 2 ^ d : Nat) : Int) := by push_cast; rfl
    rw [e0, jiW, Nat.mod_eq_of_lt]
    exact Nat.lt_of_le_of_lt (Nat.div_le_self _ _) (Nat.lt_trans (hb _) (by decide))
  have hby' : IntKind.wrap .u64 (Int.fdiv ((bf (e - 1) : Nat) : Int) (2 ^ (min d 8))) = ((bf (e - 1) / 2 ^ d : Nat) : Int) := hby
  rw [hby']
  have hlt : bf (e - 1) / 2 ^ d < 2 ^ (8 - d) := by
    have hbb := hb (e - 1)
    rw [Nat.div_lt_iff_lt_mul (Nat.two_pow_pos _), ← Nat.pow_add, show 8 - d + d = 8 by omega]
    exact hbb
  rw [jRe a' b' _ (8 - d) c1 c2 hlt (by omega) c3]
  have hsum : b' + bf (e - 1) / 2 ^ d < 18446744073709551616 := by
    have hdv : 2 ^ (8 - d) ∣ 18446744073709551616 := by
      refine ⟨2 ^ (56 + d), ?_⟩
      rw [← Nat.pow_add, show 8 - d + (56 + d) = 64 by omega]
    obtain ⟨q, hq⟩ := hdv
    have hb'' : b' = 2 ^ (8 - d) * (b' / 2 ^ (8 - d)) := by have := Nat.div_add_mod b' (2 ^ (8 - d)); omega
    have hqlt : b' / 2 ^ (8 - d) < q := by
      rw [Nat.div_lt_iff_lt_mul (Nat.two_pow_pos _), Nat.mul_comm, ← hq]; exact c2
    have : 2 ^ (8 - d) * (b' / 2 ^ (8 - d) + 1) ≤ 2 ^ (8 - d) * q := Nat.mul_le_mul_left _ hqlt
    rw [Nat.mul_add, Nat.mul_one, ← hb'', ← hq] at this
    omega
  rw [Cut_val a' (b' + bf (e - 1) / 2 ^ d) w h2 c1 hsum]
  have key : a' * 18446744073709551616 + (b' + bf (e - 1) / 2 ^ d) = bv bf (8 * f) (8 * c + (8 - d)) % 340282366920938463463374607431768211456 := by
    have hlast : bv bf (8 * f + 8 * c) (8 - d) = bf (e - 1) / 2 ^ d := by
      rw [show 8 * f + 8 * c = 8 * (e - 1) by omega, jqg bf (e - 1) (8 - d) (by omega), show 8 - (8 - d) = d by omega, Nat.mod_eq_of_lt hlt]
    rw [joI, hlast, ← Nat.add_assoc, c4, a3]
    simp only [Nat.zero_mul, Nat.zero_add]
    generalize bv bf (8 * f) (8 * c) = B at *
    generalize hP : 2 ^ (8 - d) = P at *
    generalize bf (e - 1) / 2 ^ d = r at *
    rw [Nat.mod_mul_mod]
    have hdv : ∃ q, 340282366920938463463374607431768211456 = P * q := by
      refine ⟨2 ^ (120 + d), ?_⟩
      rw [← hP, ← Nat.pow_add, show 8 - d + (120 + d) = 128 by omega]
    obtain ⟨q, hq⟩ := hdv
    have hP0 : 0 < P := by rw [← hP]; exact Nat.two_pow_pos _
    have hmod : B * P % 340282366920938463463374607431768211456 = P * (B % q) := by rw [hq, Nat.mul_comm B P, Nat.mul_mod_mul_left]
    have hlt2 : P * (B % q) + r < P * q := by
      have hq0 : 0 < q := by
        rcases Nat.eq_zero_or_pos q with h | h
        · rw [h] at hq; simp at hq
        · exact h
      have := Nat.mod_lt B hq0
      have : P * (B % q + 1) ≤ P * q := Nat.mul_le_mul_left _ this
      rw [Nat.mul_add] at this
      omega
    generalize (340282366920938463463374607431768211456 : Nat) = M at hq hmod ⊢
    have hrM : r < M := by rw [hq]; omega
    have hsM : P * (B % q) + r < M := by rw [hq]; exact hlt2
    rw [Nat.add_mod (B * P) r M, hmod, Nat.mod_eq_of_lt hrM, Nat.mod_eq_of_lt hsM]
  have hsplit : bv bf (8 * f) (8 * c + (8 - d)) = bv bf (8 * f) (off - 8 * f) * 2 ^ w + bv bf off w := by
    rw [show 8 * c + (8 - d) = (off - 8 * f) + w by omega, joI, show 8 * f + (off - 8 * f) = off by omega]
  have hlow : (a' * 18446744073709551616 + (b' + bf (e - 1) / 2 ^ d)) % 2 ^ w = bv bf off w := by
    rw [key, hsplit]
    have hdv : 2 ^ w ∣ 340282366920938463463374607431768211456 := by
      refine ⟨2 ^ (128 - w), ?_⟩
      rw [← Nat.pow_add, show w + (128 - w) = 128 by omega]
    rw [Nat.mod_mod_of_dvd _ hdv, Nat.mul_comm, Nat.mul_add_mod, Nat.mod_eq_of_lt (jvD _ _ _)]
  generalize b' + bf (e - 1) / 2 ^ d = L at hsum hlow ⊢
  refine ⟨_, _, rfl, Nat.lt_of_le_of_lt (Nat.mod_le _ _) c1, Nat.lt_of_le_of_lt (Nat.mod_le _ _) hsum, ?_⟩
  rw [← hlow]
  by_cases hw : w ≤ 64
  · rw [show w - 64 = 0 by omega, show min w 64 = w by omega, Nat.pow_zero, Nat.mod_one, Nat.zero_mul, Nat.zero_add]
    have hdv : 2 ^ w ∣ 18446744073709551616 := by
      refine ⟨2 ^ (64 - w), ?_⟩
      rw [← Nat.pow_add, show w + (64 - w) = 64 by omega]
    obtain ⟨q, hq⟩ := hdv
    rw [hq, Nat.mul_comm a', Nat.mul_assoc, Nat.mul_add_mod]
  · rw [show min w 64 = 64 by omega, show (2 : Nat) ^ 64 = 18446744073709551616 by decide, Nat.mod_eq_of_lt hsum]
    have hp : 2 ^ w = 18446744073709551616 * 2 ^ (w - 64) := by
      rw [show (18446744073709551616 : Nat) = 2 ^ 64 by decide, ← Nat.pow_add, show 64 + (w - 64) = w by omega]
    rw [hp, Nat.mod_mul, Nat.mul_comm a', Nat.mul_add_mod, Nat.mod_eq_of_lt hsum, Nat.mul_add_div (by decide), Nat.div_eq_of_lt hsum, Nat.add_zero, Nat.add_comm, Nat.mul_comm]

def bN (s : ByteArray) (i : Nat) : Nat := (s.data.toList.getD i 0).toNat
theorem jum (s : ByteArray) : jbs s = fun i => ((bN s i : Nat) : Int) := rfl
theorem bN_lt (s : ByteArray) (i : Nat) : bN s i < 256 := UInt8.toNat_lt _
theorem jvF (bf : Nat → Nat) (a i : Nat) : jbC (fun j => bf (a + j)) i = jbC bf (8 * a + i) := by
  unfold jbC
  rw [show (8 * a + i) / 8 = a + i / 8 by omega, show (8 * a + i) % 8 = i % 8 by omega]
theorem jkU (bf : Nat → Nat) (a off : Nat) : ∀ w, bv (fun j => bf (a + j)) off w = bv bf (8 * a + off) w
  | 0 => rfl
  | w + 1 => by
    simp only [bv]
    rw [jkU bf a off w, jvF, Nat.add_assoc]

theorem two32 {w : Nat} (h : w ≤ 32) : 2 ^ w ≤ 4294967296 := Nat.le_trans (Nat.pow_le_pow_right (by decide) h) (by decide)

theorem jpU (s : ByteArray) (a : Nat) (off w : Nat) (h1 : 1 ≤ w) (h2 : w ≤ 32) :
    numV s (a : Int) off w = if a ≤ s.size ∧ off + w ≤ 8 * (s.size - a) then (((bv (bN s) (8 * a + off) w : Nat) : Int), true) else (0, false) := by
  unfold numV
  by_cases h : a ≤ s.size ∧ off + w ≤ 8 * (s.size - a)
  · rw [if_pos h, if_pos (by simp only [jal]; omega)]
    obtain ⟨x, y, e, hx, hy, hv⟩ := jyY (fun i => bN s (a + i)) (fun i => bN_lt s _) off w h1 (by omega)
    have e' : getP (fun i => jbs s ((a : Int).toNat + i)) off w = W2 x y := e
    rw [e', ← jkU, ← hv]
    have hlt := jvD (fun i => bN s (a + i)) off w
    have := two32 h2
    have hy' : IntKind.wrap .i64 (W2 x y).2.1 = (y : Int) := IntWalk.i64_in _ (by show _ ≤ (y : Int) ∧ (y : Int) ≤ _; omega)
    rw [hy']
    have : x * 18446744073709551616 + y = y := by omega
    rw [this]
  · rw [if_neg h, if_neg (by simp only [jal]; omega)]

theorem wrap32 (n : Nat) (h : n < 4294967296) : IntKind.wrap .u32 (n : Int) = (n : Int) := by
  simp [IntKind.wrap, IntKind.bits, IntKind.signed]; omega


theorem jmm {s : ByteArray} {at_ sz : Int} (h : (finV s at_ sz).2 = 0) : (finV s at_ sz).1 = sz ∧ sz ≤ 256 ∧ 0 ≤ at_ ∧ at_ ≤ (s.size : Int) ∧ sz ≤ (s.size : Int) - at_ := by
  unfold finV at h ⊢
  by_cases c1 : sz > 256
  · rw [if_pos c1] at h; simp at h
  rw [if_neg c1] at h ⊢
  by_cases c2 : at_ < 0
  · rw [if_pos c2] at h; simp at h
  rw [if_neg c2] at h ⊢
  by_cases c3 : at_ > (s.size : Int)
  · rw [if_pos c3] at h; simp at h
  rw [if_neg c3] at h ⊢
  by_cases c4 : sz > (s.size : Int) - at_
  · rw [if_pos c4] at h; simp at h
  rw [if_neg c4]
  exact ⟨rfl, by omega, by omega, by omega, by omega⟩

theorem two16 {w : Nat} (h : w ≤ 16) : 2 ^ w ≤ 65536 := Nat.le_trans (Nat.pow_le_pow_right (by decide) h) (by decide)

theorem jBe {x : jai} (hm : mayL x) {s : ByteArray} {a : Nat} (h : (jed x s (a : Int)).2 = 0) : ∃ z : Nat, (jed x s (a : Int)).1 = (z : Int) ∧ a + z ≤ s.size ∧ z ≤ 256 := by
  have go : ∀ sz : Int, 0 ≤ sz → (finV s (a : Int) sz).2 = 0 → ∃ z : Nat, (finV s (a : Int) sz).1 = (z : Int) ∧ a + z ≤ s.size ∧ z ≤ 256 := fun sz h0 hf => by
    obtain ⟨e, h1, h2, h3, h4⟩ := jmm hf
    exact ⟨sz.toNat, by rw [e]; omega, by omega, by omega⟩
  obtain ⟨m1, m2, m3, m4⟩ := hm
  unfold jed at h ⊢
  have hm' : ¬ ¬ mayL x := fun k => k ⟨m1, m2, m3, m4⟩
  rw [if_neg hm'] at h ⊢
  by_cases hw : x.2.2.2.1 > 0
  · rw [if_pos hw] at h ⊢
    by_cases hv : (numV s (a : Int) x.2.2.1.toNat x.2.2.2.1.toNat).2 = false
    · rw [if_pos hv] at h; simp at h
    rw [if_neg hv] at h ⊢
    have e := jpU s a x.2.2.1.toNat x.2.2.2.1.toNat (by omega) (by omega)
    have hlt := jvD (bN s) (8 * a + x.2.2.1.toNat) x.2.2.2.1.toNat
    have h16 := two16 (show x.2.2.2.1.toNat ≤ 16 by omega)
    have hnum : 0 ≤ (numV s (a : Int) x.2.2.1.toNat x.2.2.2.1.toNat).1 ∧ (numV s (a : Int) x.2.2.1.toNat x.2.2.2.1.toNat).1 ≤ 65535 := by
      rw [e]
      split
      · simp only []; omega
      · simp only []; omega
    generalize (numV s (a : Int) x.2.2.1.toNat x.2.2.2.1.toNat).1 = v at h hnum ⊢
    rw [if_neg (show ¬ x.2.2.2.1 = 0 by omega)] at m4
    have hp0 : 0 ≤ x.2.2.2.2.1 * v := Int.mul_nonneg (by omega) hnum.1
    have hp1 : x.2.2.2.2.1 * v ≤ 256 * 65535 := Int.mul_le_mul m4.2 hnum.2 hnum.1 (by decide)
    have e1 : IntKind.wrap .i64 (x.2.1 + IntKind.wrap .i64 (x.2.2.2.2.1 * v)) = x.2.1 + x.2.2.2.2.1 * v := by
      rw [IntWalk.i64_in (x.2.2.2.2.1 * v) (by omega), IntWalk.i64_in _ (by omega)]
    rw [e1] at h ⊢
    exact go _ (by omega) h
  · rw [if_neg hw] at h ⊢
    exact go _ m1.1 h

theorem jDV {α : Type} {d : α} (pre : List α) (x : α) (r : List α) : rdd d (pre ++ x :: r) pre.length = x := by
  rw [jbd (by simp)]; simp
end Go.AMach

/- The plain theory of graphs and walks, at this seat. -/
namespace Go.AMach
set_option linter.unusedVariables false
set_option linter.unusedSimpArgs false
set_option linter.unnecessarySimpa false
open Go
set_option linter.unusedVariables false

def rk (l : List jai) : Nat → Int → Int
  | 0, _ => 0
  | r + 1, k => match jaO l k with
    | none => 0
    | some x => 1 + hmax (rk l r) (jbk x) 0

theorem jjl {f : Int → Int} {B : Int} : ∀ (g : List Int) (m0 : Int), m0 ≤ B → (∀ t ∈ g, f t ≤ B) → hmax f g m0 ≤ B := fun g m0 h0 h => by
  rcases jqd f g m0 with e | ⟨t, ht, e⟩
  · rw [e]; exact h0
  · rw [e]; exact h t ht
theorem jDp (l : List jai) : ∀ r k, 0 ≤ rk l r k
  | 0, k => Int.le_refl _
  | r + 1, k => by
    simp only [rk]
    split
    · exact Int.le_refl _
    · rename_i x _
      have := jcq (rk l r) (jbk x) 0
      omega
theorem rk_le (l : List jai) : ∀ (r : Nat) k, rk l r k ≤ r
  | 0, k => Int.le_refl _
  | r + 1, k => by
    simp only [rk]
    split
    · omega
    · rename_i x _
      have := jjl (f := rk l r) (B := r) (jbk x) 0 (by omega) fun t _ => rk_le l r t
      omega
theorem jDq (l : List jai) : ∀ (r : Nat) k, rk l r k ≤ rk l (r + 1) k
  | 0, k => jDp l 1 k
  | r + 1, k => by
    cases hf : jaO l k with
    | none => simp [rk, hf]
    | some x =>
      have e1 : rk l (r + 1) k = 1 + hmax (rk l r) (jbk x) 0 := by simp [rk, hf]
      have e2 : rk l (r + 1 + 1) k = 1 + hmax (rk l (r + 1)) (jbk x) 0 := by
        show (match jaO l k with | none => 0 | some x => 1 + hmax (rk l (r + 1)) (jbk x) 0) = _
        rw [hf]
      rw [e1, e2]
      have := jjl (f := rk l r) (B := hmax (rk l (r + 1)) (jbk x) 0) (jbk x) 0 (jcq _ _ _) fun t ht =>
        Int.le_trans (jDq l r t) (jgX _ _ _ t ht)
      omega
theorem jDr (l : List jai) : ∀ (r : Nat) k, rk l r k < rk l (r + 1) k → rk l (r + 1) k = r + 1
  | 0, k, h => by
    have h1 := rk_le l 1 k
    have h0 : rk l 0 k = 0 := rfl
    have h : rk l 0 k < rk l 1 k := h
    show rk l 1 k = ((0 : Nat) : Int) + 1
    omega
  | r + 1, k, h => by
    cases hf : jaO l k with
    | none => simp [rk, hf] at h
    | some x =>
      have e1 : rk l (r + 1) k = 1 + hmax (rk l r) (jbk x) 0 := by simp [rk, hf]
      have e2 : rk l (r + 1 + 1) k = 1 + hmax (rk l (r + 1)) (jbk x) 0 := by
        show (match jaO l k with | none => 0 | some x => 1 + hmax (rk l (r + 1)) (jbk x) 0) = _
        rw [hf]
      rw [e1, e2] at h
      rw [e2]
      rcases jqd (rk l (r + 1)) (jbk x) 0 with e | ⟨t, ht, e⟩
      · have := jcq (rk l r) (jbk x) 0; omega
      · have h1 := jgX (rk l r) (jbk x) 0 t ht
        have := jDr l r t (by omega)
        omega
theorem jOA {l : List jai} {h : Int → Int} (H : Hgt l h) : ∀ (r : Nat) k, rk l r k ≤ h k
  | 0, k => H.nonneg k
  | r + 1, k => by
    simp only [rk]
    cases hf : jaO l k with
    | none => exact H.nonneg k
    | some x =>
      rw [H.is k x hf]
      have := jjl (f := rk l r) (B := hmax h (jbk x) 0) (jbk x) 0 (jcq _ _ _) fun t ht => Int.le_trans (jOA H r t) (jgX _ _ _ t ht)
      simp only []
      omega
theorem hgt_rk {l : List jai} {r : Nat} (h : ∀ x ∈ l, rk l (r + 1) x.1 ≤ r) : Hgt l (rk l r) := by
  have same : ∀ k, rk l (r + 1) k = rk l r k := fun k => by
    have hm := jDq l r k
    rcases Int.lt_or_eq_of_le hm with hlt | e
    · have hj := jDr l r k hlt
      cases hf : jaO l k with
      | none => simp [rk, hf] at hj; omega
      | some x =>
        obtain ⟨hx, hk⟩ := jbb hf
        have := h x hx
        rw [hk] at this; omega
    · exact e.symm
  refine ⟨fun k hf => ?_, fun k x hf => ?_⟩
  · rw [← same k]; simp [rk, hf]
  · rw [← same k]; simp [rk, hf]
theorem hmaxR (f : Int → Int) (x : jai) : hmax f (jgY x) 0 = hmax f (jbk x) 0 := by
  apply Int.le_antisymm
  · exact jjl _ _ (jcq _ _ _) fun t ht => jgX _ _ _ t (jiJ.1 ht)
  · exact jjl _ _ (jcq _ _ _) fun t ht => jgX _ _ _ t (jiJ.2 ht)

theorem jxd {l : List Int} {i : Nat} (h : i < l.length) : l.set i (rdd 0 l i) = l := by
  rw [jbd h]; exact List.set_getElem_self h
theorem jvh {l : List Int} {i : Nat} {v : Int} (h : i < l.length) : rdd 0 (l.set i v) i = v := by
  rw [jbd (by simpa using h)]; simp
theorem rdd_map {α : Type} {d : α} {l : List α} {f : α → Int} {i : Nat} (h : i < l.length) : rdd 0 (l.map f) i = f (rdd d l i) := by
  rw [jbd (by simpa using h), jbd h]; simp

theorem L_r6 (kt : List Int → Option Res) (l : List jai) (hl : l.length ≤ 32) (r : Nat) (most rd : Int) (i : Nat) (hi : i < l.length) (to : List Int) (k : Nat) (hk : k < to.length) (t : Int) (ht : rdd 0 to k = t) : ∀ (m n : Nat) (now : List Int), now.length = l.length → n ≤ l.length → l.length - n < m →
    jjP FUEL kt l most l.length rd l.length (i : Int) to.length (k : Int) (l.map fun x => rk l r x.1) to m (n : Int) now = kt (now.set i (if (∃ y ∈ l.drop n, y.1 = t) ∧ rk l r t > rdd 0 now i then rk l r t else rdd 0 now i))
  | 0, _, _, _, _, h => by omega
  | m + 1, n, now, hnow, hn, hm => by
    show jrL FUEL kt l most l.length rd l.length (i : Int) to.length (k : Int) (l.map fun x => rk l r x.1) to (jjP FUEL kt l most l.length rd l.length (i : Int) to.length (k : Int) (l.map fun x => rk l r x.1) to m) (n : Int) now = _
    unfold jrL
    simp only [jao, jaQ, jal, ht]
    by_cases h : n < l.length
    · rw [if_pos (by omega), if_pos (by omega), if_pos (by omega), jaP jaC h]
      by_cases he : (rdd jaC l n).1 = t
      · rw [if_pos he, if_pos (by omega), if_pos (by omega), if_pos (by omega), rdd_map (d := jaC) h, he, jaD (by omega)]
        rw [L_r6 kt l hl r most rd i hi to k hk t ht m (n + 1) _ (by simpa using hnow) (by omega) (by omega)]
        rw [jvh (by omega)]
        congr 1
        rw [List.set_set]
        congr 1
        have ex : ∃ y ∈ rdd jaC l n :: l.drop (n + 1), y.1 = t := ⟨_, List.mem_cons_self, he⟩
        have e1 : (if rk l r t > rdd 0 now i then rk l r t else rdd 0 now i) ≥ rk l r t := by clear ex; split <;> omega
        generalize hV : (if rk l r t > rdd 0 now i then rk l r t else rdd 0 now i) = V at e1 ⊢
        rw [if_neg (fun k => absurd k.2 (by clear ex; omega)), ← hV]
        by_cases hgt : rk l r t > rdd 0 now i
        · rw [if_pos hgt, if_pos ⟨ex, hgt⟩]
        · rw [if_neg hgt, if_neg (fun k => hgt k.2)]
      · rw [if_neg he, jaD (by omega), L_r6 kt l hl r most rd i hi to k hk t ht m (n + 1) now hnow (by omega) (by omega)]
        congr 2
        have : (∃ y ∈ rdd jaC l n :: l.drop (n + 1), y.1 = t) ↔ (∃ y ∈ l.drop (n + 1), y.1 = t) := by
          constructor
          · rintro ⟨y, hy, e⟩
            rcases List.mem_cons.1 hy with rfl | hy
            · exact absurd e he
            · exact ⟨y, hy, e⟩
          · rintro ⟨y, hy, e⟩; exact ⟨y, List.mem_cons_of_mem _ hy, e⟩
        simp only [this]
    · rw [if_neg (by omega), List.drop_of_length_le (by omega)]
      simp only [List.not_mem_nil, false_and, exists_false, if_false]
      rw [jxd (by omega)]

theorem rk_none {l : List jai} {t : Int} (h : ¬ ∃ y ∈ l, y.1 = t) : ∀ r, rk l r t = 0
  | 0 => rfl
  | r + 1 => by
    simp only [rk]
    cases hf : jaO l t with
    | none => rfl
    | some x => exact absurd ⟨x, (jbb hf).1, (jbb hf).2⟩ h

theorem L_r4 (kt : List Int → Option Res) (l : List jai) (hl : l.length ≤ 32) (r : Nat) (most rd : Int) (i : Nat) (hi : i < l.length) (to : List Int) (hto : to.length < 1000000) : ∀ (m k : Nat) (now : List Int), now.length = l.length → 0 ≤ rdd 0 now i → k ≤ to.length → to.length - k < m →
    jjQ FUEL kt l most l.length rd l.length (i : Int) to.length (l.map fun x => rk l r x.1) to m (k : Int) now = kt (now.set i (hmax (rk l r) (to.drop k) (rdd 0 now i)))
  | 0, _, _, _, _, _, h => by omega
  | m + 1, k, now, hnow, h0, hk, hm => by
    show jrM FUEL kt l most l.length rd l.length (i : Int) to.length (l.map fun x => rk l r x.1) to (jjQ FUEL kt l most l.length rd l.length (i : Int) to.length (l.map fun x => rk l r x.1) to m) (k : Int) now = _
    unfold jrM
    simp only [jao]
    by_cases h : k < to.length
    · rw [if_pos (by omega)]
      refine Eq.trans (L_r6 _ l hl r most rd i hi to k h (rdd 0 to k) rfl FUEL 0 now hnow (by omega) (by unfold FUEL; omega)) ?_
      rw [List.drop_zero, jaD (by omega), jaP (0 : Int) h, jei]
      have e : (if (∃ y ∈ l, y.1 = rdd 0 to k) ∧ rk l r (rdd 0 to k) > rdd 0 now i then rk l r (rdd 0 to k) else rdd 0 now i) = (if rk l r (rdd 0 to k) > rdd 0 now i then rk l r (rdd 0 to k) else rdd 0 now i) := by
        by_cases hex : ∃ y ∈ l, y.1 = rdd 0 to k
        · simp only [hex, true_and]
        · rw [if_neg (fun k => hex k.1), rk_none hex, if_neg (by omega)]
      rw [e]
      clear e
      generalize hv : (if rk l r (rdd 0 to k) > rdd 0 now i then rk l r (rdd 0 to k) else rdd 0 now i) = v
      have hv0 : 0 ≤ v := by rw [← hv]; split <;> omega
      rw [L_r4 kt l hl r most rd i hi to hto m (k + 1) _ (by simpa using hnow) (by rw [jvh (by omega)]; exact hv0) (by omega) (by omega)]
      rw [jvh (by omega), List.set_set]
    · rw [if_neg (by omega), List.drop_of_length_le (by omega)]
      show kt now = kt (now.set i (rdd 0 now i))
      rw [jxd (by omega)]

theorem L_r2 (kt : List Int → Option Res) (l : List jai) (hl : l.length ≤ 32) (ha : ∀ x ∈ l, (jby x).length < 100000) (hu : ∀ x ∈ l, jaO l x.1 = some x) (r : Nat) (hr : r ≤ 100) (most rd : Int) : ∀ (m i : Nat), i ≤ l.length → l.length - i < m →
    jjR FUEL kt l most l.length rd l.length (l.map fun x => rk l r x.1) m (i : Int) (((l.take i).map fun x => rk l (r + 1) x.1) ++ List.replicate (l.length - i) 0) = kt (l.map fun x => rk l (r + 1) x.1)
  | 0, _, _, h => by omega
  | m + 1, i, hi, hm => by
    show jrN FUEL kt l most l.length rd l.length (l.map fun x => rk l r x.1) (jjR FUEL kt l most l.length rd l.length (l.map fun x => rk l r x.1) m) (i : Int) _ = _
    unfold jrN
    simp only [jao, jal]
    by_cases h : i < l.length
    · have hx := ha _ (jbO (d := jaC) h)
      have hfx := hu _ (jbO (d := jaC) h)
      have hrep : List.replicate (l.length - i) (0 : Int) = 0 :: List.replicate (l.length - (i + 1)) 0 := by
        rw [show l.length - i = (l.length - (i + 1)) + 1 by omega]; rfl
      have htl : ((l.take i).map fun x => rk l (r + 1) x.1).length = i := by simp; omega
      rw [if_pos (by omega), if_pos (by omega), hrep]
      simp only [jyu, jKX, juu _ hx, RS.get, Option.getD_some, Option.isSome_some, cond_true]
      have hgl : (jgY (rdd jaC l i)).length < 1000000 := by unfold jgY; simp; omega
      have hr0 : rdd 0 (((l.take i).map fun x => rk l (r + 1) x.1) ++ 0 :: List.replicate (l.length - (i + 1)) 0) i = 0 := by
        have := jDV (d := (0 : Int)) ((l.take i).map fun x => rk l (r + 1) x.1) 0 (List.replicate (l.length - (i + 1)) 0)
        rw [htl] at this; exact this
      refine Eq.trans (L_r4 _ l hl r most rd i h (jgY (rdd jaC l i)) hgl FUEL 0 _ (by simp; omega) (by rw [hr0]; exact Int.le_refl _) (by omega) (by unfold FUEL; omega)) ?_
      rw [hr0, List.drop_zero, hmaxR, jlk _ _ _ htl]
      have hb : hmax (rk l r) (jbk (rdd jaC l i)) 0 ≤ r := jjl _ _ (by omega) fun t _ => rk_le l r t
      have hb0 := jcq (rk l r) (jbk (rdd jaC l i)) 0
      have hr1 : rdd 0 (((l.take i).map fun x => rk l (r + 1) x.1) ++ hmax (rk l r) (jbk (rdd jaC l i)) 0 :: List.replicate (l.length - (i + 1)) 0) i = hmax (rk l r) (jbk (rdd jaC l i)) 0 := by
        have := jDV (d := (0 : Int)) ((l.take i).map fun x => rk l (r + 1) x.1) (hmax (rk l r) (jbk (rdd jaC l i)) 0) (List.replicate (l.length - (i + 1)) 0)
        rw [htl] at this; exact this
      rw [if_pos (by omega), if_pos (by omega), hr1, jlk _ _ _ htl, jaD (by omega), IntWalk.i64_in _ (by omega)]
      have e : (((l.take i).map fun x => rk l (r + 1) x.1) ++ (hmax (rk l r) (jbk (rdd jaC l i)) 0 + 1) :: List.replicate (l.length - (i + 1)) 0) = ((l.take (i + 1)).map fun x => rk l (r + 1) x.1) ++ List.replicate (l.length - (i + 1)) 0 := by
        rw [jgc jaC h, List.map_append, List.append_assoc]
        congr 1
        have : rk l (r + 1) (rdd jaC l i).1 = 1 + hmax (rk l r) (jbk (rdd jaC l i)) 0 := by simp only [rk]; rw [hfx]
        simp only [List.map_cons, List.map_nil, this, List.singleton_append]
        rw [Int.add_comm]
      rw [e]
      exact L_r2 kt l hl ha hu r hr most rd m (i + 1) (by omega) (by omega)
    · rw [if_neg (by omega)]
      have : i = l.length := by omega
      subst this
      rw [List.take_of_length_le (Nat.le_refl _), Nat.sub_self]
      simp

theorem L_r0 (kt : Nat → List Int → Option Res) (l : List jai) (hl : l.length ≤ 32) (ha : ∀ x ∈ l, (jby x).length < 100000) (hu : ∀ x ∈ l, jaO l x.1 = some x) (most : Nat) (hmo : most ≤ 100) : ∀ (m r : Nat), r ≤ most → most - r < m →
    jig FUEL kt l (most : Int) m l.length (r : Int) (l.map fun x => rk l r x.1) = kt l.length (l.map fun x => rk l most x.1)
  | 0, _, _, h => by omega
  | m + 1, r, hr, hm => by
    show jrO FUEL kt l (most : Int) (jig FUEL kt l (most : Int) m) l.length (r : Int) (l.map fun x => rk l r x.1) = _
    unfold jrO
    simp only [jao, jal]
    by_cases h : r < most
    · rw [if_pos (by omega), if_pos (by omega)]
      have := L_r2 (fun y5 => jig FUEL kt l (most : Int) m l.length (IntKind.wrap .i64 ((r : Int) + 1)) y5) l hl ha hu r (by omega) (most : Int) (r : Int) FUEL 0 (by omega) (by unfold FUEL; omega)
      simp only [List.take_zero, List.map_nil, List.nil_append, Nat.sub_zero] at this
      refine Eq.trans this ?_
      rw [jaD (by omega)]
      exact L_r0 kt l hl ha hu most hmo m (r + 1) (by omega) (by omega)
    · rw [if_neg (by omega)]
      have : r = most := by omega
      subst this; rfl

theorem Q_ranks (l : List jai) (hl : l.length ≤ 32) (ha : ∀ x ∈ l, (jby x).length < 100000) (hu : ∀ x ∈ l, jaO l x.1 = some x) (most : Nat) (hmo : most ≤ 100) :
    jME l (most : Int) = some ((l.length, ()), (l.map (fun x => rk l most x.1), ())) := by
  refine fin ?_
  unfold jNV
  simp only [jao, jal]
  rw [if_pos (by omega)]
  have e : List.replicate l.length (0 : Int) = l.map fun x => rk l 0 x.1 := by
    exact (List.eq_replicate_iff.2 ⟨by simp, fun b hb => by simp [rk] at hb; exact hb.2.symm⟩).symm
  rw [e]
  exact L_r0 _ l hl ha hu most hmo FUEL 0 (by omega) (by unfold FUEL; omega)

theorem jmk : ∀ {p : Int} {l : List jai}, formsOk p l → ∀ x ∈ l, jaO l x.1 = some x
  | p, [], _, x, hx => by cases hx
  | p, y :: r, h, x, hx => by
    obtain ⟨h1, h2, h3⟩ := h
    unfold jaO
    rw [List.find?_cons]
    rcases List.mem_cons.1 hx with rfl | hx
    · simp
    · have := (jcy h3 x hx).2
      have : ¬ y.1 = x.1 := by omega
      simp only [this, decide_false]
      exact jmk h3 x hx

theorem jKE (kr : Bool → jai → Option Res) (kt : Unit → Option Res) (id : Int) (l : List jai) (z : jai) (hl : l.length < 9223372036854775807) : ∀ (m i : Nat), i ≤ l.length → l.length - i < m →
    jjS FUEL kr kt l id z m (i : Int) = match jaO (l.drop i) id with | some x => kr true x | none => kt ()
  | 0, _, _, h => by omega
  | m + 1, i, hi, hm => by
    show jrP FUEL kr kt l id z (jjS FUEL kr kt l id z m) (i : Int) = _
    unfold jrP
    simp only [jao, jaQ]
    by_cases h : i < l.length
    · have hin : (0 : Int) ≤ (i : Int) ∧ (i : Int) < ((l.length : Nat) : Int) := by omega
      simp only [if_pos hin]
      rw [if_pos (by omega), jaP jaC h]
      simp only [jal, jaO, List.find?_cons]
      by_cases he : (rdd jaC l i).1 = id
      · simp [he]
      · rw [if_neg he, jaD (by omega), jKE kr kt id l z hl m (i + 1) (by omega) (by omega)]
        simp [he, jaO]
    · rw [if_neg (by omega), List.drop_of_length_le (by omega)]
      rfl
theorem Q_rFind (l : List jai) (id : Int) (hl : l.length < 9223372036854775807) : jMF l id = some (jml (jaO l id), ()) := by
  refine fin ?_
  refine Eq.trans (jKE _ _ id l _ hl FUEL 0 (by omega) (by unfold FUEL; omega)) ?_
  rw [List.drop_zero]
  cases jaO l id <;> rfl

theorem jiU (kr : Int → Option Res) (kt : Unit → Option Res) (l : List jai) (hl : l.length < 9223372036854775807) (hg : ∀ x ∈ l, jtt x) : ∀ (m i : Nat), i ≤ l.length → l.length - i < m →
    jjO FUEL kr kt l m (i : Int) = if formsOk (jfE l i) (l.drop i) then kt () else kr 3
  | 0, _, _, h => by omega
  | m + 1, i, hi, hm => by
    show jrK FUEL kr kt l (jjO FUEL kr kt l m) (i : Int) = _
    unfold jrK
    by_cases h : i < l.length
    · have hx := jJQ (rdd jaC l i) (hg _ (jbO h))
      simp only [jao, jal, jOP, q_z1v, hx, RS.get, Option.getD_some, Option.isSome_some, cond_true]
      rw [if_pos (by omega), if_pos (by omega), jaP jaC h, jaD (by omega), jiU kr kt l hl hg m (i + 1) (by omega) (by omega)]
      have hp : jfE l (i + 1) = (rdd jaC l i).1 := by simp [jfE]
      rw [hp]
      have hprev : i > 0 → Int.toNat (IntKind.wrap .i64 ((i : Int) - 1)) = i - 1 := fun h => by rw [jev h (by omega)]; rfl
      generalize hX : rdd jaC l i = x at *
      by_cases hf : jiP x
      · simp only [decide_eq_true hf, Bool.not_true, cond_false]
        by_cases h3 : i = 0
        · subst h3
          rw [if_neg (by omega)]
          have h1 : 0 < x.1 := by have := hf.1; unfold jct at this; omega
          simp only [formsOk, hf, jfE, if_pos, h1, true_and]
        · rw [if_pos (by omega), if_pos (by omega), hprev (by omega), if_pos (by rw [jev (by omega) (by omega)]; omega)]
          have hp2 : jfE l i = (rdd jaC l (i - 1)).1 := by simp [jfE, h3]
          rw [hp2]
          by_cases h4 : x.1 ≤ (rdd jaC l (i - 1)).1
          · rw [if_pos h4, if_neg (by simp only [formsOk]; omega)]
          · rw [if_neg h4]
            have h5 : (rdd jaC l (i - 1)).1 < x.1 := by omega
            simp only [formsOk, hf, h5, true_and]
      · simp only [decide_eq_false hf, Bool.not_false, cond_true]
        rw [if_neg (by simp only [formsOk]; exact fun k => hf k.1)]
    · simp only [jao]
      rw [if_neg (by omega), List.drop_of_length_le (by omega), if_pos (show formsOk _ [] from trivial)]

theorem jAP (kr : Int → Option Res) (kt : Unit → Option Res) (l : List jai) (hl : l.length < 9223372036854775807) (a : Int) (g : List Int) (hgl : g.length < 9223372036854775807) : ∀ (m i : Nat), i ≤ g.length → g.length - i < m →
    jjM FUEL kr kt l a g.length g m (i : Int) = if ∀ t ∈ g.drop i, jjf l t = true then kt () else kr 8
  | 0, _, _, h => by omega
  | m + 1, i, hi, hm => by
    show jrI FUEL kr kt l a g.length g (jjM FUEL kr kt l a g.length g m) (i : Int) = _
    unfold jrI
    by_cases h : i < g.length
    · have hin : (0 : Int) ≤ (i : Int) ∧ (i : Int) < ((g.length : Nat) : Int) := by omega
      simp only [jao, jal, jOO, q_z1x, Q_rFind l _ hl, RS.get, Option.getD_some, Option.isSome_some, cond_true, jaV, Bool.cond_not, if_pos hin]
      rw [if_pos (by omega), jaP (0 : Int) h, jaD (by omega), jAP kr kt l hl a g hgl m (i + 1) (by omega) (by omega)]
      generalize rdd (0 : Int) g i = t
      have hfb : (jml (jaO l t)).2.1 = (jaO l t).isSome := by cases jaO l t <;> rfl
      simp only [hfb, List.forall_mem_cons, jjf]
      cases hf : (jaO l t).isSome
      · by_cases h0 : t = 0
        · simp [h0]
        · by_cases h1 : t = 65535
          · simp [h1]
          · simp [h0, h1]
      · simp
    · simp only [jao]
      rw [if_neg (by omega), List.drop_of_length_le (by omega), if_pos (by simp)]

theorem jwS (kr : Int → Option Res) (kt : Unit → Option Res) (l : List jai) (hl : l.length < 9223372036854775807) (hg : ∀ x ∈ l, (jby x).length < 100000) : ∀ (m i : Nat), i ≤ l.length → l.length - i < m →
    jjN FUEL kr kt l m (i : Int) = if ∀ x ∈ l.drop i, ∀ t ∈ jgY x, jjf l t = true then kt () else kr 8
  | 0, _, _, h => by omega
  | m + 1, i, hi, hm => by
    show jrJ FUEL kr kt l (jjN FUEL kr kt l m) (i : Int) = _
    unfold jrJ
    by_cases h : i < l.length
    · have hx := juu (rdd jaC l i) (hg _ (jbO h))
      have hgl : (jgY (rdd jaC l i)).length < 9223372036854775807 := by
        have := hg _ (jbO (d := jaC) h)
        simp [jgY]; omega
      simp only [jao, jal, jyu, jKX, hx, RS.get, Option.getD_some, Option.isSome_some, cond_true]
      rw [if_pos (by omega), if_pos (by omega), jaP jaC h, jaD (by omega), jwS kr kt l hl hg m (i + 1) (by omega) (by omega)]
      refine Eq.trans (jAP _ _ l hl _ _ hgl FUEL 0 (by omega) (by unfold FUEL; omega)) ?_
      simp only [List.drop_zero, List.forall_mem_cons]
      by_cases h1 : ∀ t ∈ jgY (rdd jaC l i), jjf l t = true
      · rw [if_pos h1]
        by_cases h2 : ∀ x ∈ l.drop (i + 1), ∀ t ∈ jgY x, jjf l t = true
        · rw [if_pos h2, if_pos ⟨h1, h2⟩]
        · rw [if_neg h2, if_neg (fun k => h2 k.2)]
      · rw [if_neg h1, if_neg (fun k => h1 k.1)]
    · simp only [jao]
      rw [if_neg (by omega), List.drop_of_length_le (by omega), if_pos (by simp)]

theorem L_r66 (kr : Int → Option Res) (kt : Unit → Option Res) (l : List jai) (r : List Int) (hr : r.length < 1000000) : ∀ (m i : Nat), i ≤ r.length → r.length - i < m →
    jjL FUEL kr kt l r.length r m (i : Int) = if ∀ v ∈ r.drop i, v ≤ (l.length : Int) then kt () else kr 10
  | 0, _, _, h => by omega
  | m + 1, i, hi, hm => by
    show jrH FUEL kr kt l r.length r (jjL FUEL kr kt l r.length r m) (i : Int) = _
    unfold jrH
    simp only [jao, jal]
    by_cases h : i < r.length
    · rw [if_pos (by omega), if_pos (by omega), jaP (0 : Int) h, jaD (by omega), L_r66 kr kt l r hr m (i + 1) (by omega) (by omega)]
      simp only [List.forall_mem_cons]
      by_cases hv : rdd 0 r i > (l.length : Int)
      · rw [if_pos hv, if_neg (fun k => by have := k.1; omega)]
      · rw [if_neg hv]
        by_cases h2 : ∀ v ∈ r.drop (i + 1), v ≤ (l.length : Int)
        · rw [if_pos h2, if_pos ⟨by omega, h2⟩]
        · rw [if_neg h2, if_neg (fun k => h2 k.2)]
    · rw [if_neg (by omega), List.drop_of_length_le (by omega), if_pos (by simp)]

theorem Q_rMay (l : List jai) (hl : Nodes l) : ∃ v : Int, jMD l = some ((v, ()), ()) ∧ (v = 0 ↔ mayP l) := by
  by_cases h1 : formsOk 0 l
  case neg =>
    refine ⟨3, fin ?_, fun h => by omega, fun hm => absurd hm.1 h1⟩
    unfold juA
    refine Eq.trans (jiU _ _ l hl.len hl.g FUEL 0 (by omega) (by have := hl.len; unfold FUEL; omega)) ?_
    rw [List.drop_zero, show jfE l 0 = 0 from rfl, if_neg h1]
  by_cases h2 : l.length ≤ 32
  case neg =>
    refine ⟨12, fin ?_, fun h => by omega, fun hm => absurd hm.2.1 h2⟩
    unfold juA
    refine Eq.trans (jiU _ _ l hl.len hl.g FUEL 0 (by omega) (by have := hl.len; unfold FUEL; omega)) ?_
    rw [List.drop_zero, show jfE l 0 = 0 from rfl, if_pos h1, jao, if_pos (by omega)]
  have hrefs : (∀ x ∈ l, ∀ t ∈ jgY x, jjf l t = true) ↔ jfC l := by
    unfold jfC
    constructor
    · exact fun h x hx t ht => h x hx t (jiJ.2 ht)
    · exact fun h x hx t ht => h x hx t (jiJ.1 ht)
  by_cases h3 : jfC l
  case neg =>
    refine ⟨8, fin ?_, fun h => by omega, fun hm => absurd hm.2.2.1 h3⟩
    unfold juA
    refine Eq.trans (jiU _ _ l hl.len hl.g FUEL 0 (by omega) (by have := hl.len; unfold FUEL; omega)) ?_
    rw [List.drop_zero, show jfE l 0 = 0 from rfl, if_pos h1, jao, if_neg (by omega)]
    refine Eq.trans (jwS _ _ l hl.len hl.arms FUEL 0 (by omega) (by unfold FUEL; omega)) ?_
    rw [List.drop_zero, if_neg (fun k => h3 (hrefs.1 k))]
  have hr := Q_ranks l h2 hl.arms (jmk h1) (l.length + 1) (by omega)
  have e : IntKind.wrap .i64 ((l.length : Int) + 1) = ((l.length + 1 : Nat) : Int) := jaD (by omega)
  obtain ⟨r, hR⟩ : ∃ r : List Int, r = l.map fun (x : jai) => rk l (l.length + 1) x.1 := ⟨_, rfl⟩
  rw [← hR] at hr
  have hrl : r.length = l.length := by rw [hR]; simp
  have h6 := L_r66 (fun y8 => some (jaa jfv jfy ((y8, ()), ()))) (fun _ => some (jaa jfv jfy (((0 : Int), ()), ()))) l r (by omega) FUEL 0 (by omega) (by unfold FUEL; omega)
  rw [List.drop_zero, hrl] at h6
  have hM : juA FUEL l = (if ∀ v ∈ r, v ≤ (l.length : Int) then some (jaa jfv jfy (((0 : Int), ()), ())) else some (jaa jfv jfy (((10 : Int), ()), ()))) := by
    unfold juA
    refine Eq.trans (jiU _ _ l hl.len hl.g FUEL 0 (by omega) (by have := hl.len; unfold FUEL; omega)) ?_
    rw [List.drop_zero, show jfE l 0 = 0 from rfl, if_pos h1, jao, if_neg (by omega)]
    refine Eq.trans (jwS _ _ l hl.len hl.arms FUEL 0 (by omega) (by unfold FUEL; omega)) ?_
    rw [List.drop_zero, if_pos (hrefs.2 h3)]
    simp only [e, jON, q_z1y, hr, RS.get, Option.getD_some, Option.isSome_some, cond_true]
    exact h6
  by_cases h4 : ∀ v ∈ r, v ≤ (l.length : Int)
  · rw [if_pos h4] at hM
    exact ⟨0, fin hM, fun _ => ⟨h1, h2, h3, _, hgt_rk (r := l.length) fun x hx => h4 _ (by rw [hR]; exact List.mem_map.2 ⟨x, hx, rfl⟩)⟩, fun _ => rfl⟩
  · rw [if_neg h4] at hM
    refine ⟨10, fin hM, fun h => by omega, fun hm => ?_⟩
    exfalso
    apply h4
    intro v hv
    rw [hR] at hv
    obtain ⟨x, hx, rfl⟩ := List.mem_map.1 hv
    obtain ⟨h, H⟩ := hm.2.2.2
    exact Int.le_trans (jOA H _ _) (Hgt.le h2 hl.arms H x.1)

theorem L_Bit (k : Int → Option Res) : ∀ (m j v : Nat), j ≤ 7 → v < 256 → 7 - j < m → jjK FUEL k m (v : Int) (j : Int) = k ((v / 2 ^ (7 - j) : Nat) : Int)
  | 0, _, _, _, _, h => by omega
  | m + 1, j, v, hj, hv, hm => by
    show jrG FUEL k (jjK FUEL k m) (v : Int) (j : Int) = _
    unfold jrG
    simp only [jao]
    by_cases h : j < 7
    · have e2 : ((2 : Int) != 0) = true := by decide
      have e : IntKind.wrap .i64 (Int.tdiv (v : Int) 2) = ((v / 2 : Nat) : Int) := by
        rw [Int.tdiv_eq_ediv_of_nonneg (by omega), IntWalk.i64_in _ (by omega)]; omega
      rw [if_pos (by omega), e2, cond_true, e, jaD (by omega), L_Bit k m (j + 1) (v / 2) (by omega) (by omega) (by omega)]
      rw [Nat.div_div_eq_div_mul, show 7 - j = (7 - (j + 1)) + 1 by omega, Nat.pow_succ, Nat.mul_comm 2]
    · rw [if_neg (by omega)]
      have : j = 7 := by omega
      subst this; simp

theorem jKk (s : ByteArray) (i : Nat) (hi : i < 8 * s.size) (hs : s.size < 1000000000) : jMB s (i : Int) = some ((((jbC (bN s) i : Nat) : Int), ()), ()) := by
  refine fin ?_
  unfold jNU
  have e8 : ((8 : Int) != 0) = true := by decide
  have e2 : ((2 : Int) != 0) = true := by decide
  have e1 : IntKind.wrap .i64 (Int.tdiv (i : Int) 8) = ((i / 8 : Nat) : Int) := by
    rw [Int.tdiv_eq_ediv_of_nonneg (by omega), IntWalk.i64_in _ (by omega)]; omega
  have e3 : Int.tmod (i : Int) 8 = ((i % 8 : Nat) : Int) := rfl
  have hb := bN_lt s (i / 8)
  have e4 : IntKind.wrap .i64 (jbs s (i / 8)) = ((bN s (i / 8) : Nat) : Int) := by
    show IntKind.wrap .i64 ((bN s (i / 8) : Nat) : Int) = _
    exact IntWalk.i64_in _ (by omega)
  simp only [e8, e2, e1, e3, cond_true, jao, jal, e4]
  rw [if_pos (by omega)]
  refine Eq.trans (L_Bit _ FUEL (i % 8) (bN s (i / 8)) (by omega) hb (by unfold FUEL; omega)) ?_
  have e5 : Int.tmod ((bN s (i / 8) / 2 ^ (7 - i % 8) : Nat) : Int) 2 = ((jbC (bN s) i : Nat) : Int) := rfl
  have hlt : jbC (bN s) i < 2 := Nat.mod_lt _ (by decide)
  rw [e5, jiW, Nat.mod_eq_of_lt (by omega)]

theorem Q_Twice (h l b : Nat) (hb : b < 2) (hh : h < 18446744073709551616) (hl : l < 18446744073709551616) (hv : 2 * (h * 18446744073709551616 + l) + b < 340282366920938463463374607431768211456) :
    ∃ h' l', jMA (W2 h l) (b : Int) = some ((W2 h' l', ()), ()) ∧ h' < 18446744073709551616 ∧ l' < 18446744073709551616 ∧ h' * 18446744073709551616 + l' = 2 * (h * 18446744073709551616 + l) + b := by
  refine ⟨2 * h + l / 9223372036854775808, (2 * l) % 18446744073709551616 + b, fin ?_, by omega, by omega, by omega⟩
  unfold jNT
  have e : ((9223372036854775808 : Int) != 0) = true := by decide
  have w1 : IntKind.wrap .u64 ((W2 h l).1 * 2) = ((2 * h : Nat) : Int) := by
    have : (W2 h l).1 * 2 = ((2 * h : Nat) : Int) := by show (h : Int) * 2 = _; omega
    rw [this, jiW, Nat.mod_eq_of_lt (by omega)]
  have w2 : IntKind.wrap .u64 (Int.tdiv (W2 h l).2.1 9223372036854775808) = ((l / 9223372036854775808 : Nat) : Int) := by
    have : Int.tdiv (W2 h l).2.1 9223372036854775808 = ((l / 9223372036854775808 : Nat) : Int) := rfl
    rw [this, jiW, Nat.mod_eq_of_lt (by omega)]
  have w3 : IntKind.wrap .u64 ((W2 h l).2.1 * 2) = (((2 * l) % 18446744073709551616 : Nat) : Int) := by
    have : (W2 h l).2.1 * 2 = ((2 * l : Nat) : Int) := by show (l : Int) * 2 = _; omega
    rw [this, jiW]
  have w4 : IntKind.wrap .u64 (((2 * h : Nat) : Int) + ((l / 9223372036854775808 : Nat) : Int)) = ((2 * h + l / 9223372036854775808 : Nat) : Int) := by
    have : ((2 * h : Nat) : Int) + ((l / 9223372036854775808 : Nat) : Int) = ((2 * h + l / 9223372036854775808 : Nat) : Int) := by omega
    rw [this, jiW, Nat.mod_eq_of_lt (by omega)]
  have w5 : IntKind.wrap .u64 ((((2 * l) % 18446744073709551616 : Nat) : Int) + (b : Int)) = (((2 * l) % 18446744073709551616 + b : Nat) : Int) := by
    have : (((2 * l) % 18446744073709551616 : Nat) : Int) + (b : Int) = (((2 * l) % 18446744073709551616 + b : Nat) : Int) := by omega
    rw [this, jiW, Nat.mod_eq_of_lt (by omega)]
  simp only [e, cond_true, w1, w2, w3, w4, w5]
  rfl

theorem two128 {w : Nat} (h : w ≤ 128) : 2 ^ w ≤ 340282366920938463463374607431768211456 := Nat.le_trans (Nat.pow_le_pow_right (by decide) h) (by decide)
theorem bv_128 (bf : Nat → Nat) (off j : Nat) (h : j ≤ 128) : bv bf off j < 340282366920938463463374607431768211456 := Nat.lt_of_lt_of_le (jvD bf off j) (two128 h)
def U64 : Nat := 18446744073709551616
def val2 (h l : Nat) : Nat := h * 18446744073709551616 + l
theorem L_rGet (k : jaW → Option Res) (s : ByteArray) (hs : s.size < 1000000000) (off w : Nat) (hok : off + w ≤ 8 * s.size) (hw : w ≤ 128) (z : jaW) : ∀ (m j h l : Nat), j ≤ w → w - j < m → h < U64 → l < U64 → val2 h l = bv (bN s) off j →
    ∃ h' l', jfW FUEL k s (off : Int) (w : Int) 0 z m (j : Int) (W2 h l) = k (W2 h' l') ∧ h' < U64 ∧ l' < U64 ∧ val2 h' l' = bv (bN s) off w := by
  intro m
  induction m with
  | zero => intro j h l hj hm _ _ _; omega
  | succ m ih =>
    intro j h l hj hm hh hl hv
    show ∃ h' l', jkj FUEL k s (off : Int) (w : Int) 0 z (jfW FUEL k s (off : Int) (w : Int) 0 z m) (j : Int) (W2 h l) = k (W2 h' l') ∧ _
    unfold jkj
    simp only [jao]
    by_cases hjw : j < w
    · have e0 : ((0 : Int) == 0) = true := rfl
      have ei : IntKind.wrap .i64 ((off : Int) + (j : Int)) = ((off + j : Nat) : Int) := by rw [IntWalk.i64_in _ (by omega)]; omega
      rw [if_pos (by omega)]
      simp only [e0, cond_true, ei, jyt, jKW, jKk s (off + j) (by omega) hs, RS.get, Option.getD_some, Option.isSome_some]
      have hbl : jbC (bN s) (off + j) < 2 := Nat.mod_lt _ (by decide)
      have hbv : bv (bN s) off (j + 1) = 2 * bv (bN s) off j + jbC (bN s) (off + j) := rfl
      have h128 := bv_128 (bN s) off (j + 1) (by omega)
      obtain ⟨h1, l1, hq, a1, a2, a3⟩ := Q_Twice h l (jbC (bN s) (off + j)) hbl hh hl (by
        have hv' : h * 18446744073709551616 + l = bv (bN s) off j := hv
        rw [hv', ← hbv]; exact h128)
      simp only [jOK, q_z23, hq, RS.get, Option.getD_some, Option.isSome_some, cond_true]
      rw [jaD (by omega)]
      exact ih (j + 1) h1 l1 (by omega) (by omega) a1 a2 (by
        have hv' : h * 18446744073709551616 + l = bv (bN s) off j := hv
        have a3' : val2 h1 l1 = 2 * (h * 18446744073709551616 + l) + jbC (bN s) (off + j) := a3
        rw [a3', hv', hbv])
    · rw [if_neg (by omega)]
      have : j = w := by omega
      subst this
      exact ⟨h, l, rfl, hh, hl, hv⟩

theorem jQT (s : ByteArray) (off w : Nat) (hs : s.size < 1000000000) (h1 : 1 ≤ w) (h2 : w ≤ 128) (h3 : off < 1000000000) : jJE s (off : Int) (w : Int) = some ((if off + w ≤ 8 * s.size then 0 else 4, ()), ()) := by
  refine fin ?_
  unfold jKq
  simp only [jao]
  rw [if_neg (by omega), if_neg (by omega), if_neg (by omega)]
  have hw : IntKind.wrap .i64 (IntKind.wrap .i64 (8 * (s.size : Int)) - (w : Int)) = 8 * (s.size : Int) - w := by
    rw [IntWalk.i64_in (8 * (s.size : Int)) (by omega), IntWalk.i64_in _ (by omega)]
  rw [hw]
  by_cases h : off + w ≤ 8 * s.size
  · rw [if_neg (by omega), if_pos h]
  · rw [if_pos (by omega), if_neg h]

theorem jQU (s : ByteArray) (off w : Nat) (hs : s.size < 1000000000) (h1 : 1 ≤ w) (h2 : w ≤ 128) (h3 : off < 1000000000) :
    ∃ h l, jMz s (off : Int) (w : Int) = some ((W2 h l, (if off + w ≤ 8 * s.size then 0 else 4, ())), ()) ∧ h < 18446744073709551616 ∧ l < 18446744073709551616 ∧ h * 18446744073709551616 + l = (if off + w ≤ 8 * s.size then bv (bN s) off w else 0) := by
  by_cases h : off + w ≤ 8 * s.size
  · obtain ⟨x, y, e, a1, a2, a3⟩ := L_rGet (fun y4 => some (jaa jnY jof ((y4, ((0 : Int), ())), ()))) s hs off w h h2 (W2 0 0) FUEL 0 0 0 (by omega) (by unfold FUEL; omega) (by decide) (by decide) rfl
    refine ⟨x, y, fin ?_, a1, a2, by rw [if_pos h]; exact a3⟩
    unfold jKp
    simp only [jmc, jvj, jQT s off w hs h1 h2 h3, RS.get, Option.getD_some, Option.isSome_some, cond_true, if_pos h]
    exact e
  · refine ⟨0, 0, fin ?_, by decide, by decide, by rw [if_neg h]⟩
    unfold jKp
    simp only [jmc, jvj, jQT s off w hs h1 h2 h3, RS.get, Option.getD_some, Option.isSome_some, cond_true, if_neg h]
    have h0 : ∀ m, 0 < m → jfW FUEL (fun y4 => some (jaa jnY jof ((y4, ((4 : Int), ())), ()))) s (off : Int) (w : Int) 4 (0, (0, ())) m 0 (0, (0, ())) = some (jaa jnY jof ((W2 0 0, ((4 : Int), ())), ())) := fun m hm => by
      cases m with
      | zero => omega
      | succ m =>
        show jkj FUEL _ s (off : Int) (w : Int) 4 _ (jfW FUEL _ s (off : Int) (w : Int) 4 _ m) 0 _ = _
        unfold jkj
        rw [jao, if_pos (by omega)]
        rfl
    exact h0 FUEL (by unfold FUEL; omega)

theorem jut (s : ByteArray) (at_ : Int) (off w : Nat) (hs : s.size < 1000000000) (h1 : 1 ≤ w) (h2 : w ≤ 32) (h3 : off < 1000000) :
    jMy s at_ (off : Int) (w : Int) = some (((numV s at_ off w).1, ((numV s at_ off w).2, ())), ()) := by
  refine fin ?_
  unfold jNS
  simp only [jao]
  by_cases a1 : at_ < 0
  · rw [if_pos a1]; unfold numV; rw [if_neg (by omega)]
  rw [if_neg a1]
  by_cases a2 : at_ > (s.size : Int)
  · rw [if_pos a2]; unfold numV; rw [if_neg (by omega)]
  rw [if_neg a2, if_pos (by omega)]
  obtain ⟨a, rfl⟩ := Int.eq_ofNat_of_zero_le (Int.not_lt.1 a1)
  have hb : ∀ i, a + i < s.size → bN (s.extract a s.size) i = bN s (a + i) := fun i hi => by
    have := jgL (s := s) (a := a) (i := i) hi
    rw [jum, jum] at this
    exact Int.ofNat_inj.1 this
  obtain ⟨x, y, hq, b1, b2, b3⟩ := jQU (s.extract a s.size) off w (by rw [jeo]; omega) h1 (by omega) (by omega)
  rw [jeo] at hq b3
  simp only [Int.ofNat_eq_natCast, jal] at *
  simp only [jys, jKV, hq, RS.get, Option.getD_some, Option.isSome_some, cond_true]
  rw [jpU s a off w h1 h2]
  by_cases h : off + w ≤ 8 * (s.size - a)
  · rw [if_pos h] at b3
    rw [if_pos h, if_pos ⟨by omega, h⟩]
    have e : bv (bN (s.extract a s.size)) off w = bv (bN s) (8 * a + off) w := by
      rw [← jkU]
      have : ∀ n, off + n ≤ off + w → bv (bN (s.extract a s.size)) off n = bv (fun j => bN s (a + j)) off n := fun n => by
        induction n with
        | zero => intro _; rfl
        | succ n ih =>
          intro hn
          simp only [bv]
          rw [ih (by omega)]
          unfold jbC
          rw [hb _ (by omega)]
      exact this w (by omega)
    rw [e] at b3
    have hlt := jvD (bN s) (8 * a + off) w
    have := two32 h2
    have hy : y = bv (bN s) (8 * a + off) w := by omega
    have e1 : IntKind.wrap .i64 (W2 x y).2.1 = ((bv (bN s) (8 * a + off) w : Nat) : Int) := by
      rw [← hy]; exact IntWalk.i64_in _ (by show _ ≤ (y : Int) ∧ (y : Int) ≤ _; omega)
    rw [e1]; rfl
  · rw [if_neg h] at b3
    rw [if_neg h, if_neg (fun k => h k.2)]
    have hy : y = 0 := by omega
    have hx : x = 0 := by omega
    subst hy; subst hx; rfl

theorem jNp (x : jai) : jMC x = some ((decide (mayL x), ()), ()) := jQS x

theorem Q_rSize (x : jai) (s : ByteArray) (at_ : Int) (hs : s.size < 1000000000) : jMx x s at_ = some (((jed x s at_).1, ((jed x s at_).2, ())), ()) := by
  refine fin ?_
  unfold jNR jed
  simp only [jOL, q_z20, jNp, RS.get, Option.getD_some, Option.isSome_some, cond_true]
  by_cases hm : mayL x
  · rw [if_neg (fun h => h hm)]
    simp only [hm, decide_true, Bool.not_true, cond_false]
    by_cases hw : x.2.2.2.1 > 0
    · rw [if_pos hw]
      simp only [hw, decide_true, cond_true]
      have e1 : ((x.2.2.1.toNat : Nat) : Int) = x.2.2.1 := by have := hm.2.1; omega
      have e2 : ((x.2.2.2.1.toNat : Nat) : Int) = x.2.2.2.1 := by omega
      have hQ := jut s at_ x.2.2.1.toNat x.2.2.2.1.toNat hs (by omega) (by have := hm.2.2.1; omega) (by have := hm.2.1; omega)
      rw [e1, e2] at hQ
      simp only [jyr, jKU, hQ, RS.get, Option.getD_some, Option.isSome_some, cond_true]
      cases hv : (numV s at_ x.2.2.1.toNat x.2.2.2.1.toNat).2 with
      | false => rw [if_pos rfl]; rfl
      | true =>
        rw [if_neg (by simp)]
        simp only [Bool.not_true, cond_false]
        exact jkS s at_ _ hs
    · rw [if_neg hw]
      simp only [hw, decide_false, cond_false]
      exact jkS s at_ _ hs
  · rw [if_pos hm]
    simp only [hm, decide_false, Bool.not_false, cond_true]

def jkN (l : List ArmS) (v : Int) : Option ArmS := l.find? fun a => decide (a.1 = v)
def armV (o : Option ArmS) (d : Int) : Int := match o with
  | some a => a.2.1
  | none => d

theorem jKK (kr : Int → Option Res) (kt : Unit → Option Res) (v : Int) (l : List ArmS) (z : jai) (hl : l.length < 9223372036854775807) : ∀ (m i : Nat), i ≤ l.length → l.length - i < m →
    jeB FUEL kr kt v l (l.length : Int) z m (i : Int) = match jkN (l.drop i) v with | some a => kr a.2.1 | none => kt ()
  | 0, _, _, h => by omega
  | m + 1, i, hi, hm => by
    show jii FUEL kr kt v l (l.length : Int) z (jeB FUEL kr kt v l (l.length : Int) z m) (i : Int) = _
    unfold jii
    simp only [jao, jaQ, jal]
    by_cases h : i < l.length
    · rw [if_pos (by omega), if_pos (by omega), jaD (by omega), jaP jbq h]
      simp only [jkN, List.find?_cons]
      by_cases he : (rdd jbq l i).1 = v
      · simp [he]
      · rw [if_neg he, jKK kr kt v l z hl m (i + 1) (by omega) (by omega)]
        simp [he, jkN]
    · rw [if_neg (by omega), List.drop_of_length_le (by omega)]
      rfl
theorem jyM (l : List jai) (hl : Nodes l) {x : jai} (hf : jaO l x.1 = some x) (v : Int) : jeY l x v = armV (jkN (jby x) v) (jme x) := by
  have harm := hl.arms x (jbb hf).1
  have hq : jwF l x.1 v = some ((armV (jkN (jby x) v) (jme x), ()), ()) := by
    refine fin ?_
    unfold jKs
    simp only [jfK, jlT, joL l x.1 hl.len, RS.get, Option.getD_some, Option.isSome_some, cond_true, hf, jml]
    refine Eq.trans (jKK _ _ v (jby x) x (by omega) FUEL 0 (by omega) (by unfold FUEL; omega)) ?_
    rw [List.drop_zero]
    cases jkN (jby x) v <;> rfl
  unfold jeY jBv
  rw [hq]; rfl

theorem juq {sel : Nat} : ∀ {p : Int} {l : List ArmS}, jcN sel p l = true → ∀ v, v ≤ p → jkN l v = none
  | p, [], _, v, _ => rfl
  | p, a :: r, h, v, hv => by
    simp only [jcN, Bool.and_eq_true, decide_eq_true_eq] at h
    unfold jkN
    rw [List.find?_cons]
    have : ¬ a.1 = v := by omega
    simp only [this, decide_false]
    exact juq h.2 v (by omega)

theorem jwT (kt : Int → Option Res) (l : List jai) (s : ByteArray) (N : Nat) (a3 a4 a5 v : Int) (hd : List jan) (x : jai) (hlen : (jby x).length ≤ 32) (hg : ∀ a ∈ jby x, 0 ≤ a.1 ∧ a.1 ≤ 4294967295) {sel : Nat} : ∀ (m i : Nat) (acc : Int), i ≤ (jby x).length → (jby x).length - i < m → (∃ p, jcN sel p ((jby x).drop i) = true) →
    jjI FUEL kt l s N a3 a4 a5 v hd x m acc (i : Int) = kt (armV (jkN ((jby x).drop i) v) acc)
  | 0, _, _, _, h, _ => by omega
  | m + 1, i, acc, hi, hm, hp => by
    show jrE FUEL kt l s N a3 a4 a5 v hd x (jjI FUEL kt l s N a3 a4 a5 v hd x m) acc (i : Int) = _
    unfold jrE
    have harm : x.2.2.2.2.2.2.2.1 = jby x := rfl
    rw [harm]
    by_cases h : i < (jby x).length
    · have hin : (0 : Int) ≤ (i : Int) ∧ (i : Int) < (((jby x).length : Nat) : Int) := by omega
      simp only [jao, jaQ, jal, if_pos hin]
      rw [if_pos (by omega), jaD (by omega)]
      have hgr := hg _ (jbO (d := jbq) h)
      rw [IntWalk.i64_in (rdd jbq (jby x) i).1 (by omega)]
      obtain ⟨p, hp⟩ := hp
      rw [jaP jbq h] at hp ⊢
      simp only [jcN, Bool.and_eq_true, decide_eq_true_eq] at hp
      by_cases he : (rdd jbq (jby x) i).1 = v
      · rw [if_pos he, jwT kt l s N a3 a4 a5 v hd x hlen hg m (i + 1) _ (by omega) (by omega) ⟨_, hp.2⟩]
        rw [juq hp.2 v (by omega)]
        simp [jkN, armV, he]
      · rw [if_neg he, jwT kt l s N a3 a4 a5 v hd x hlen hg m (i + 1) _ (by omega) (by omega) ⟨_, hp.2⟩]
        simp [jkN, he]
    · simp only [jao]
      rw [if_neg (by omega), List.drop_of_length_le (by omega)]
      rfl

theorem joD : ∀ {p : Int} {l : List jai}, formsOk p l → ∀ v, v ≤ p → jaO l v = none
  | p, [], _, v, _ => rfl
  | p, a :: r, h, v, hv => by
    obtain ⟨h1, h2, h3⟩ := h
    unfold jaO
    rw [List.find?_cons]
    have : ¬ a.1 = v := by omega
    simp only [this, decide_false]
    exact joD h3 v (by omega)

theorem jrr (kt : jai → Option Res) (l : List jai) (hl : l.length ≤ 32) (s : ByteArray) (N : Nat) (id a4 a5 : Int) (hd : List jan) : ∀ (m i : Nat) (acc : jai), i ≤ l.length → l.length - i < m → (∃ p, formsOk p (l.drop i)) →
    jjJ FUEL kt l s N id a4 a5 hd m (i : Int) acc = kt ((jaO (l.drop i) id).getD acc)
  | 0, _, _, _, h, _ => by omega
  | m + 1, i, acc, hi, hm, hp => by
    show jrF FUEL kt l s N id a4 a5 hd (jjJ FUEL kt l s N id a4 a5 hd m) (i : Int) acc = _
    unfold jrF
    by_cases h : i < l.length
    · have hin : (0 : Int) ≤ (i : Int) ∧ (i : Int) < ((l.length : Nat) : Int) := by omega
      simp only [jao, jaQ, jal, if_pos hin]
      rw [if_pos (by omega), jaD (by omega)]
      obtain ⟨p, hp⟩ := hp
      rw [jaP jaC h] at hp ⊢
      obtain ⟨_, _, h3⟩ := hp
      by_cases he : (rdd jaC l i).1 = id
      · rw [if_pos he, jrr kt l hl s N id a4 a5 hd m (i + 1) _ (by omega) (by omega) ⟨_, h3⟩]
        rw [joD h3 id (by omega)]
        simp [jaO, he]
      · rw [if_neg he, jrr kt l hl s N id a4 a5 hd m (i + 1) _ (by omega) (by omega) ⟨_, h3⟩]
        simp [jaO, he]
    · simp only [jao]
      rw [if_neg (by omega), List.drop_of_length_le (by omega)]
      rfl

theorem jKA (k : Nat → Int → Int → List jan → Option Res) (l : List jai) (hl : Nodes l) (hm : mayP l) {h : Int → Int} (H : Hgt l h) (s : ByteArray) (hs : s.size ≤ 10000) :
    ∀ (f m : Nat) (a : Nat) (cnt : Int) (hd : List jan) (x : jai), jaO l x.1 = some x → (h x.1).toNat ≤ f → f ≤ 64 → f < m → a ≤ s.size → 0 ≤ cnt → cnt + f ≤ 100 → hd.length + f ≤ 100 →
    jfi FUEL k l s m hd.length x.1 (a : Int) cnt hd = k (hd ++ (W l s f (a : Int) x).1).length (cnt + (W l s f (a : Int) x).2.1) (W l s f (a : Int) x).2.2 (hd ++ (W l s f (a : Int) x).1)
  | 0, m, a, cnt, hd, x, hf, hh, _, _, _, _, _, _ => by
    have := (H.pos x.1).2 (by rw [hf]; rfl)
    omega
  | f + 1, 0, a, cnt, hd, x, hf, hh, h64, hmm, _, _, _, _ => by omega
  | f + 1, m + 1, a, cnt, hd, x, hf, hh, h64, hmm, ha, h1, h2, h3 => by
    have hid := jyW hm.1 hf
    have hml := mayL_of hm hf
    have hsel := jyP hm hf
    have hfm := jcy hm.1 x (jbb hf).1
    have hg := hl.g x (jbb hf).1
    show jki FUEL k l s (jfi FUEL k l s m) hd.length x.1 (a : Int) cnt hd = _
    unfold jki
    refine Eq.trans (jrr _ l hm.2.1 s hd.length x.1 (a : Int) cnt hd FUEL 0 _ (by omega) (by have := hm.2.1; unfold FUEL; omega) ⟨0, by rw [List.drop_zero]; exact hm.1⟩) ?_
    rw [List.drop_zero, hf, Option.getD_some]
    have hx0 : (x.1 == (0 : Int)) = false := by rw [jaQ]; exact decide_eq_false (by omega)
    have hc : IntKind.wrap .i64 (cnt + 1) = cnt + 1 := IntWalk.i64_in _ (by omega)
    have hroom : (decide ((hd.length + 1) * 16 ≤ 2 ^ 46 ∧ hd.length + 1 ≤ 2 ^ 46)) = true := by
      rw [decide_eq_true_eq]; omega
    simp only [hx0, cond_false, jOJ, q_z26, Q_rSize x s (a : Int) (by omega), RS.get, Option.getD_some, Option.isSome_some, cond_true, hc, jbI, hroom]
    simp only [W]
    by_cases hz : (jed x s (a : Int)).2 = 0
    case neg =>
      rw [if_pos hz, jaV, decide_eq_false hz]
      simp
    obtain ⟨z, ez, hz1, hz2⟩ := jBe hml hz
    have ewrap : IntKind.wrap .i64 ((a : Int) + (z : Int)) = ((a + z : Nat) : Int) := by rw [IntWalk.i64_in _ (by omega)]; omega
    rw [if_neg (by simp [hz]), jaV, decide_eq_true hz]
    simp only [Bool.not_true, cond_false, ez, ewrap]
    have next : ∀ v, jco l x s (a : Int) = goV l x v →
        (cond (jeY l x v == (65535 : Int)) (k (hd.length + 1) (cnt + 1) 4 (hd ++ [(x.1, ((a : Int), ()))]))
          (cond (jeY l x v == (0 : Int)) (k (hd.length + 1) (cnt + 1) 0 (hd ++ [(x.1, ((a : Int), ()))]))
            (jfi FUEL k l s m (hd.length + 1) (jeY l x v) ((a + z : Nat) : Int) (cnt + 1) (hd ++ [(x.1, ((a : Int), ()))])))) =
        k (hd ++ (if (jco l x s (a : Int)).2 ≠ 0 then ([(x.1, ((a : Int), ()))], (1, (jco l x s (a : Int)).2)) else match jaO l (jco l x s (a : Int)).1 with
          | none => ([(x.1, ((a : Int), ()))], (1, 0))
          | some y => ((x.1, ((a : Int), ())) :: (W l s f ((a + z : Nat) : Int) y).1, (1 + (W l s f ((a + z : Nat) : Int) y).2.1, (W l s f ((a + z : Nat) : Int) y).2.2)) : List jan × (Int × Int)).1).length
          (cnt + (if (jco l x s (a : Int)).2 ≠ 0 then ([(x.1, ((a : Int), ()))], (1, (jco l x s (a : Int)).2)) else match jaO l (jco l x s (a : Int)).1 with
          | none => ([(x.1, ((a : Int), ()))], (1, 0))
          | some y => ((x.1, ((a : Int), ())) :: (W l s f ((a + z : Nat) : Int) y).1, (1 + (W l s f ((a + z : Nat) : Int) y).2.1, (W l s f ((a + z : Nat) : Int) y).2.2)) : List jan × (Int × Int)).2.1)
          (if (jco l x s (a : Int)).2 ≠ 0 then ([(x.1, ((a : Int), ()))], (1, (jco l x s (a : Int)).2)) else match jaO l (jco l x s (a : Int)).1 with
          | none => ([(x.1, ((a : Int), ()))], (1, 0))
          | some y => ((x.1, ((a : Int), ())) :: (W l s f ((a + z : Nat) : Int) y).1, (1 + (W l s f ((a + z : Nat) : Int) y).2.1, (W l s f ((a + z : Nat) : Int) y).2.2)) : List jan × (Int × Int)).2.2
          (hd ++ (if (jco l x s (a : Int)).2 ≠ 0 then ([(x.1, ((a : Int), ()))], (1, (jco l x s (a : Int)).2)) else match jaO l (jco l x s (a : Int)).1 with
          | none => ([(x.1, ((a : Int), ()))], (1, 0))
          | some y => ((x.1, ((a : Int), ())) :: (W l s f ((a + z : Nat) : Int) y).1, (1 + (W l s f ((a + z : Nat) : Int) y).2.1, (W l s f ((a + z : Nat) : Int) y).2.2)) : List jan × (Int × Int)).1) := fun v hv => by
      rw [hv]
      have hmem := (jpV l hl hf v).1
      by_cases h65 : jeY l x v = 65535
      · have eg : goV l x v = (0, 4) := by unfold goV; rw [if_pos h65]
        rw [eg, jaQ, decide_eq_true h65]
        simp
      · have eg : goV l x v = (jeY l x v, 0) := by unfold goV; rw [if_neg h65]
        have hfl := find_lt hm H hf hmem
        rw [eg, jaQ, decide_eq_false h65, jaQ]
        simp only [cond_false, ne_eq, not_true, if_false]
        cases hfy : jaO l (jeY l x v) with
        | none =>
          have h0 : jeY l x v = 0 := by
            rcases hfl.2 with h | h | h
            · exact absurd hfy h
            · exact h
            · exact absurd h h65
          rw [decide_eq_true h0]
          simp
        | some y =>
          obtain ⟨_, hy⟩ := jbb hfy
          have hr := jyW hm.1 hfy
          rw [decide_eq_false (by omega)]
          simp only [cond_false]
          have hnn := H.nonneg y.1
          have hlt' : h y.1 < h x.1 := by rw [hy]; exact hfl.1
          have := jKA k l hl hm H s hs f m (a + z) (cnt + 1) (hd ++ [(x.1, ((a : Int), ()))]) y (by rw [hy]; exact hfy) (by omega) (by omega) (by omega) hz1 (by omega) (by omega) (by simp; omega)
          rw [show (hd ++ [(x.1, ((a : Int), ()))]).length = hd.length + 1 by simp, hy] at this
          rw [this]
          simp only [List.append_assoc, List.singleton_append]
          rw [show cnt + 1 + (W l s f ((a + z : Nat) : Int) y).2.1 = cnt + (1 + (W l s f ((a + z : Nat) : Int) y).2.1) by omega]
    by_cases hw : x.2.2.2.2.2.2.1 > 0
    · have e1 : ((x.2.2.2.2.2.1.toNat : Nat) : Int) = x.2.2.2.2.2.1 := by omega
      have e2 : ((x.2.2.2.2.2.2.1.toNat : Nat) : Int) = x.2.2.2.2.2.2.1 := by omega
      have hQ := jut s (a : Int) x.2.2.2.2.2.1.toNat x.2.2.2.2.2.2.1.toNat (by omega) (by omega) (by omega) (by omega)
      rw [e1, e2] at hQ
      have hn := jpU s a x.2.2.2.2.2.1.toNat x.2.2.2.2.2.2.1.toNat (by omega) (by omega)
      have hnx : jco l x s (a : Int) = if (numV s (a : Int) x.2.2.2.2.2.1.toNat x.2.2.2.2.2.2.1.toNat).2 = false then (0, 1) else goV l x (IntKind.wrap .u32 (numV s (a : Int) x.2.2.2.2.2.1.toNat x.2.2.2.2.2.2.1.toNat).1) := by
        unfold jco
        rw [if_pos hw]
      simp only [hw, decide_true, cond_true, jyr, jKU, hQ, RS.get, Option.getD_some, Option.isSome_some]
      by_cases hok : a ≤ s.size ∧ x.2.2.2.2.2.1.toNat + x.2.2.2.2.2.2.1.toNat ≤ 8 * (s.size - a)
      · rw [if_pos hok] at hn
        have hbl := jvD (bN s) (8 * a + x.2.2.2.2.2.1.toNat) x.2.2.2.2.2.2.1.toNat
        have h32 := two32 (show x.2.2.2.2.2.2.1.toNat ≤ 32 by omega)
        rw [hn] at hnx ⊢
        rw [if_neg (by simp), wrap32 _ (by omega)] at hnx
        simp only [Bool.not_true, cond_false]
        refine Eq.trans (jwT _ l s _ _ _ _ _ _ x (by have := hfm.1.1; unfold jct at this; exact this.2.2.2.2.2.2.1) hg (sel := x.2.2.2.2.2.2.1.toNat) FUEL 0 _ (by omega) (by have := hfm.1.1; unfold jct at this; have := this.2.2.2.2.2.2.1; unfold jby; unfold FUEL; omega) ⟨-1, by rw [List.drop_zero]; exact hfm.1.2⟩) ?_
        rw [List.drop_zero]
        have ht := jyM l hl hf ((bv (bN s) (8 * a + x.2.2.2.2.2.1.toNat) x.2.2.2.2.2.2.1.toNat : Nat) : Int)
        have ht' : armV (jkN (jby x) ((bv (bN s) (8 * a + x.2.2.2.2.2.1.toNat) x.2.2.2.2.2.2.1.toNat : Nat) : Int)) x.2.2.2.2.2.2.2.2.1 = jeY l x ((bv (bN s) (8 * a + x.2.2.2.2.2.1.toNat) x.2.2.2.2.2.2.1.toNat : Nat) : Int) := ht.symm
        rw [ht']
        exact next _ hnx
      · rw [if_neg hok] at hn
        rw [hn] at hnx ⊢
        rw [if_pos rfl] at hnx
        simp only [Bool.not_false, cond_true, hnx]
        simp
    · have hnx : jco l x s (a : Int) = goV l x 0 := by
        unfold jco
        rw [if_neg hw]
        rfl
      simp only [hw, decide_false, cond_false]
      have harm : jby x = [] := by
        have := hfm.1.1
        unfold jct at this
        have h8 := this.2.2.2.2.2.2.2.2
        have : x.2.2.2.2.2.2.2.1.length = 0 := by omega
        exact List.length_eq_zero_iff.1 this
      have ht : x.2.2.2.2.2.2.2.2.1 = jeY l x 0 := by
        rw [jyM l hl hf, harm]; rfl
      rw [ht]
      exact next 0 hnx

theorem jJS (l : List jai) (hl : Nodes l) (s : ByteArray) (hs : s.size ≤ 10000) : jMw l s = some (((jbg l s).1.length, ((jbg l s).2.1, ((jbg l s).2.2, ()))), ((jbg l s).1, ())) := by
  refine fin ?_
  unfold jNQ
  obtain ⟨v, hv, hm0⟩ := Q_rMay l hl
  simp only [jOM, q_z1z, hv, RS.get, Option.getD_some, Option.isSome_some, cond_true, jaV]
  by_cases hm : mayP l
  · rw [decide_eq_true (hm0.2 hm)]
    simp only [Bool.not_true, cond_false]
    have hw : jbg l s = (match jaO l 1 with | some x => W l s 64 0 x | none => ([], (0, 0))) := by unfold jbg; rw [if_pos hm]; rfl
    obtain ⟨h, H⟩ := hm.2.2.2
    cases hf : jaO l 1 with
    | none =>
      rw [hf] at hw
      have hw' : jbg l s = ([], (0, 0)) := hw
      rw [hw']
      have h0 : ∀ (k : Nat → Int → Int → List jan → Option Res) m, 0 < m → jfi FUEL k l s m 0 1 0 0 [] = k 0 0 0 [] := fun k m hmm => by
        cases m with
        | zero => omega
        | succ m =>
          show jki FUEL k l s (jfi FUEL k l s m) 0 1 0 0 [] = _
          unfold jki
          refine Eq.trans (jrr _ l hm.2.1 s 0 1 0 0 [] FUEL 0 _ (by omega) (by have := hm.2.1; unfold FUEL; omega) ⟨0, by rw [List.drop_zero]; exact hm.1⟩) ?_
          rw [List.drop_zero, hf, Option.getD_none]
          rfl
      exact h0 _ FUEL (by unfold FUEL; omega)
    | some x =>
      rw [hf] at hw
      have hw' : jbg l s = W l s 64 0 x := hw
      obtain ⟨_, hx⟩ := jbb hf
      have hle := Hgt.le hm.2.1 hl.arms H x.1
      have h32 := hm.2.1
      have := jKA (fun y6 y7 y8 y9 => some (jaa jsy jsO ((y6, (y7, (y8, ()))), (y9, ())))) l hl hm H s hs 64 FUEL 0 0 [] x (by rw [hx]; exact hf) (by omega) (by omega) (by unfold FUEL; omega) (by omega) (by omega) (by omega) (by simp)
      rw [hx] at this
      simp only [List.nil_append, List.length_nil, Int.zero_add] at this
      rw [hw']
      exact this
  · have hn : ¬ v = 0 := fun e => hm (hm0.1 e)
    rw [decide_eq_false hn]
    have hw : jbg l s = ([], (0, 0)) := by unfold jbg; rw [if_neg hm]
    rw [hw]; rfl
end Go.AMach
