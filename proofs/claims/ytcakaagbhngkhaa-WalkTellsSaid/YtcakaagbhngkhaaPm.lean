/- Layer 16: numbers of bits. -/
import Derived.Test.YtcakaagbhngkhaaPk
import Derived.Test.YtcakaagbhngkhaaPl
namespace Go.AMach
set_option linter.unusedVariables false
set_option linter.unusedSimpArgs false
set_option linter.unnecessarySimpa false
open Go
set_option linter.unusedVariables false

def bN (s : ByteArray) (i : Nat) : Nat := (s.data.toList.getD i 0).toNat
theorem byteAt_bN (s : ByteArray) : byteAt s = fun i => ((bN s i : Nat) : Int) := rfl
theorem bN_lt (s : ByteArray) (i : Nat) : bN s i < 256 := UInt8.toNat_lt _
theorem bitOf_shift (bf : Nat → Nat) (a i : Nat) : bitOf (fun j => bf (a + j)) i = bitOf bf (8 * a + i) := by
  unfold bitOf
  rw [show (8 * a + i) / 8 = a + i / 8 by omega, show (8 * a + i) % 8 = i % 8 by omega]
theorem bv_shift (bf : Nat → Nat) (a off : Nat) : ∀ w, bv (fun j => bf (a + j)) off w = bv bf (8 * a + off) w
  | 0 => rfl
  | w + 1 => by
    simp only [bv]
    rw [bv_shift bf a off w, bitOf_shift, Nat.add_assoc]

theorem two32 {w : Nat} (h : w ≤ 32) : 2 ^ w ≤ 4294967296 := Nat.le_trans (Nat.pow_le_pow_right (by decide) h) (by decide)

theorem numV_val (s : ByteArray) (a : Nat) (off w : Nat) (h1 : 1 ≤ w) (h2 : w ≤ 32) :
    numV s (a : Int) off w = if a ≤ s.size ∧ off + w ≤ 8 * (s.size - a) then (((bv (bN s) (8 * a + off) w : Nat) : Int), true) else (0, false) := by
  unfold numV
  by_cases h : a ≤ s.size ∧ off + w ≤ 8 * (s.size - a)
  · rw [if_pos h, if_pos (by simp only [toNat_cast]; omega)]
    obtain ⟨x, y, e, hx, hy, hv⟩ := getP_val (fun i => bN s (a + i)) (fun i => bN_lt s _) off w h1 (by omega)
    have e' : getP (fun i => byteAt s ((a : Int).toNat + i)) off w = W2 x y := e
    rw [e', ← bv_shift, ← hv]
    have hlt := bv_lt (fun i => bN s (a + i)) off w
    have := two32 h2
    have hy' : IntKind.wrap .i64 (W2 x y).2.1 = (y : Int) := IntWalk.i64_in _ (by show _ ≤ (y : Int) ∧ (y : Int) ≤ _; omega)
    rw [hy']
    have : x * 18446744073709551616 + y = y := by omega
    rw [this]
  · rw [if_neg h, if_neg (by simp only [toNat_cast]; omega)]

theorem and1 (b : Nat) (h : b < 256) : IntKind.wrap .u8 ((BitVec.toNat (BitVec.ofInt (IntKind.bits .u8) (b : Int) &&& BitVec.ofInt (IntKind.bits .u8) (1 : Int)) : Nat) : Int) = ((b % 2 : Nat) : Int) := by
  have e : BitVec.toNat (BitVec.ofInt (IntKind.bits .u8) (b : Int) &&& BitVec.ofInt (IntKind.bits .u8) (1 : Int)) = b % 2 := by
    show BitVec.toNat (BitVec.ofInt 8 (b : Int) &&& BitVec.ofInt 8 (1 : Int)) = b % 2
    rw [BitVec.toNat_and, BitVec.toNat_ofInt, BitVec.toNat_ofInt]
    have e1 : ((b : Int) % ((2 ^ 8 : Nat) : Int)).toNat = b := by omega
    have e2 : ((1 : Int) % ((2 ^ 8 : Nat) : Int)).toNat = 1 := by decide
    rw [e1, e2, Nat.and_one_is_mod]
  rw [e]
  have : b % 2 < 2 := Nat.mod_lt _ (by decide)
  simp [IntKind.wrap, IntKind.bits, IntKind.signed]; omega

theorem wrap32 (n : Nat) (h : n < 4294967296) : IntKind.wrap .u32 (n : Int) = (n : Int) := by
  simp [IntKind.wrap, IntKind.bits, IntKind.signed]; omega

theorem L_bits (k : Int → Option Res) (s : ByteArray) (o w : Nat) (hw : w ≤ 32) (ho : o < 1000000000) (hs : o + w ≤ 8 * s.size) (hsz : s.size < 1000000000) : ∀ (m j : Nat), j ≤ w → w - j < m →
    L_turnoutlaw16_bits_0 FUEL k s (o : Int) (w : Int) m ((bv (bN s) o j : Nat) : Int) ((o + j : Nat) : Int) = k ((bv (bN s) o w : Nat) : Int)
  | 0, _, _, h => by omega
  | m + 1, j, hj, hm => by
    show F_turnoutlaw16_bits_0 FUEL k s (o : Int) (w : Int) (L_turnoutlaw16_bits_0 FUEL k s (o : Int) (w : Int) m) ((bv (bN s) o j : Nat) : Int) ((o + j : Nat) : Int) = _
    unfold F_turnoutlaw16_bits_0
    have ew : IntKind.wrap .i64 ((o : Int) + (w : Int)) = ((o + w : Nat) : Int) := by rw [IntWalk.i64_in _ (by omega)]; omega
    have e8 : ((8 : Int) != 0) = true := by decide
    simp only [cond_dec, ew, e8, cond_true]
    by_cases h : j < w
    · rw [if_pos (by omega)]
      have e1 : IntKind.wrap .i64 (Int.tdiv ((o + j : Nat) : Int) 8) = (((o + j) / 8 : Nat) : Int) := by
        rw [Int.tdiv_eq_ediv_of_nonneg (by omega), IntWalk.i64_in _ (by omega)]; omega
      have e2 : IntKind.wrap .i64 (7 - Int.tmod ((o + j : Nat) : Int) 8) = ((7 - (o + j) % 8 : Nat) : Int) := by
        have : Int.tmod ((o + j : Nat) : Int) 8 = (((o + j) % 8 : Nat) : Int) := rfl
        rw [this, IntWalk.i64_in _ (by omega)]; omega
      rw [e1, e2, if_pos (by omega), if_pos (by omega)]
      simp only [toNat_cast]
      have e3 : Int.fdiv (byteAt s ((o + j) / 8)) (2 ^ (min (7 - (o + j) % 8) (IntKind.bits .u8))) = ((bN s ((o + j) / 8) / 2 ^ (7 - (o + j) % 8) : Nat) : Int) := by
        have : min (7 - (o + j) % 8) (IntKind.bits .u8) = 7 - (o + j) % 8 := Nat.min_eq_left (by show _ ≤ 8; omega)
        rw [this, byteAt_bN, Int.fdiv_eq_ediv_of_nonneg _ (Int.le_of_lt (Int.pow_pos (by decide)))]
        push_cast; rfl
      have hb : bN s ((o + j) / 8) / 2 ^ (7 - (o + j) % 8) < 256 := Nat.lt_of_le_of_lt (Nat.div_le_self _ _) (bN_lt _ _)
      rw [e3, and1 _ hb]
      have hlt := bv_lt (bN s) o (j + 1)
      have h32 := two32 (show j + 1 ≤ 32 by omega)
      have hbv : bv (bN s) o (j + 1) = 2 * bv (bN s) o j + bN s ((o + j) / 8) / 2 ^ (7 - (o + j) % 8) % 2 := rfl
      have e4 : IntKind.wrap .u32 (2 * ((bv (bN s) o j : Nat) : Int)) = ((2 * bv (bN s) o j : Nat) : Int) := by
        rw [← wrap32 _ (show 2 * bv (bN s) o j < 4294967296 by omega)]; congr 1
      rw [e4, wrap32 (bN s ((o + j) / 8) / 2 ^ (7 - (o + j) % 8) % 2) (by omega)]
      have e5 : IntKind.wrap .u32 (((2 * bv (bN s) o j : Nat) : Int) + ((bN s ((o + j) / 8) / 2 ^ (7 - (o + j) % 8) % 2 : Nat) : Int)) = ((bv (bN s) o (j + 1) : Nat) : Int) := by
        rw [← wrap32 _ (show bv (bN s) o (j + 1) < 4294967296 by omega)]; congr 1
      rw [e5, i64_succ (by omega)]
      exact L_bits k s o w hw ho hs hsz m (j + 1) (by omega) (by omega)
    · rw [if_neg (by omega)]
      have : j = w := by omega
      subst this; rfl

theorem Q_bits (s : ByteArray) (o w : Nat) (hw : w ≤ 32) (ho : o < 1000000000) (hsz : s.size < 1000000000) :
    Q_turnoutlaw16_bits s (o : Int) (w : Int) = some ((if o + w ≤ 8 * s.size then (((bv (bN s) o w : Nat) : Int), (true, ())) else (0, (false, ()))), ()) := by
  refine fin ?_
  unfold M_turnoutlaw16_bits
  have ew : IntKind.wrap .i64 ((o : Int) + (w : Int)) = ((o + w : Nat) : Int) := by rw [IntWalk.i64_in _ (by omega)]; omega
  have es : IntKind.wrap .i64 (8 * (s.size : Int)) = ((8 * s.size : Nat) : Int) := by rw [IntWalk.i64_in _ (by omega)]; omega
  simp only [cond_dec, ew, es]
  by_cases h : o + w ≤ 8 * s.size
  · rw [if_neg (by omega)]
    simp only [if_pos h]
    exact L_bits _ s o w hw ho h hsz FUEL 0 (by omega) (by unfold FUEL; omega)
  · rw [if_pos (by omega)]
    simp only [if_neg h]
end Go.AMach
