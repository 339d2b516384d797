/- The document's packet: its fields and their texts. -/
import Derived.Test.YtphmidhlgkclgaaBd
import Derived.Test.YtphmidhlgkclgaaGd
namespace Go.AMach
set_option linter.unusedVariables false
set_option linter.unusedSimpArgs false
set_option linter.unnecessarySimpa false
open Go
set_option linter.unusedVariables false

/-! ### A word's text -/
theorem tmod2 (a : Nat) : Int.tmod (a : Int) 2 = ((a % 2 : Nat) : Int) := by
  rw [Int.tmod_eq_emod_of_nonneg (by omega)]; omega
theorem L_rOf (k : Int → Option Res) (a : Nat) (ha : a ≤ 64) : ∀ (m i x : Nat), i ≤ a → a - i < m → x < 18446744073709551616 →
    L_z2b_0 FUEL k (a : Int) m (x : Int) (i : Int) = k ((x / 2 ^ (a - i) : Nat) : Int)
  | 0, _, _, _, h, _ => by omega
  | m + 1, i, x, hi, hm, hx => by
    show F_z2b_0 FUEL k (a : Int) (L_z2b_0 FUEL k (a : Int) m) (x : Int) (i : Int) = _
    unfold F_z2b_0
    simp only [cond_dec]
    by_cases h : i < a
    · rw [if_pos (by omega)]
      have e2 : ((2 : Int) != 0) = true := by decide
      have e : IntKind.wrap .u64 (Int.tdiv (x : Int) 2) = ((x / 2 : Nat) : Int) := by
        rw [Int.tdiv_eq_ediv_of_nonneg (by omega), u64_in _ (by omega)]; omega
      rw [e2, cond_true, e, i64_succ (by omega), L_rOf k a ha m (i + 1) (x / 2) (by omega) (by omega) (by omega), Nat.div_div_eq_div_mul, show a - i = (a - (i + 1)) + 1 by omega, Nat.pow_succ, Nat.mul_comm 2]
    · rw [if_neg (by omega), show a - i = 0 by omega, Nat.pow_zero, Nat.div_one]
theorem Q_rOfBit (v at_ : Nat) (h : at_ < 128) (hv : v < 340282366920938463463374607431768211456) : Q_z2b (wN v) (at_ : Int) = some ((((v / 2 ^ at_ % 2 : Nat) : Int), ()), ()) := by
  refine fin ?_
  unfold M_z2b
  simp only [cond_dec]
  have e2 : ((2 : Int) != 0) = true := by decide
  by_cases h6 : 64 ≤ at_
  · rw [if_pos (by omega)]
    have e : IntKind.wrap .i64 ((at_ : Int) - 64) = ((at_ - 64 : Nat) : Int) := by rw [IntWalk.i64_in _ (by omega)]; omega
    rw [e]
    refine Eq.trans (L_rOf _ (at_ - 64) (by omega) FUEL 0 (v / 18446744073709551616) (by omega) (by unfold FUEL; omega) (by omega)) ?_
    rw [e2, cond_true, tmod2, Nat.sub_zero, Nat.div_div_eq_div_mul, show (18446744073709551616 : Nat) * 2 ^ (at_ - 64) = 2 ^ at_ by rw [show (18446744073709551616 : Nat) = 2 ^ 64 from rfl, ← Nat.pow_add]; congr 1; omega]
  · rw [if_neg (by omega)]
    refine Eq.trans (L_rOf _ at_ (by omega) FUEL 0 (v % 18446744073709551616) (by omega) (by unfold FUEL; omega) (Nat.mod_lt _ (by decide))) ?_
    rw [e2, cond_true, tmod2, Nat.sub_zero]
    have : v % 18446744073709551616 / 2 ^ at_ % 2 = v / 2 ^ at_ % 2 := by
      rw [show (18446744073709551616 : Nat) = 2 ^ at_ * (2 ^ (64 - at_)) by rw [← Nat.pow_add]; rw [show at_ + (64 - at_) = 64 by omega], Nat.mod_mul_right_div_self, Nat.mod_mod_of_dvd]
      exact ⟨2 ^ (63 - at_), by rw [← Nat.pow_succ']; congr 1; omega⟩
    rw [this]
theorem Q_rBytes (w : Int) : Q_z2a w = some ((((nB w : Nat) : Int), ()), ()) := by
  refine fin ?_
  unfold M_z2a nB
  simp only [cond_dec]
  by_cases h1 : w < 1
  · rw [if_pos h1, if_pos (.inl h1)]; rfl
  · rw [if_neg h1]
    by_cases h2 : w > 128
    · rw [if_pos h2, if_pos (.inr h2)]; rfl
    · rw [if_neg h2, if_neg (by omega)]
      have h8 : ((8 : Int) != 0) = true := by decide
      rw [h8, cond_true]
      have e : IntKind.wrap .i64 (Int.tdiv (IntKind.wrap .i64 (w + 7)) 8) = (((w.toNat + 7) / 8 : Nat) : Int) := by
        rw [IntWalk.i64_in (w + 7) (by omega), Int.tdiv_eq_ediv_of_nonneg (by omega), IntWalk.i64_in _ (by omega)]; omega
      simp only [e]

theorem bit_mod (v w k : Nat) (h : k < w) : v % 2 ^ w / 2 ^ k % 2 = v / 2 ^ k % 2 := by
  rw [show 2 ^ w = 2 ^ k * 2 ^ (w - k) by rw [← Nat.pow_add]; rw [show k + (w - k) = w by omega], Nat.mod_mul_right_div_self, Nat.mod_mod_of_dvd]
  exact ⟨2 ^ (w - k - 1), by rw [← Nat.pow_succ']; congr 1; omega⟩
theorem bit_big (v w k : Nat) (h : w ≤ k) : v % 2 ^ w / 2 ^ k = 0 :=
  Nat.div_eq_of_lt (Nat.lt_of_lt_of_le (Nat.mod_lt _ (Nat.two_pow_pos _)) (Nat.pow_le_pow_right (by decide) h))
theorem low_step (x m : Nat) : x % 2 ^ (m + 1) = x / 2 % 2 ^ m * 2 + x % 2 := by
  rw [Nat.pow_succ, Nat.mul_comm, Nat.mod_mul]; omega

theorem L_rText2 (k : Int → Option Res) (v : Nat) (hv : v < 340282366920938463463374607431768211456) (w : Nat) (hw : w ≤ 128) (acc : ByteArray) (i : Nat) (hi : i < 16) : ∀ (m j n : Nat), j ≤ 8 → j < m → n = v % 2 ^ w / 2 ^ (8 * i + j) % 2 ^ (8 - j) →
    L_z2c_2 FUEL k (w : Int) acc (i : Int) (wN v) m (n : Int) ((8 * i + j : Nat) - 1 : Int) = k ((v % 2 ^ w / 2 ^ (8 * i) % 256 : Nat) : Int)
  | 0, _, _, _, h, _ => by omega
  | m + 1, 0, n, hj, hm, hn => by
    show F_z2c_2 FUEL k (w : Int) acc (i : Int) (wN v) (L_z2c_2 FUEL k (w : Int) acc (i : Int) (wN v) m) (n : Int) _ = _
    unfold F_z2c_2
    simp only [cond_dec]
    have e8 : IntKind.wrap .i64 (8 * (i : Int)) = 8 * (i : Int) := IntWalk.i64_in _ (by omega)
    rw [e8, if_neg (by omega), hn]
    rfl
  | m + 1, j + 1, n, hj, hm, hn => by
    show F_z2c_2 FUEL k (w : Int) acc (i : Int) (wN v) (L_z2c_2 FUEL k (w : Int) acc (i : Int) (wN v) m) (n : Int) _ = _
    unfold F_z2c_2
    simp only [cond_dec]
    have e8 : IntKind.wrap .i64 (8 * (i : Int)) = 8 * (i : Int) := IntWalk.i64_in _ (by omega)
    have ek : (((8 * i + (j + 1) : Nat) : Int) - 1) = ((8 * i + j : Nat) : Int) := by omega
    have hlt : n < 256 := by
      rw [hn]
      exact Nat.lt_of_lt_of_le (Nat.mod_lt _ (Nat.two_pow_pos _)) (Nat.le_trans (Nat.pow_le_pow_right (by decide) (show 8 - (j + 1) ≤ 8 by omega)) (by decide))
    have em : IntKind.wrap .i64 (((8 * i + j : Nat) : Int) - 1) = ((8 * i + j : Nat) : Int) - 1 := IntWalk.i64_in _ (by omega)
    have en : IntKind.wrap .u64 ((n : Int) * 2) = ((n * 2 : Nat) : Int) := by rw [u64_in _ (by omega)]; omega
    have hstep : v % 2 ^ w / 2 ^ (8 * i + j) % 2 ^ (8 - j) = n * 2 + v % 2 ^ w / 2 ^ (8 * i + j) % 2 := by
      rw [hn, show 8 - j = (8 - (j + 1)) + 1 by omega, low_step, Nat.div_div_eq_div_mul, ← Nat.pow_succ]; rfl
    rw [e8, ek, if_pos (by omega), em, en]
    by_cases hk : 8 * i + j < w
    · rw [if_pos (by omega)]
      simp only [ok_z2b, q_z2b, Q_rOfBit v (8 * i + j) (by omega) hv, RS.get, Option.getD_some, Option.isSome_some, cond_true]
      have e3 : IntKind.wrap .u64 (((n * 2 : Nat) : Int) + ((v / 2 ^ (8 * i + j) % 2 : Nat) : Int)) = ((n * 2 + v / 2 ^ (8 * i + j) % 2 : Nat) : Int) := by rw [u64_in _ (by omega)]; omega
      rw [e3]
      exact L_rText2 k v hv w hw acc i hi m j _ (by omega) (by omega) (by rw [hstep, bit_mod v w _ hk])
    · rw [if_neg (by omega)]
      exact L_rText2 k v hv w hw acc i hi m j _ (by omega) (by omega) (by rw [hstep, bit_big v w _ (by omega)]; rfl)

theorem wrap8' (n : Nat) (h : n < 256) : IntKind.wrap .u8 (n : Int) = (n : Int) := by rw [wrap8, Nat.mod_eq_of_lt h]
theorem be_succ (n v : Nat) : be (n + 1) v = ((v / 256 ^ n % 256 : Nat) : Int) :: be n v := by
  apply List.ext_getElem?
  intro i
  cases i with
  | zero =>
    unfold be
    rw [mkL_get (by omega)]
    simp
  | succ i =>
    rw [List.getElem?_cons_succ]
    by_cases h : i < n
    · unfold be
      rw [mkL_get (by omega), mkL_get h, show n + 1 - 1 - (i + 1) = n - 1 - i by omega]
    · rw [List.getElem?_eq_none (by rw [be_length]; omega), List.getElem?_eq_none (by rw [be_length]; omega)]
theorem bytesOf_append (a b : List Int) : bytesOf (a ++ b) = bytesOf a ++ bytesOf b := by
  apply ba_ext'
  rw [bytesOf_list, List.map_append, ← bytesOf_list, ← bytesOf_list]; simp

theorem L_rText0 (k : ByteArray → Option Res) (v : Nat) (hv : v < 340282366920938463463374607431768211456) (w : Nat) (hw : w ≤ 128) : ∀ (m n : Nat) (acc : ByteArray), n ≤ 16 → n < m → acc.size + n ≤ 1000 →
    L_z2c_0 FUEL k (w : Int) (wN v) m acc ((n : Int) - 1) = k (acc ++ bytesOf (be n (v % 2 ^ w)))
  | 0, _, _, _, h, _ => by omega
  | m + 1, 0, acc, hn, hm, hs => by
    show F_z2c_0 FUEL k (w : Int) (wN v) (L_z2c_0 FUEL k (w : Int) (wN v) m) acc _ = _
    unfold F_z2c_0
    rw [cond_dec, if_neg (by omega)]
    congr 1
    apply ba_ext'
    rw [show be 0 (v % 2 ^ w) = [] from rfl]
    simp [bytesOf]
  | m + 1, n + 1, acc, hn, hm, hs => by
    show F_z2c_0 FUEL k (w : Int) (wN v) (L_z2c_0 FUEL k (w : Int) (wN v) m) acc _ = _
    unfold F_z2c_0
    have e1 : (((n + 1 : Nat) : Int) - 1) = (n : Int) := by omega
    have e7 : IntKind.wrap .i64 (IntKind.wrap .i64 (8 * (n : Int)) + 7) = (((8 * n + 8 : Nat) : Int) - 1) := by
      rw [IntWalk.i64_in (8 * (n : Int)) (by omega), IntWalk.i64_in _ (by omega)]; omega
    rw [e1, cond_dec, if_pos (by omega), e7]
    refine Eq.trans (L_rText2 _ v hv w hw acc n (by omega) FUEL 8 0 (by omega) (by unfold FUEL; omega) ?_) ?_
    · rw [Nat.pow_zero, Nat.mod_one]
    have hb : v % 2 ^ w / 2 ^ (8 * n) % 256 < 256 := Nat.mod_lt _ (by decide)
    have hs1 : (bytesOf [((v % 2 ^ w / 2 ^ (8 * n) % 256 : Nat) : Int)]).size = 1 := by rw [bytesOf_size]; rfl
    rw [wrap8' _ hb, hs1, cond_dec, if_pos (by omega)]
    have em : IntKind.wrap .i64 ((n : Int) - 1) = (n : Int) - 1 := IntWalk.i64_in _ (by omega)
    rw [em, L_rText0 k v hv w hw m n _ (by omega) (by omega) (by rw [ByteArray.size_append, hs1]; omega), be_succ, show (256 : Nat) ^ n = 2 ^ (8 * n) by rw [show (256 : Nat) = 2 ^ 8 from rfl, ← Nat.pow_mul]]
    congr 1
    rw [show ((v % 2 ^ w / 2 ^ (8 * n) % 256 : Nat) : Int) :: be n (v % 2 ^ w) = [((v % 2 ^ w / 2 ^ (8 * n) % 256 : Nat) : Int)] ++ be n (v % 2 ^ w) from rfl, bytesOf_append]
    apply ba_ext'; simp
theorem Q_rText (v : Nat) (hv : v < 340282366920938463463374607431768211456) (w : Int) (hw : 1 ≤ w ∧ w ≤ 128) : Q_z2c (wN v) w = some ((textV v w, (0, ())), ()) := by
  refine fin ?_
  unfold M_z2c
  have hn := nB_pos hw
  have hn16 : nB w ≤ 16 := by unfold nB; split <;> omega
  simp only [ok_z2a, q_z2a, Q_rBytes, RS.get, Option.getD_some, Option.isSome_some, cond_true, int_beq]
  rw [decide_eq_false (by omega), cond_false]
  have em : IntKind.wrap .i64 (((nB w : Nat) : Int) - 1) = ((nB w : Nat) : Int) - 1 := IntWalk.i64_in _ (by omega)
  rw [em]
  have hwn : w = ((w.toNat : Nat) : Int) := by omega
  have := L_rText0 (fun y5 => some (encRes ro_z2c rh_z2c ((y5, ((0 : Int), ())), ()))) v hv w.toNat (by omega) FUEL (nB w) (ByteArray.mk #[]) hn16 (by unfold FUEL; omega) (by show 0 + nB w ≤ 1000; omega)
  rw [← hwn] at this
  rw [this]
  unfold textV
  rw [show ByteArray.mk #[] ++ bytesOf (be (nB w) (v % 2 ^ w.toNat)) = bytesOf (be (nB w) (v % 2 ^ w.toNat)) by apply ba_ext'; simp]
end Go.AMach
