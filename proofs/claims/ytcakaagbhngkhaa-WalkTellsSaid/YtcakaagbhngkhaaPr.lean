/- Layer 16: the document's numbers and sizes. -/
import Derived.Test.YtcakaagbhngkhaaPq
namespace Go.AMach
set_option linter.unusedVariables false
set_option linter.unusedSimpArgs false
set_option linter.unnecessarySimpa false
open Go
set_option linter.unusedVariables false

theorem L_Bit (k : Int → Option Res) : ∀ (m j v : Nat), j ≤ 7 → v < 256 → 7 - j < m → L_turnoutref02_Bit_0 FUEL k m (v : Int) (j : Int) = k ((v / 2 ^ (7 - j) : Nat) : Int)
  | 0, _, _, _, _, h => by omega
  | m + 1, j, v, hj, hv, hm => by
    show F_turnoutref02_Bit_0 FUEL k (L_turnoutref02_Bit_0 FUEL k m) (v : Int) (j : Int) = _
    unfold F_turnoutref02_Bit_0
    simp only [cond_dec]
    by_cases h : j < 7
    · have e2 : ((2 : Int) != 0) = true := by decide
      have e : IntKind.wrap .i64 (Int.tdiv (v : Int) 2) = ((v / 2 : Nat) : Int) := by
        rw [Int.tdiv_eq_ediv_of_nonneg (by omega), IntWalk.i64_in _ (by omega)]; omega
      rw [if_pos (by omega), e2, cond_true, e, i64_succ (by omega), L_Bit k m (j + 1) (v / 2) (by omega) (by omega) (by omega)]
      rw [Nat.div_div_eq_div_mul, show 7 - j = (7 - (j + 1)) + 1 by omega, Nat.pow_succ, Nat.mul_comm 2]
    · rw [if_neg (by omega)]
      have : j = 7 := by omega
      subst this; simp

theorem Q_Bit (s : ByteArray) (i : Nat) (hi : i < 8 * s.size) (hs : s.size < 1000000000) : Q_turnoutref02_Bit s (i : Int) = some ((((bitOf (bN s) i : Nat) : Int), ()), ()) := by
  refine fin ?_
  unfold M_turnoutref02_Bit
  have e8 : ((8 : Int) != 0) = true := by decide
  have e2 : ((2 : Int) != 0) = true := by decide
  have e1 : IntKind.wrap .i64 (Int.tdiv (i : Int) 8) = ((i / 8 : Nat) : Int) := by
    rw [Int.tdiv_eq_ediv_of_nonneg (by omega), IntWalk.i64_in _ (by omega)]; omega
  have e3 : Int.tmod (i : Int) 8 = ((i % 8 : Nat) : Int) := rfl
  have hb := bN_lt s (i / 8)
  have e4 : IntKind.wrap .i64 (byteAt s (i / 8)) = ((bN s (i / 8) : Nat) : Int) := by
    show IntKind.wrap .i64 ((bN s (i / 8) : Nat) : Int) = _
    exact IntWalk.i64_in _ (by omega)
  simp only [e8, e2, e1, e3, cond_true, cond_dec, toNat_cast, e4]
  rw [if_pos (by omega)]
  refine Eq.trans (L_Bit _ FUEL (i % 8) (bN s (i / 8)) (by omega) hb (by unfold FUEL; omega)) ?_
  have e5 : Int.tmod ((bN s (i / 8) / 2 ^ (7 - i % 8) : Nat) : Int) 2 = ((bitOf (bN s) i : Nat) : Int) := rfl
  have hlt : bitOf (bN s) i < 2 := Nat.mod_lt _ (by decide)
  rw [e5, wrapU, Nat.mod_eq_of_lt (by omega)]

theorem Q_Twice (h l b : Nat) (hb : b < 2) (hh : h < 18446744073709551616) (hl : l < 18446744073709551616) (hv : 2 * (h * 18446744073709551616 + l) + b < 340282366920938463463374607431768211456) :
    ∃ h' l', Q_turnoutref02_Twice (W2 h l) (b : Int) = some ((W2 h' l', ()), ()) ∧ h' < 18446744073709551616 ∧ l' < 18446744073709551616 ∧ h' * 18446744073709551616 + l' = 2 * (h * 18446744073709551616 + l) + b := by
  refine ⟨2 * h + l / 9223372036854775808, (2 * l) % 18446744073709551616 + b, fin ?_, by omega, by omega, by omega⟩
  unfold M_turnoutref02_Twice
  have e : ((9223372036854775808 : Int) != 0) = true := by decide
  have w1 : IntKind.wrap .u64 ((W2 h l).1 * 2) = ((2 * h : Nat) : Int) := by
    have : (W2 h l).1 * 2 = ((2 * h : Nat) : Int) := by show (h : Int) * 2 = _; omega
    rw [this, wrapU, Nat.mod_eq_of_lt (by omega)]
  have w2 : IntKind.wrap .u64 (Int.tdiv (W2 h l).2.1 9223372036854775808) = ((l / 9223372036854775808 : Nat) : Int) := by
    have : Int.tdiv (W2 h l).2.1 9223372036854775808 = ((l / 9223372036854775808 : Nat) : Int) := rfl
    rw [this, wrapU, Nat.mod_eq_of_lt (by omega)]
  have w3 : IntKind.wrap .u64 ((W2 h l).2.1 * 2) = (((2 * l) % 18446744073709551616 : Nat) : Int) := by
    have : (W2 h l).2.1 * 2 = ((2 * l : Nat) : Int) := by show (l : Int) * 2 = _; omega
    rw [this, wrapU]
  have w4 : IntKind.wrap .u64 (((2 * h : Nat) : Int) + ((l / 9223372036854775808 : Nat) : Int)) = ((2 * h + l / 9223372036854775808 : Nat) : Int) := by
    have : ((2 * h : Nat) : Int) + ((l / 9223372036854775808 : Nat) : Int) = ((2 * h + l / 9223372036854775808 : Nat) : Int) := by omega
    rw [this, wrapU, Nat.mod_eq_of_lt (by omega)]
  have w5 : IntKind.wrap .u64 ((((2 * l) % 18446744073709551616 : Nat) : Int) + (b : Int)) = (((2 * l) % 18446744073709551616 + b : Nat) : Int) := by
    have : (((2 * l) % 18446744073709551616 : Nat) : Int) + (b : Int) = (((2 * l) % 18446744073709551616 + b : Nat) : Int) := by omega
    rw [this, wrapU, Nat.mod_eq_of_lt (by omega)]
  simp only [e, cond_true, w1, w2, w3, w4, w5]
  rfl

theorem two128 {w : Nat} (h : w ≤ 128) : 2 ^ w ≤ 340282366920938463463374607431768211456 := Nat.le_trans (Nat.pow_le_pow_right (by decide) h) (by decide)
theorem bv_128 (bf : Nat → Nat) (off j : Nat) (h : j ≤ 128) : bv bf off j < 340282366920938463463374607431768211456 := Nat.lt_of_lt_of_le (bv_lt bf off j) (two128 h)
def U64 : Nat := 18446744073709551616
def val2 (h l : Nat) : Nat := h * 18446744073709551616 + l
theorem L_rGet (k : WordS → Option Res) (s : ByteArray) (hs : s.size < 1000000000) (off w : Nat) (hok : off + w ≤ 8 * s.size) (hw : w ≤ 128) (z : WordS) : ∀ (m j h l : Nat), j ≤ w → w - j < m → h < U64 → l < U64 → val2 h l = bv (bN s) off j →
    ∃ h' l', L_turnoutref02_Get_0 FUEL k s (off : Int) (w : Int) 0 z m (j : Int) (W2 h l) = k (W2 h' l') ∧ h' < U64 ∧ l' < U64 ∧ val2 h' l' = bv (bN s) off w := by
  intro m
  induction m with
  | zero => intro j h l hj hm _ _ _; omega
  | succ m ih =>
    intro j h l hj hm hh hl hv
    show ∃ h' l', F_turnoutref02_Get_0 FUEL k s (off : Int) (w : Int) 0 z (L_turnoutref02_Get_0 FUEL k s (off : Int) (w : Int) 0 z m) (j : Int) (W2 h l) = k (W2 h' l') ∧ _
    unfold F_turnoutref02_Get_0
    simp only [cond_dec]
    by_cases hjw : j < w
    · have e0 : ((0 : Int) == 0) = true := rfl
      have ei : IntKind.wrap .i64 ((off : Int) + (j : Int)) = ((off + j : Nat) : Int) := by rw [IntWalk.i64_in _ (by omega)]; omega
      rw [if_pos (by omega)]
      simp only [e0, cond_true, ei, ok_turnoutref02_Bit, q_turnoutref02_Bit, Q_Bit s (off + j) (by omega) hs, RS.get, Option.getD_some, Option.isSome_some]
      have hbl : bitOf (bN s) (off + j) < 2 := Nat.mod_lt _ (by decide)
      have hbv : bv (bN s) off (j + 1) = 2 * bv (bN s) off j + bitOf (bN s) (off + j) := rfl
      have h128 := bv_128 (bN s) off (j + 1) (by omega)
      obtain ⟨h1, l1, hq, a1, a2, a3⟩ := Q_Twice h l (bitOf (bN s) (off + j)) hbl hh hl (by
        have hv' : h * 18446744073709551616 + l = bv (bN s) off j := hv
        rw [hv', ← hbv]; exact h128)
      simp only [ok_turnoutref02_Twice, q_turnoutref02_Twice, hq, RS.get, Option.getD_some, Option.isSome_some, cond_true]
      rw [i64_succ (by omega)]
      exact ih (j + 1) h1 l1 (by omega) (by omega) a1 a2 (by
        have hv' : h * 18446744073709551616 + l = bv (bN s) off j := hv
        have a3' : val2 h1 l1 = 2 * (h * 18446744073709551616 + l) + bitOf (bN s) (off + j) := a3
        rw [a3', hv', hbv])
    · rw [if_neg (by omega)]
      have : j = w := by omega
      subst this
      exact ⟨h, l, rfl, hh, hl, hv⟩

theorem Q_rmay (s : ByteArray) (off w : Nat) (hs : s.size < 1000000000) (h1 : 1 ≤ w) (h2 : w ≤ 128) (h3 : off < 1000000000) : Q_turnoutref02_May s (off : Int) (w : Int) = some ((if off + w ≤ 8 * s.size then 0 else 4, ()), ()) := by
  refine fin ?_
  unfold M_turnoutref02_May
  simp only [cond_dec]
  rw [if_neg (by omega), if_neg (by omega), if_neg (by omega)]
  have hw : IntKind.wrap .i64 (IntKind.wrap .i64 (8 * (s.size : Int)) - (w : Int)) = 8 * (s.size : Int) - w := by
    rw [IntWalk.i64_in (8 * (s.size : Int)) (by omega), IntWalk.i64_in _ (by omega)]
  rw [hw]
  by_cases h : off + w ≤ 8 * s.size
  · rw [if_neg (by omega), if_pos h]
  · rw [if_pos (by omega), if_neg h]

theorem Q_rGet (s : ByteArray) (off w : Nat) (hs : s.size < 1000000000) (h1 : 1 ≤ w) (h2 : w ≤ 128) (h3 : off < 1000000000) :
    ∃ h l, Q_turnoutref02_Get s (off : Int) (w : Int) = some ((W2 h l, (if off + w ≤ 8 * s.size then 0 else 4, ())), ()) ∧ h < 18446744073709551616 ∧ l < 18446744073709551616 ∧ h * 18446744073709551616 + l = (if off + w ≤ 8 * s.size then bv (bN s) off w else 0) := by
  by_cases h : off + w ≤ 8 * s.size
  · obtain ⟨x, y, e, a1, a2, a3⟩ := L_rGet (fun y4 => some (encRes ro_turnoutref02_Get rh_turnoutref02_Get ((y4, ((0 : Int), ())), ()))) s hs off w h h2 (W2 0 0) FUEL 0 0 0 (by omega) (by unfold FUEL; omega) (by decide) (by decide) rfl
    refine ⟨x, y, fin ?_, a1, a2, by rw [if_pos h]; exact a3⟩
    unfold M_turnoutref02_Get
    simp only [ok_turnoutref02_May, q_turnoutref02_May, Q_rmay s off w hs h1 h2 h3, RS.get, Option.getD_some, Option.isSome_some, cond_true, if_pos h]
    exact e
  · refine ⟨0, 0, fin ?_, by decide, by decide, by rw [if_neg h]⟩
    unfold M_turnoutref02_Get
    simp only [ok_turnoutref02_May, q_turnoutref02_May, Q_rmay s off w hs h1 h2 h3, RS.get, Option.getD_some, Option.isSome_some, cond_true, if_neg h]
    have h0 : ∀ m, 0 < m → L_turnoutref02_Get_0 FUEL (fun y4 => some (encRes ro_turnoutref02_Get rh_turnoutref02_Get ((y4, ((4 : Int), ())), ()))) s (off : Int) (w : Int) 4 (0, (0, ())) m 0 (0, (0, ())) = some (encRes ro_turnoutref02_Get rh_turnoutref02_Get ((W2 0 0, ((4 : Int), ())), ())) := fun m hm => by
      cases m with
      | zero => omega
      | succ m =>
        show F_turnoutref02_Get_0 FUEL _ s (off : Int) (w : Int) 4 _ (L_turnoutref02_Get_0 FUEL _ s (off : Int) (w : Int) 4 _ m) 0 _ = _
        unfold F_turnoutref02_Get_0
        rw [cond_dec, if_pos (by omega)]
        rfl
    exact h0 FUEL (by unfold FUEL; omega)

theorem Q_rnumber (s : ByteArray) (at_ : Int) (off w : Nat) (hs : s.size < 1000000000) (h1 : 1 ≤ w) (h2 : w ≤ 32) (h3 : off < 1000000) :
    Q_turnoutref16_number s at_ (off : Int) (w : Int) = some (((numV s at_ off w).1, ((numV s at_ off w).2, ())), ()) := by
  refine fin ?_
  unfold M_turnoutref16_number
  simp only [cond_dec]
  by_cases a1 : at_ < 0
  · rw [if_pos a1]; unfold numV; rw [if_neg (by omega)]
  rw [if_neg a1]
  by_cases a2 : at_ > (s.size : Int)
  · rw [if_pos a2]; unfold numV; rw [if_neg (by omega)]
  rw [if_neg a2, if_pos (by omega)]
  obtain ⟨a, rfl⟩ := Int.eq_ofNat_of_zero_le (Int.not_lt.1 a1)
  have hb : ∀ i, a + i < s.size → bN (s.extract a s.size) i = bN s (a + i) := fun i hi => by
    have := byteAt_extract (s := s) (a := a) (i := i) hi
    rw [byteAt_bN, byteAt_bN] at this
    exact Int.ofNat_inj.1 this
  obtain ⟨x, y, hq, b1, b2, b3⟩ := Q_rGet (s.extract a s.size) off w (by rw [size_extract]; omega) h1 (by omega) (by omega)
  rw [size_extract] at hq b3
  simp only [Int.ofNat_eq_natCast, toNat_cast] at *
  simp only [ok_turnoutref02_Get, q_turnoutref02_Get, hq, RS.get, Option.getD_some, Option.isSome_some, cond_true]
  rw [numV_val s a off w h1 h2]
  by_cases h : off + w ≤ 8 * (s.size - a)
  · rw [if_pos h] at b3
    rw [if_pos h, if_pos ⟨by omega, h⟩]
    have e : bv (bN (s.extract a s.size)) off w = bv (bN s) (8 * a + off) w := by
      rw [← bv_shift]
      have : ∀ n, off + n ≤ off + w → bv (bN (s.extract a s.size)) off n = bv (fun j => bN s (a + j)) off n := fun n => by
        induction n with
        | zero => intro _; rfl
        | succ n ih =>
          intro hn
          simp only [bv]
          rw [ih (by omega)]
          unfold bitOf
          rw [hb _ (by omega)]
      exact this w (by omega)
    rw [e] at b3
    have hlt := bv_lt (bN s) (8 * a + off) w
    have := two32 h2
    have hy : y = bv (bN s) (8 * a + off) w := by omega
    have e1 : IntKind.wrap .i64 (W2 x y).2.1 = ((bv (bN s) (8 * a + off) w : Nat) : Int) := by
      rw [← hy]; exact IntWalk.i64_in _ (by show _ ≤ (y : Int) ∧ (y : Int) ≤ _; omega)
    rw [e1]; rfl
  · rw [if_neg h] at b3
    rw [if_neg h, if_neg (fun k => h k.2)]
    have hy : y = 0 := by omega
    have hx : x = 0 := by omega
    subst hy; subst hx; rfl

theorem Q_rsizes (x : NodeS) : Q_turnoutref16_sizes x = some ((decide (mayL x), ()), ()) := Q_wmay x

theorem Q_rSize (x : NodeS) (s : ByteArray) (at_ : Int) (hs : s.size < 1000000000) : Q_turnoutref16_Size x s at_ = some (((sizeV x s at_).1, ((sizeV x s at_).2, ())), ()) := by
  refine fin ?_
  unfold M_turnoutref16_Size sizeV
  simp only [ok_turnoutref16_sizes, q_turnoutref16_sizes, Q_rsizes, RS.get, Option.getD_some, Option.isSome_some, cond_true]
  by_cases hm : mayL x
  · rw [if_neg (fun h => h hm)]
    simp only [hm, decide_true, Bool.not_true, cond_false]
    by_cases hw : x.2.2.2.1 > 0
    · rw [if_pos hw]
      simp only [hw, decide_true, cond_true]
      have e1 : ((x.2.2.1.toNat : Nat) : Int) = x.2.2.1 := by have := hm.2.1; omega
      have e2 : ((x.2.2.2.1.toNat : Nat) : Int) = x.2.2.2.1 := by omega
      have hQ := Q_rnumber s at_ x.2.2.1.toNat x.2.2.2.1.toNat hs (by omega) (by have := hm.2.2.1; omega) (by have := hm.2.1; omega)
      rw [e1, e2] at hQ
      simp only [ok_turnoutref16_number, q_turnoutref16_number, hQ, RS.get, Option.getD_some, Option.isSome_some, cond_true]
      cases hv : (numV s at_ x.2.2.1.toNat x.2.2.2.1.toNat).2 with
      | false => rw [if_pos rfl]; rfl
      | true =>
        rw [if_neg (by simp)]
        simp only [Bool.not_true, cond_false]
        exact fin_size s at_ _ hs
    · rw [if_neg hw]
      simp only [hw, decide_false, cond_false]
      exact fin_size s at_ _ hs
  · rw [if_pos hm]
    simp only [hm, decide_false, Bool.not_false, cond_true]
end Go.AMach
