/- A number put into a packet. -/
import Derived.Test.YtcngpijmkdpbgaaBk
namespace Go.AMach
set_option linter.unusedVariables false
set_option linter.unusedSimpArgs false
set_option linter.unnecessarySimpa false
open Go
set_option linter.unusedVariables false

theorem And_one (v : Nat) : ∃ r : Int, Q_z0p (wN v) (((0 : Int), ((1 : Int), ())) : WordS) = some (((r, (((v % 2 : Nat) : Int), ())), ()), ()) := by
  refine ⟨IntKind.wrap .u64 ((BitVec.toNat (BitVec.ofInt (IntKind.bits .u64) (wN v).1 &&& BitVec.ofInt (IntKind.bits .u64) (0 : Int)) : Nat) : Int), fin ?_⟩
  unfold M_z0p
  have : IntKind.wrap .u64 ((BitVec.toNat (BitVec.ofInt (IntKind.bits .u64) (wN v).2.1 &&& BitVec.ofInt (IntKind.bits .u64) (1 : Int)) : Nat) : Int) = ((v % 2 : Nat) : Int) := by
    have h := andU (v % 18446744073709551616) 1 (Nat.mod_lt _ (by decide)) (by decide)
    rw [Nat.and_one_is_mod] at h
    refine h.trans ?_
    congr 1; omega
  simp only [this]

theorem L_fPut (k : List Int → Option Res) (v : Nat) (hv : v < 340282366920938463463374607431768211456) (b : List Int) (off w : Nat) (hw : 1 ≤ w ∧ w ≤ 128) (ho : off + w ≤ 8 * b.length) (hl : b.length ≤ 1000000) : ∀ (m i : Nat) (c : List Int), i ≤ w → w - i < m → c.length = b.length → isB c → (∀ p, bitOf (bl c) p = if off + w - i ≤ p ∧ p < off + w then v / 2 ^ (off + w - 1 - p) % 2 else bitOf (bl b) p) →
    ∃ c', L_z1y_0 FUEL k (off : Int) (w : Int) b.length (w : Int) (wN v) m (i : Int) c = k c' ∧ c'.length = b.length ∧ isB c' ∧ (∀ p, bitOf (bl c') p = putBit b off w v p)
  | 0, _, _, _, h, _, _, _ => by omega
  | m + 1, i, c, hi, hm, hc, hB, hp => by
    show ∃ c', F_z1y_0 FUEL k (off : Int) (w : Int) b.length (w : Int) (wN v) (L_z1y_0 FUEL k (off : Int) (w : Int) b.length (w : Int) (wN v) m) (i : Int) c = k c' ∧ _
    unfold F_z1y_0
    rw [cond_dec]
    by_cases h : i < w
    · rw [if_pos (by omega)]
      generalize ha : off + w - 1 - i = a
      have e1 : IntKind.wrap .i64 (IntKind.wrap .i64 (IntKind.wrap .i64 ((off : Int) + (w : Int)) - 1) - (i : Int)) = (a : Int) := by
        rw [IntWalk.i64_in ((off : Int) + w) (by omega), IntWalk.i64_in ((off : Int) + w - 1) (by omega), IntWalk.i64_in _ (by omega)]; omega
      have e2 : IntKind.wrap .i64 (7 - Int.tmod (a : Int) 8) = ((7 - a % 8 : Nat) : Int) := by
        rw [Int.tmod_eq_emod_of_nonneg (by omega), IntWalk.i64_in _ (by omega)]; omega
      have e3 : IntKind.wrap .i64 (Int.tdiv (a : Int) 8) = ((a / 8 : Nat) : Int) := by
        rw [Int.tdiv_eq_ediv_of_nonneg (by omega), IntWalk.i64_in _ (by omega)]; omega
      have h8 : ((8 : Int) != 0) = true := by decide
      have hr := Right_N v i (by omega) hv
      obtain ⟨ra, hand⟩ := And_one (v / 2 ^ i)
      have hd : decide ((0 : Int) ≤ ((7 - a % 8 : Nat) : Int)) = true := by rw [decide_eq_true_eq]; omega
      have hd2 : decide ((0 : Int) ≤ ((a / 8 : Nat) : Int) ∧ ((a / 8 : Nat) : Int) < ((b.length : Nat) : Int)) = true := by rw [decide_eq_true_eq]; omega
      simp only [e1, e2, e3, h8, hd, hd2, cond_true, toNat_cast, ok_z0n, Q_Right (wN v) (i : Int) (by omega), hr, ok_z0k, q_z0k, Q_New, ok_z0p, q_z0p, hand, RS.get, Option.getD_some, Option.isSome_some, int_beq]
      generalize hbit : v / 2 ^ i % 2 = bit
      have hbl : bit < 2 := by rw [← hbit]; exact Nat.mod_lt _ (by decide)
      obtain ⟨s1, s2⟩ := set_bit hB (at_ := a) (bit := bit) (by omega) hbl
      have key := L_fPut k v hv b off w hw ho hl m (i + 1) (c.set (a / 8) (setV (rdd 0 c (a / 8)) (7 - a % 8) bit)) (by omega) (by omega) (by simpa using hc) s1 fun p => by
        rw [s2 p]
        by_cases e : p = a
        · rw [if_pos e, if_pos (by omega), e, ← hbit]
          congr 3; omega
        · rw [if_neg e, hp p]
          by_cases q : off + w - i ≤ p ∧ p < off + w
          · rw [if_pos q, if_pos (by omega)]
          · rw [if_neg q, if_neg (by omega)]
      rw [i64_succ (by omega)]
      by_cases hb1 : bit = 1
      · rw [decide_eq_true (by omega), cond_true]
        unfold setV orV at key
        rw [if_pos hb1] at key
        exact key
      · rw [decide_eq_false (by omega), cond_false]
        unfold setV clrV at key
        rw [if_neg hb1] at key
        exact key
    · rw [if_neg (by omega)]
      refine ⟨c, rfl, hc, hB, fun p => ?_⟩
      rw [hp p]
      unfold putBit
      by_cases q : off ≤ p ∧ p < off + w
      · rw [if_pos (by omega), if_pos q]
      · rw [if_neg (by omega), if_neg q]

theorem Q_fPut (v : Nat) (hv : v < 340282366920938463463374607431768211456) {b : List Int} (hb : isB b) (off w : Nat) (hw : 1 ≤ w ∧ w ≤ 128) (ho : off + w ≤ 8 * b.length) (hl : b.length ≤ 1000000) :
    Q_z1y (bytesOf b) (off : Int) (w : Int) (wN v) = some ((bytesOf (putN b off w v), (0, ())), ()) := by
  refine fin ?_
  unfold M_z1y
  have hm := Q_fmay (bytesOf b) off w (by rw [bytesOf_size]; omega) hw.1 hw.2 (by omega)
  rw [if_pos (by rw [bytesOf_size]; exact ho)] at hm
  simp only [ok_z0i, q_z0i, hm, RS.get, Option.getD_some, Option.isSome_some, cond_true, int_bne, decide_true, Bool.not_true, cond_false, bytesOf_size, bytesL_bytesOf hb]
  obtain ⟨c', h1, h2, h3, h4⟩ := L_fPut (fun y9 => some (encRes ro_z1y rh_z1y (((bytesOf (cutL (0 : Int) y9 0 b.length)), ((0 : Int), ())), ()))) v hv b off w hw ho hl FUEL 0 b (by omega) (by unfold FUEL; omega) rfl hb fun p => by rw [if_neg (by omega)]
  have hc : c' = putN b off w v := bytes_ext h3 (putN_isB _ _ _ _) (by rw [h2, putN_length]) fun p hp => by rw [h4, putN_bit b off w v p (by omega)]
  refine Eq.trans h1 ?_
  have hcut : cutL (0 : Int) c' 0 b.length = c' := by rw [← h2]; exact cutL_all _ _
  rw [hc] at hcut
  simp only [hc, hcut]
theorem Q_fPutBad (s : ByteArray) (off w : Int) (wd : WordS) (hs : s.size < 1000000000) (ho : off ≤ 9223372036854775807)
    (h : ¬ (0 ≤ off ∧ 1 ≤ w ∧ w ≤ 128 ∧ off + w ≤ 8 * (s.size : Int))) : Q_z1y s off w wd = some (((ByteArray.empty), (getE off w, ())), ()) := by
  have hm : Q_z0i s off w = some ((getE off w, ()), ()) := by
    refine fin ?_
    unfold M_z0i getE
    simp only [cond_dec]
    refine ite_eq (fun h1 => by rw [if_pos h1]) fun h1 => ?_
    rw [if_neg h1]
    refine ite_eq (fun h2 => by rw [if_pos h2]) fun h2 => ?_
    rw [if_neg h2]
    refine ite_eq (fun h3 => by rw [if_pos h3]) fun h3 => ?_
    rw [if_neg h3, IntWalk.i64_in (8 * (s.size : Int)) (by omega), IntWalk.i64_in _ (by omega), if_pos (by omega)]
  refine fin ?_
  unfold M_z1y
  simp only [ok_z0i, q_z0i, hm, RS.get, Option.getD_some, Option.isSome_some, cond_true, int_bne]
  rw [decide_eq_false (getE_ne off w), Bool.not_false, cond_true]
  rfl

/-- What stands in some of the bytes is put in there. -/
theorem putN_window (b : List Int) (hb : isB b) (off w v fr n : Nat) (h1 : fr = off / 8) (h2 : n = (off + w + 7) / 8 - fr) (ho : off + w ≤ 8 * b.length) (hw : 1 ≤ w) :
    b.take fr ++ (putN ((b.drop fr).take n) (off - 8 * fr) w v ++ b.drop (fr + n)) = putN b off w v := by
  have hcl : ((b.drop fr).take n).length = n := by rw [List.length_take, List.length_drop]; omega
  have hB : isB (b.take fr ++ (putN ((b.drop fr).take n) (off - 8 * fr) w v ++ b.drop (fr + n))) := fun x hx => by
    rcases List.mem_append.1 hx with hx | hx
    · exact hb x (List.mem_of_mem_take hx)
    · rcases List.mem_append.1 hx with hx | hx
      · exact putN_isB _ _ _ _ x hx
      · exact hb x (List.mem_of_mem_drop hx)
  have hL : (b.take fr ++ (putN ((b.drop fr).take n) (off - 8 * fr) w v ++ b.drop (fr + n))).length = b.length := by
    simp only [List.length_append, List.length_take, List.length_drop, putN_length, hcl]; omega
  refine bytes_ext hB (putN_isB _ _ _ _) (by rw [hL, putN_length]) fun p hp => ?_
  rw [hL] at hp
  rw [putN_bit b off w v p hp]
  have hl1 : (b.take fr).length = fr := by rw [List.length_take]; omega
  have hl2 : (putN ((b.drop fr).take n) (off - 8 * fr) w v).length = n := by rw [putN_length, hcl]
  by_cases c1 : p / 8 < fr
  · have : bl (b.take fr ++ (putN ((b.drop fr).take n) (off - 8 * fr) w v ++ b.drop (fr + n))) (p / 8) = bl b (p / 8) := by
      unfold bl
      rw [rdd_lt (by rw [hL]; omega), rdd_lt (l := b) (by omega), List.getElem_append_left (by omega), List.getElem_take]
    rw [bitOf_congr this]
    unfold putBit; rw [if_neg (by omega)]
  by_cases c2 : p / 8 < fr + n
  · have : bl (b.take fr ++ (putN ((b.drop fr).take n) (off - 8 * fr) w v ++ b.drop (fr + n))) (p / 8) = bl (putN ((b.drop fr).take n) (off - 8 * fr) w v) (p / 8 - fr) := by
      unfold bl
      rw [rdd_lt (by rw [hL]; omega), rdd_lt (l := putN ((b.drop fr).take n) (off - 8 * fr) w v) (by omega), List.getElem_append_right (by omega), List.getElem_append_left (by omega)]
      simp only [hl1]
    have e1 : bitOf (bl (b.take fr ++ (putN ((b.drop fr).take n) (off - 8 * fr) w v ++ b.drop (fr + n)))) p = bitOf (bl (putN ((b.drop fr).take n) (off - 8 * fr) w v)) (p - 8 * fr) := by
      unfold bitOf
      rw [this, show (p - 8 * fr) / 8 = p / 8 - fr by omega, show (p - 8 * fr) % 8 = p % 8 by omega]
    rw [e1, putN_bit _ _ _ _ _ (by rw [hcl]; omega)]
    unfold putBit
    by_cases q : off ≤ p ∧ p < off + w
    · rw [if_pos (by omega), if_pos q]
      congr 3; omega
    · rw [if_neg (by omega), if_neg q]
      unfold bitOf
      have : bl ((b.drop fr).take n) ((p - 8 * fr) / 8) = bl b (p / 8) := by
        unfold bl
        rw [rdd_lt (by rw [hcl]; omega), rdd_lt (l := b) (by omega), List.getElem_take, List.getElem_drop]
        congr 2; omega
      rw [this, show (p - 8 * fr) % 8 = p % 8 by omega]
  · have : bl (b.take fr ++ (putN ((b.drop fr).take n) (off - 8 * fr) w v ++ b.drop (fr + n))) (p / 8) = bl b (p / 8) := by
      unfold bl
      rw [rdd_lt (by rw [hL]; omega), rdd_lt (l := b) (by omega), List.getElem_append_right (by omega), List.getElem_append_right (by omega), List.getElem_drop]
      simp only [hl1, hl2]
      congr 2; omega
    rw [bitOf_congr this]
    unfold putBit; rw [if_neg (by omega)]

/-- Bytes with a number put in. -/
def putB (b : List Int) (off w : Int) (v : Nat) : List Int := putN b off.toNat w.toNat v
theorem Q_bPut {b : List Int} (hb : isB b) (off w : Int) (v : Nat) (hv : v < 340282366920938463463374607431768211456) (hl : b.length ≤ 1000000) (ho : -9223372036854775808 ≤ off ∧ off ≤ 9223372036854775807) :
    Q_z1z off w (wN v) b.length b = some (((if (getB b off w).isSome then 0 else getE off w), ()), ((b.length, ()), ((if (getB b off w).isSome then putB b off w v else b), ()))) := by
  obtain ⟨h0, h1⟩ := Q_bWin b off w hl ho
  refine fin ?_
  unfold M_z1z
  cases hg : getB b off w with
  | none =>
    have hn' : ¬ (0 ≤ off ∧ 1 ≤ w ∧ w ≤ 128 ∧ off + w ≤ 8 * (b.length : Int)) := fun k => by unfold getB at hg; rw [if_pos k] at hg; cases hg
    simp only [ok_z1a, q_z1a, h0 hg, RS.get, Option.getD_some, Option.isSome_some, cond_true, cutL_all]
    have e : IntKind.wrap .i64 (off - IntKind.wrap .i64 (8 * (0 : Int))) = off := by
      rw [show IntKind.wrap .i64 (8 * (0 : Int)) = 0 by rfl, IntWalk.i64_in _ (by omega)]; omega
    rw [e]
    have := Q_fPutBad (bytesOf b) off w (wN v) (by rw [bytesOf_size]; omega) ho.2 (by rw [bytesOf_size]; exact hn')
    simp only [ok_z1y, q_z1y, this, RS.get, Option.getD_some, Option.isSome_some, cond_true, int_beq, decide_eq_false (getE_ne off w), cond_false]
    rfl
  | some v0 =>
    have hv' : 0 ≤ off ∧ 1 ≤ w ∧ w ≤ 128 ∧ off + w ≤ 8 * (b.length : Int) := Classical.byContradiction fun k => by unfold getB at hg; rw [if_neg k] at hg; cases hg
    have h1 := h1 v0 hg
    generalize hf : off.toNat / 8 = fr at h1
    generalize hn : (off.toNat + w.toNat + 7) / 8 - fr = n at h1
    have e : IntKind.wrap .i64 (off - IntKind.wrap .i64 (8 * ((fr : Nat) : Int))) = ((off.toNat - 8 * fr : Nat) : Int) := by
      rw [IntWalk.i64_in (8 * ((fr : Nat) : Int)) (by omega), IntWalk.i64_in _ (by omega)]; omega
    have hwn : w = ((w.toNat : Nat) : Int) := by omega
    have hcut : cutL (0 : Int) b fr n = (b.drop fr).take n := cutL_eq (by omega)
    have hlen : ((b.drop fr).take n).length = n := by rw [List.length_take, List.length_drop]; omega
    have hcB : isB ((b.drop fr).take n) := fun x hx => hb _ (List.mem_of_mem_drop (List.mem_of_mem_take hx))
    have hP := Q_fPut v hv hcB (off.toNat - 8 * fr) w.toNat (by omega) (by rw [hlen]; omega) (by rw [hlen]; omega)
    rw [← hwn] at hP
    have hpl : (putN ((b.drop fr).take n) (off.toNat - 8 * fr) w.toNat v).length = n := by rw [putN_length, hlen]
    have hsz : (bytesOf (putN ((b.drop fr).take n) (off.toNat - 8 * fr) w.toNat v)).size = n := by rw [bytesOf_size, hpl]
    have hnew := putN_window b hb off.toNat w.toNat v fr n hf.symm hn.symm (by omega) (by omega)
    have hc1 : cutL (0 : Int) b 0 fr = b.take fr := by rw [cutL_eq (by omega), List.drop_zero]
    have hc2 : cutL (0 : Int) (bytesL (bytesOf (putN ((b.drop fr).take n) (off.toNat - 8 * fr) w.toNat v))) 0 (Nat.min n n) = putN ((b.drop fr).take n) (off.toNat - 8 * fr) w.toNat v := by
      rw [bytesL_bytesOf (putN_isB _ _ _ _), show Nat.min n n = n from Nat.min_self n]
      have := cutL_all (0 : Int) (putN ((b.drop fr).take n) (off.toNat - 8 * fr) w.toNat v)
      rw [hpl] at this; exact this
    have hc3 : cutL (0 : Int) b (fr + n) (b.length - (fr + n)) = b.drop (fr + n) := by
      rw [cutL_eq (by omega), List.take_of_length_le (by rw [List.length_drop]; omega)]
    have d1 : decide (fr + n ≤ b.length) = true := by rw [decide_eq_true_eq]; omega
    simp only [Option.isSome_some, if_true]
    unfold putB
    rcases h1 with ⟨z, a1⟩ | ⟨a1, a2⟩
    · subst z
      simp only [ok_z1a, q_z1a, a1, e, hcut, ok_z1y, q_z1y, hP, RS.get, Option.getD_some, Option.isSome_some, cond_true, int_beq, decide_true, d1, hsz, hc1, hc2, hpl, hc3, hnew]
    · simp only [ok_z1a, ok_z1a_1, q_z1a_1, a1, a2, e, hcut, ok_z1y, q_z1y, hP, RS.get, Option.getD_some, Option.isSome_some, Option.isSome_none, cond_true, cond_false, int_beq, decide_true, d1, hsz, hc1, hc2, hpl, hc3, hnew]
end Go.AMach
