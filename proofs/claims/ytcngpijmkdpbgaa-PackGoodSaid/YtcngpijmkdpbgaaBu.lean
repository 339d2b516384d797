/- Layer 17: PackGood. -/
import Derived.Test.YtcngpijmkdpbgaaBt
namespace Go.AMach
set_option linter.unusedVariables false
set_option linter.unusedSimpArgs false
set_option linter.unnecessarySimpa false
open Go
set_option linter.unusedVariables false

theorem foldV_good (S : Nat) : foldV (S + (65535 - foldV S)) = 65535 := by
  by_cases h : S = 0
  · subst h; rfl
  · have e : foldV S = (S - 1) % 65535 + 1 := by unfold foldV; rw [if_neg h]
    have hq : S - 1 = 65535 * ((S - 1) / 65535) + (S - 1) % 65535 := (Nat.div_add_mod _ _).symm
    have e2 : S + (65535 - foldV S) - 1 = 65534 + 65535 * ((S - 1) / 65535) := by rw [e]; omega
    unfold foldV
    rw [if_neg h, if_neg (by omega)]
    unfold foldV at e2
    rw [if_neg h] at e2
    rw [e2, Nat.add_mul_mod_self_left]
theorem tmodU (x : Int) (d : Nat) (hd : 0 < d) : ∃ r : Nat, r < d ∧ Int.tmod (IntKind.wrap .u64 x) (d : Int) = (r : Int) := by
  have h0 : 0 ≤ IntKind.wrap .u64 x := by simp [IntKind.wrap, IntKind.bits, IntKind.signed]; omega
  have h1 := Int.emod_nonneg (IntKind.wrap .u64 x) (show (d : Int) ≠ 0 by omega)
  have h2 := Int.emod_lt_of_pos (IntKind.wrap .u64 x) (show (0 : Int) < d by omega)
  exact ⟨(IntKind.wrap .u64 x % (d : Int)).toNat, by omega, by rw [Int.tmod_eq_emod_of_nonneg h0]; omega⟩
theorem L_Zero (k : Bool → Option Res) (n K : Nat) (s : ByteArray) (hs : K + n ≤ s.size) (hb : s.size ≤ 1000000) : ∀ (m j : Nat) (z : Bool), K ≤ j → j ≤ K + n → K + n - j < m →
    ∃ z', L_z26_0 FUEL k (n : Int) (K : Int) s m z (j : Int) = k z'
  | 0, _, _, _, _, h => by omega
  | m + 1, j, z, hk, hj, hm => by
    show ∃ z', F_z26_0 FUEL k (n : Int) (K : Int) s (L_z26_0 FUEL k (n : Int) (K : Int) s m) z (j : Int) = k z'
    unfold F_z26_0
    have e : IntKind.wrap .i64 ((K : Int) + (n : Int)) = ((K + n : Nat) : Int) := by rw [IntWalk.i64_in _ (by omega)]; omega
    rw [e, cond_dec]
    by_cases h : j < K + n
    · rw [if_pos (by omega), i64_succ (by omega), cond_dec, if_pos (by omega)]
      cases z with
      | true => rw [cond_true]; exact L_Zero k n K s hs hb m (j + 1) _ (by omega) (by omega) (by omega)
      | false => rw [cond_false]; exact L_Zero k n K s hs hb m (j + 1) _ (by omega) (by omega) (by omega)
    · rw [if_neg (by omega)]; exact ⟨z, rfl⟩

/-- What the statement comes to. -/
theorem good_facts {b : List Int} (hb : isB b) (K n r : Nat) (hn : K + n ≤ b.length) (hr : 2 * r + 2 ≤ n) :
    (∃ L R : List Int, b.take (K + 2 * r) = L ∧ b.drop (K + 2 * r + 2) = R ∧ ∀ v, (putN (putN b (8 * (K + 2 * r)) 16 0) (8 * (K + 2 * r)) 16 v).take (K + 2 * r) = L ∧ (putN (putN b (8 * (K + 2 * r)) 16 0) (8 * (K + 2 * r)) 16 v).drop (K + 2 * r + 2) = R) ∧
    foldV (ws true (natL (((putN (putN b (8 * (K + 2 * r)) 16 0) (8 * (K + 2 * r)) 16 (65535 - foldV (ws true (natL (((putN b (8 * (K + 2 * r)) 16 0).drop K).take n))))).drop K).take n))) = 65535 := by
  have hdec : b = b.take (K + 2 * r) ++ rdd 0 b (K + 2 * r) :: rdd 0 b (K + 2 * r + 1) :: b.drop (K + 2 * r + 2) := by
    rw [← drop_rdd (0 : Int) (show K + 2 * r + 1 < b.length by omega), ← drop_rdd (0 : Int) (show K + 2 * r < b.length by omega), List.take_append_drop]
  generalize hL : b.take (K + 2 * r) = L at hdec ⊢
  generalize hR : b.drop (K + 2 * r + 2) = R at hdec ⊢
  have hLl : L.length = K + 2 * r := by rw [← hL, List.length_take]; omega
  have hRl : R.length = b.length - (K + 2 * r + 2) := by rw [← hR, List.length_drop]
  generalize rdd 0 b (K + 2 * r) = p at hdec
  generalize rdd 0 b (K + 2 * r + 1) = q at hdec
  have h0 : ∀ v, putN b (8 * (K + 2 * r)) 16 v = L ++ ((v / 256 % 256 : Nat) : Int) :: ((v % 256 : Nat) : Int) :: R := fun v => by
    have := putN_two (L := L) (R := R) (p := p) (q := q) (hdec ▸ hb) v
    rw [← hdec, hLl] at this
    exact this
  have h1 : ∀ v w, putN (putN b (8 * (K + 2 * r)) 16 w) (8 * (K + 2 * r)) 16 v = L ++ ((v / 256 % 256 : Nat) : Int) :: ((v % 256 : Nat) : Int) :: R := fun v w => by
    have hB := putN_isB b (8 * (K + 2 * r)) 16 w
    rw [h0 w] at hB ⊢
    have := putN_two hB v
    rw [hLl] at this
    exact this
  refine ⟨⟨L, R, rfl, rfl, fun v => ?_⟩, ?_⟩
  · rw [h1]
    refine ⟨?_, ?_⟩
    · rw [List.take_append_of_le_length (by omega), List.take_of_length_le (by omega)]
    · rw [show K + 2 * r + 2 = L.length + 2 by omega, List.drop_append, List.drop_of_length_le (by omega), show L.length + 2 - L.length = 2 by omega]
      rfl
  · have hwin : ∀ x y : Int, ((L ++ x :: y :: R).drop K).take n = L.drop K ++ x :: y :: R.take (n - 2 * r - 2) := fun x y => by
      rw [List.drop_append_of_le_length (by omega), List.take_append, List.take_of_length_le (by rw [List.length_drop]; omega)]
      congr 1
      rw [List.length_drop, hLl, show n - (K + 2 * r - K) = (n - 2 * r - 2) + 1 + 1 by omega]
      rfl
    have hev : (natL (L.drop K)).length % 2 = 0 := by simp [natL, hLl]
    have hsum : ∀ x y : Nat, ws true (natL (L.drop K ++ (x : Int) :: (y : Int) :: R.take (n - 2 * r - 2))) = ws true (natL (L.drop K)) + ws true (natL (R.take (n - 2 * r - 2))) + (256 * x + y) := fun x y => by
      have e : natL (L.drop K ++ (x : Int) :: (y : Int) :: R.take (n - 2 * r - 2)) = natL (L.drop K) ++ (x :: y :: natL (R.take (n - 2 * r - 2))) := by simp [natL]
      rw [e, ws_append _ _ hev]
      simp only [ws]; omega
    rw [h1, h0, hwin, hwin, hsum, hsum]
    have hle := foldV_le (ws true (natL (L.drop K)) + ws true (natL (R.take (n - 2 * r - 2))) + (256 * (0 / 256 % 256) + 0 % 256))
    have e0 : ws true (natL (L.drop K)) + ws true (natL (R.take (n - 2 * r - 2))) + (256 * (0 / 256 % 256) + 0 % 256) = ws true (natL (L.drop K)) + ws true (natL (R.take (n - 2 * r - 2))) := by omega
    rw [e0] at hle ⊢
    generalize ws true (natL (L.drop K)) + ws true (natL (R.take (n - 2 * r - 2))) = S at hle ⊢
    have := foldV_good S
    generalize foldV S = c at hle this ⊢
    rw [show 256 * ((65535 - c) / 256 % 256) + (65535 - c) % 256 = 65535 - c by omega]
    exact this

theorem packGood_core (s : ByteArray) (hs : Ty.str.good s) (a1 a2 a3 : Int) : Q_z26 s a1 a2 a3 = some ((true, ()), ()) := by
  refine fin ?_
  unfold M_z26
  have qaw := awake17
  have hnil : (Ty.slice NodeT).good [] := by
    refine ⟨?_, fun x hx => by simp at hx⟩
    show (0 : Nat) ≤ _
    omega
  extract_lets y20 y21 y1 y5 y6 y7 y8 y9 y10 y11 y12 y13 y14 y15 y16 y18 y19
  have e : y21 = _ := (congrArg RS.get qaw).trans (get_some _)
  clear_value y21; subst e
  rcases of_cases s [] hnil with h0 | ⟨h0, h1, h4⟩
  · simp only [ok_z0z, h0, ok_z1u, awake17, Option.isSome_some, cond_true]
  have e : y1 = _ := (congrArg RS.get h1).trans (get_some _)
  by_cases hN : s.size < 2
  · simp only [ok_z0z, ok_z0z_1, h0, h1, ok_z1u, awake17, Option.isSome_some, Option.isSome_none, cond_true, cond_false, decide_eq_true (show ((s.size : Nat) : Int) < 2 by omega)]
  have P := pk_ok [] s (by omega)
  have hbl := bytesL_length s
  have hbo := bytesOf_bytesL s
  generalize hdsV [] s = hd at h1 P e
  generalize bytesL s = b at h1 P hbl hbo e
  generalize zeros = mt at h1 P e
  clear_value y1; subst e
  have hN1 : IntKind.wrap .u64 (IntKind.wrap .i64 ((s.size : Int) - 1)) = ((s.size - 1 : Nat) : Int) := by rw [IntWalk.i64_in _ (by omega), u64_in _ (by omega)]; omega
  obtain ⟨K, hK, eK⟩ := tmodU a1 (s.size - 1) (by omega)
  rw [← hN1] at eK
  have e5 : y5 = (K : Int) := eK
  clear_value y5; subst e5
  have hKK : IntKind.wrap .i64 (K : Int) = (K : Int) := IntWalk.i64_in _ (by omega)
  have e6 : y6 = ((s.size - K - 1 : Nat) : Int) := by
    show IntKind.wrap .i64 (IntKind.wrap .i64 ((s.size : Int) - IntKind.wrap .i64 (K : Int)) - 1) = _
    rw [hKK, IntWalk.i64_in ((s.size : Int) - K) (by omega), IntWalk.i64_in _ (by omega)]; omega
  clear_value y6; subst e6
  have hU6 : IntKind.wrap .u64 ((s.size - K - 1 : Nat) : Int) = ((s.size - K - 1 : Nat) : Int) := u64_in _ (by omega)
  obtain ⟨r2, h2, e2⟩ := tmodU a2 (s.size - K - 1) (by omega)
  have e7 : y7 = ((2 + r2 : Nat) : Int) := by
    show IntKind.wrap .i64 (2 + IntKind.wrap .i64 ((IntKind.wrap .u64 a2).tmod (IntKind.wrap .u64 ((s.size - K - 1 : Nat) : Int)))) = _
    rw [hU6, e2, IntWalk.i64_in (r2 : Int) (by omega), IntWalk.i64_in _ (by omega)]; omega
  clear_value y7; subst e7
  have hU8 : IntKind.wrap .u64 (IntKind.wrap .i64 (Int.tdiv ((2 + r2 : Nat) : Int) 2)) = (((2 + r2) / 2 : Nat) : Int) := by
    rw [Int.tdiv_eq_ediv_of_nonneg (by omega), IntWalk.i64_in _ (by omega), u64_in _ (by omega)]; omega
  obtain ⟨r3, h3, e3⟩ := tmodU a3 ((2 + r2) / 2) (by omega)
  have e8 : y8 = (r3 : Int) := by
    show (IntKind.wrap .u64 a3).tmod (IntKind.wrap .u64 (IntKind.wrap .i64 (Int.tdiv ((2 + r2 : Nat) : Int) 2))) = _
    rw [hU8, e3]
  clear_value y8; subst e8
  have e9 : y9 = ((K + 2 * r3 : Nat) : Int) := by
    show IntKind.wrap .i64 (IntKind.wrap .i64 (K : Int) + IntKind.wrap .i64 (2 * IntKind.wrap .i64 (r3 : Int))) = _
    rw [hKK, IntWalk.i64_in (r3 : Int) (by omega), IntWalk.i64_in (2 * (r3 : Int)) (by omega), IntWalk.i64_in _ (by omega)]; omega
  clear_value y9; subst e9
  have h8m : IntKind.wrap .i64 (8 * ((K + 2 * r3 : Nat) : Int)) = ((8 * (K + 2 * r3) : Nat) : Int) := by rw [IntWalk.i64_in _ (by omega)]; omega
  have h8K : IntKind.wrap .i64 (8 * IntKind.wrap .i64 (K : Int)) = ((8 * K : Nat) : Int) := by rw [hKK, IntWalk.i64_in _ (by omega)]; omega
  have qin : ∀ a w, Q_z1o a w = some ((fldP a w, ()), ()) := fun a w => fin rfl
  have e10 : y10 = ((fldP ((8 * (K + 2 * r3) : Nat) : Int) 16, ()), ()) := by
    show q_z1o (IntKind.wrap .i64 (8 * ((K + 2 * r3 : Nat) : Int))) 16 = _
    rw [h8m]; exact (congrArg RS.get (qin _ _)).trans (get_some _)
  clear_value y10; subst e10
  have e11 : y11 = ((fldP ((8 * K : Nat) : Int) 8, ()), ()) := by
    show q_z1o (IntKind.wrap .i64 (8 * IntKind.wrap .i64 (K : Int))) 8 = _
    rw [h8K]; exact (congrArg RS.get (qin _ _)).trans (get_some _)
  clear_value y11; subst e11
  obtain ⟨c, hc, qs⟩ := Q_pSum P 1 K (2 + r2) (K + 2 * r3) (by omega) (by omega) (by omega) (by omega)
  obtain ⟨⟨L, R, hL, hR, hLR⟩, hgood⟩ := good_facts P.bB K (2 + r2) r3 (by omega) (by omega)
  rw [← hc] at hgood
  have hLR := hLR (65535 - c)
  have hB2 := putN_isB (putN b (8 * (K + 2 * r3)) 16 0) (8 * (K + 2 * r3)) 16 (65535 - c)
  have hl2 : (putN (putN b (8 * (K + 2 * r3)) 16 0) (8 * (K + 2 * r3)) 16 (65535 - c)).length = b.length := by rw [putN_length, putN_length]
  generalize putN (putN b (8 * (K + 2 * r3)) 16 0) (8 * (K + 2 * r3)) 16 (65535 - c) = b2 at qs hgood hLR hB2 hl2
  have e12 : y12 = _ := (congrArg RS.get qs).trans (get_some _)
  clear_value y12; subst e12
  have qt := Q_pTextW (hs := hd) (b := b2) (mt := mt) 1
  have e13 : y13 = _ := (congrArg RS.get qt).trans (get_some _)
  clear_value y13; subst e13
  have hsz : (bytesOf b2).size = s.size := by rw [bytesOf_size, hl2, hbl]
  have hs' : s = bytesOf b := hbo.symm
  have e14 : y14 = bytesOf L := by
    show (bytesOf b2).extract 0 (Int.toNat ((K + 2 * r3 : Nat) : Int)) = _
    rw [toNat_cast, bytesOf_extract, List.drop_zero, hLR.1]
  have h92 : IntKind.wrap .i64 (((K + 2 * r3 : Nat) : Int) + 2) = ((K + 2 * r3 + 2 : Nat) : Int) := by rw [IntWalk.i64_in _ (by omega)]; omega
  have e15 : y15 = bytesOf R := by
    show (bytesOf b2).extract (Int.toNat (IntKind.wrap .i64 (((K + 2 * r3 : Nat) : Int) + 2))) (Int.toNat (((bytesOf b2).size : Nat) : Int)) = _
    rw [h92, toNat_cast, toNat_cast, bytesOf_extract, List.take_of_length_le (by rw [bytesOf_size]; omega), hLR.2]
  have e16 : y16 = bytesOf R := by
    show s.extract (Int.toNat (IntKind.wrap .i64 (((K + 2 * r3 : Nat) : Int) + 2))) (Int.toNat ((s.size : Nat) : Int)) = _
    rw [h92, toNat_cast, toNat_cast, hs', bytesOf_extract, List.take_of_length_le (by rw [bytesOf_size]; omega), hR]
  have hsl : s.extract (Int.toNat 0) (Int.toNat ((K + 2 * r3 : Nat) : Int)) = bytesOf L := by
    rw [toNat_cast, hs', bytesOf_extract]
    show bytesOf ((b.take (K + 2 * r3)).drop 0) = _
    rw [List.drop_zero, hL]
  have hKn : IntKind.wrap .i64 ((K : Int) + ((2 + r2 : Nat) : Int)) = ((K + (2 + r2) : Nat) : Int) := by rw [IntWalk.i64_in _ (by omega)]; omega
  have e18 : y18 = bytesOf ((b2.drop K).take (2 + r2)) := by
    show (bytesOf b2).extract (Int.toNat (IntKind.wrap .i64 (K : Int))) (Int.toNat (IntKind.wrap .i64 (IntKind.wrap .i64 (K : Int) + ((2 + r2 : Nat) : Int)))) = _
    rw [hKK, hKn, toNat_cast, toNat_cast, bytesOf_extract, List.drop_take, Nat.add_sub_cancel_left]
  clear_value y14 y15 y16; subst e14 e15 e16
  clear_value y18; subst e18
  have hBw : isB ((b2.drop K).take (2 + r2)) := fun x hx => hB2 x (List.mem_of_mem_drop (List.mem_of_mem_take hx))
  have qg := Q_Good (bytesOf ((b2.drop K).take (2 + r2))) (by rw [bytesOf_size, List.length_take]; omega)
  rw [nats_bytesOf hBw, hgood, decide_eq_true rfl] at qg
  have e19 : y19 = _ := (congrArg RS.get qg).trans (get_some _)
  clear_value y19; subst e19
  have d1 : decide ((0 : Int) ≤ 0 ∧ (0 : Int) ≤ ((K + 2 * r3 : Nat) : Int) ∧ ((K + 2 * r3 : Nat) : Int) ≤ ((s.size : Nat) : Int)) = true := by rw [decide_eq_true_eq]; omega
  have d2 : decide ((0 : Int) ≤ ((K + 2 * r3 + 2 : Nat) : Int) ∧ ((K + 2 * r3 + 2 : Nat) : Int) ≤ ((s.size : Nat) : Int) ∧ ((s.size : Nat) : Int) ≤ ((s.size : Nat) : Int)) = true := by rw [decide_eq_true_eq]; omega
  have d3 : decide ((0 : Int) ≤ (K : Int) ∧ (K : Int) ≤ ((K + (2 + r2) : Nat) : Int) ∧ ((K + (2 + r2) : Nat) : Int) ≤ ((s.size : Nat) : Int)) = true := by rw [decide_eq_true_eq]; omega
  have n1 : decide (((s.size - 1 : Nat) : Int) = 0) = false := decide_eq_false (by omega)
  have n2 : decide (((s.size - K - 1 : Nat) : Int) = 0) = false := decide_eq_false (by omega)
  have n3 : decide ((2 : Int) = 0) = false := rfl
  have n4 : decide ((((2 + r2) / 2 : Nat) : Int) = 0) = false := decide_eq_false (by omega)
  simp only [ok_z0z, ok_z0z_1, h0, h1, ok_z1u, awake17, Option.isSome_some, Option.isSome_none, cond_true, cond_false, decide_eq_false (show ¬ ((s.size : Nat) : Int) < 2 by omega), Bool.not_true, int_bne, hN1, n1, hU6, n2, n3, hU8, n4, Bool.not_false, ok_z1o, qin, h8m, h8K, ok_z24, qs, decide_true, ok_z1n, qt, hsz, d1, hsl, toList_beq, h92, d2, hKK, hKn, d3, ok_z25, qg]
  obtain ⟨z', hz⟩ := L_Zero (fun y17 => some (encRes ro_z26 rh_z26 ((true, ()), ()))) (2 + r2) K (bytesOf b2) (by rw [hsz]; omega) (by rw [hsz]; omega) FUEL K true (Nat.le_refl _) (by omega) (by unfold FUEL; omega)
  exact hz
theorem Pure.PackGood (s : ByteArray) (hs : Ty.str.good s) (a1 : Int) (_ : (Ty.int .i64).good a1) (a2 : Int) (_ : (Ty.int .i64).good a2) (a3 : Int) (_ : (Ty.int .i64).good a3) : Q_z26 s a1 a2 a3 = some ((true, ()), ()) := packGood_core s hs a1 a2 a3
end Go.AMach
