/- Layer 18: KeyTells. -/
import Derived.Test.YtphmidhlgkclgaaBi
namespace Go.AMach
set_option linter.unusedVariables false
set_option linter.unusedSimpArgs false
set_option linter.unnecessarySimpa false
open Go
set_option linter.unusedVariables false

theorem rk_ok (l : List NodeS) (s : ByteArray) (h : s.size ≤ 9216) : RkOk (hdsV l s) s (bytesOf zeros) where
  sl := h
  ml := by rw [zeros_size]; omega
  hl := by have := walkV_bound l s; unfold hdsV; omega
  at_ := fun x hx => by have := walkV_at l s x hx; omega

theorem dec_rn {x : HK.sems rh_z10_1} : decRes ro_z10 rh_z10 (some (encRes ro_z10_1 rh_z10_1 (((), ((), ())), x))) = none := rfl
theorem Q_rNew (n : Int) (s : ByteArray) (h : s.size ≤ 9216) : Q_z10 n s = none ∧ Q_z10_1 n s = some (((), ((), ())), ((s, (bytesOf zeros, (n, ((), ())))), ())) := by
  have hM : M_z10 FUEL n s = some (encRes ro_z10_1 rh_z10_1 (((), ((), ())), ((s, (bytesOf zeros, (n, ((), ())))), ()))) := by
    unfold M_z10
    have d : decide ((0 : Int) ≤ (32 : Int) ∧ (32 : Int) ≤ (32 : Int) ∧ (1 : Nat) * (32 : Int) ≤ (2 : Int) ^ 46) = true := by decide
    rw [cond_dec, if_neg (by omega), d, cond_true]
    rfl
  exact ⟨by unfold Q_z10; rw [hM]; exact dec_rn, fin hM⟩
theorem Q_rNewBad (n : Int) (s : ByteArray) (h : 9216 < s.size) : Q_z10 n s = some (((), ((), ())), ()) := by
  refine fin ?_
  unfold M_z10
  rw [cond_dec, if_pos (by omega)]
theorem Q_rpWalk (l : List NodeS) (hl : Nodes l) (n : Int) (s m : ByteArray) (h : s.size ≤ 10000) : Q_z20 l s m n =
    some (((walkV l s).2.1, ((walkV l s).2.2, ())), ((s, (m, (n, ((walkV l s).1.length, ())))), ((walkV l s).1, ()))) := by
  refine fin ?_
  unfold M_z20
  have hb := walkV_bound l s
  have d : decide ((walkV l s).1.length * 16 ≤ 2 ^ 46 ∧ (walkV l s).1.length ≤ 2 ^ 46) = true := by rw [decide_eq_true_eq]; omega
  simp only [ok_z1z, q_z1z, Q_rWalk l hl s h, RS.get, Option.getD_some, Option.isSome_some, cond_true, cutL_all, d, Nat.zero_add]

abbrev wkS (hs : List HeadS) (pt : Int) (b mt : List Int) (S M : ByteArray) : HK.sems rh_z21_1 := (((), (hs.length, ((), (pt, ())))), ((b.length, ()), (b, (hs, ((mt.length, ()), (mt, ((S, (M, (pt, (hs.length, ())))), (hs, ()))))))))
theorem dec_w {x : HK.sems rh_z21_1} : decRes ro_z21 rh_z21 (some (encRes ro_z21_1 rh_z21_1 (((), ((), ((), ()))), x))) = none := rfl
theorem Q_walked (s : ByteArray) (l : List NodeS) (hl : Nodes l) (h : s.size ≤ 9216) : Q_z21 s l = none ∧ Q_z21_1 s l = some (((), ((), ((), ()))), wkS (hdsV l s) 1 (bytesL s) zeros s (bytesOf zeros)) := by
  have hM : M_z21 FUEL s l = some (encRes ro_z21_1 rh_z21_1 (((), ((), ((), ()))), wkS (hdsV l s) 1 (bytesL s) zeros s (bytesOf zeros))) := by
    unfold M_z21
    have hw := Q_pWalk l hl 1 (bytesL s) zeros (by rw [bytesL_length]; omega)
    rw [bytesOf_bytesL, bytesL_length] at hw
    obtain ⟨r0, r1⟩ := Q_rNew 1 s h
    simp only [ok_z01, q_z01, Q_pNew 1 s h, ok_z10, ok_z10_1, q_z10_1, r0, r1, ok_z1m, q_z1m, hw, ok_z20, q_z20, Q_rpWalk l hl 1 s (bytesOf zeros) (by omega), RS.get, Option.getD_some, Option.isSome_some, Option.isSome_none, cond_true, cond_false]
    unfold wkS hdsV
    rw [bytesL_length]
  exact ⟨by unfold Q_z21; rw [hM]; exact dec_w, fin hM⟩
theorem Q_walkedBad (s : ByteArray) (l : List NodeS) (h : 9216 < s.size) : Q_z21 s l = some (((), ((), ((), ()))), ()) := by
  refine fin ?_
  unfold M_z21
  obtain ⟨a, b⟩ := Q_pNewBad 1 s h
  simp only [ok_z01, ok_z01_2, a, b, ok_z10, Q_rNewBad 1 s h, Option.isSome_some, Option.isSome_none, cond_true, cond_false]
theorem Q_pText {hs : List HeadS} {b mt : List Int} (pt : Int) : Q_z2k hs.length pt b.length b hs mt.length mt = some ((bytesOf b, ()), pkS hs pt b mt) := by
  refine fin ?_
  unfold M_z2k
  simp only [ok_z11, q_z11, Q_bText, RS.get, Option.getD_some, Option.isSome_some, cond_true]

theorem L_Tells (kr : Bool → Option Res) (k : Nat → Int → Nat → List Int → List HeadS → Nat → List Int → Option Res) {hs : List HeadS} {S M : ByteArray} (R : RkOk hs S M) (pt : Int) (l : List FieldS) (hl : l.length ≤ 1000000) (hg : ∀ f ∈ l, FieldT.good f) : ∀ (m j : Nat), j ≤ l.length → l.length - j < m →
    L_z2l_0 FUEL kr k l l.length l.length (widV l) (widV l) m (j : Int) hs.length pt (bytesL S).length (bytesL S) hs (bytesL M).length (bytesL M) S M pt hs.length hs = k hs.length pt (bytesL S).length (bytesL S) hs (bytesL M).length (bytesL M)
  | 0, _, _, h => by omega
  | m + 1, j, hj, hm => by
    show F_z2l_0 FUEL kr k l l.length l.length (widV l) (widV l) (L_z2l_0 FUEL kr k l l.length l.length (widV l) (widV l) m) (j : Int) hs.length pt (bytesL S).length (bytesL S) hs (bytesL M).length (bytesL M) S M pt hs.length hs = _
    unfold F_z2l_0
    simp only [cond_dec]
    by_cases h : j < l.length
    · have hgood := hg _ (rdd_mem (d := zFieldS) h)
      rw [if_pos (by omega)]
      have n1 := Q_kNumber R.pk pt _ hgood
      have n2 := Q_rNumber R pt _ hgood
      generalize numX (keyT hs (bytesL S) (bytesL M) (rdd zFieldS l j)) = x at n1 n2
      simp only [if_pos (show (0 : Int) ≤ (j : Int) ∧ (j : Int) < ((l.length : Nat) : Int) by omega), toNat_cast, ok_z2f, q_z2f, n1, ok_z2j, q_z2j, n2, RS.get, Option.getD_some, Option.isSome_some, cond_true, int_bne, decide_true, Bool.not_true, cond_false]
      rw [i64_succ (by omega)]
      exact L_Tells kr k R pt l hl hg m (j + 1) (by omega) (by omega)
    · rw [if_neg (by omega)]

theorem Pure.KeyTells (s : ByteArray) (hs : Ty.str.good s) (l : List NodeS) (h : (Ty.slice NodeT).good l) (fs : List FieldS) (hf : (Ty.slice FieldT).good fs) : Q_z2l s l fs = some ((true, ()), ()) := by
  refine fin ?_
  unfold M_z2l
  obtain ⟨bb, hb, hb2⟩ := Q_large l (good_len h)
  simp only [ok_z0z, q_z0z, hb, ok_z0v, q_z0v, awake18, RS.get, Option.getD_some, Option.isSome_some, cond_true, Bool.not_true, cond_false]
  cases bb with
  | true => rfl
  | false =>
  obtain ⟨_, ha⟩ := hb2 rfl
  have hl := nodes_of h ha
  simp only [cond_false]
  rw [cond_dec, cond_dec]
  refine ite_eq (fun _ => rfl) fun c1 => ite_eq (fun _ => rfl) fun c2 => ?_
  by_cases h9 : s.size ≤ 9216
  · obtain ⟨f0, f1⟩ := Q_walked s l hl h9
    have R := rk_ok l s h9
    have gf : ∀ f ∈ fs, FieldT.good f := hf.2
    have P := R.pk
    rw [bytesL_zeros] at P
    have k1 := Q_kOf P 1 fs (by omega) gf
    have k2 := Q_rKey R 1 fs (by omega) gf
    rw [bytesL_zeros] at k2
    have hw := Q_Widths fs (by omega)
    have hr := Q_rWidths fs (by omega)
    have hl2 := fun kr k => L_Tells kr k R 1 fs (by omega) gf FUEL 0 (by omega) (by unfold FUEL; omega)
    rw [bytesL_zeros] at hl2
    simp only [ok_z21, ok_z21_1, q_z21_1, f0, f1, RS.get, Option.getD_some, Option.isSome_some, Option.isSome_none, cond_true, cond_false]
    generalize exS (keyL (hdsV l s) (bytesL s) zeros fs) = x at k1 k2
    simp only [ok_z25, q_z25, k1, ok_z2d, q_z2d, k2, ok_z0o, q_z0o, hw, ok_z2e, q_z2e, hr, RS.get, Option.getD_some, Option.isSome_some, cond_true, toList_beq, int_bne, decide_true, Bool.not_true, cond_false]
    refine Eq.trans (hl2 _ _) ?_
    simp only [ok_z2k, q_z2k, Q_pText, bytesOf_bytesL, decide_true, RS.get, Option.getD_some, Option.isSome_some, cond_true]
  · simp only [ok_z21, Q_walkedBad s l (by omega), Option.isSome_some, cond_true]
    rw [decide_eq_true (by omega)]
end Go.AMach
