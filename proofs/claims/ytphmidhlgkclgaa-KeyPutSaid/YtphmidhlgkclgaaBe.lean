/- Layer 18: KeyGone, KeyAlike. -/
import Derived.Test.YtphmidhlgkclgaaBd
import Derived.Test.YtphmidhlgkclgaaPa
namespace Go.AMach
set_option linter.unusedVariables false
set_option linter.unusedSimpArgs false
set_option linter.unnecessarySimpa false
open Go
set_option linter.unusedVariables false

theorem L_large (k : Int → Option Res) (l : List NodeS) (hl : l.length < 9223372036854775807) : ∀ (m j : Nat) (acc : Int), 0 ≤ acc → acc ≤ 5000 → j ≤ l.length → 5 * (j : Int) ≤ acc → (acc < 2000 → ∀ x ∈ l.take j, armsN x < 3000) → l.length - j < m →
    ∃ r : Int, L_z0z_0 FUEL k l m acc (j : Int) = k r ∧ (r < 2000 → l.length < 600 ∧ ∀ x ∈ l, armsN x < 3000)
  | 0, _, _, _, _, _, _, _, h => by omega
  | m + 1, j, acc, h0, h1, hj, h10, ha, hm => by
    show ∃ r : Int, F_z0z_0 FUEL k l (L_z0z_0 FUEL k l m) acc (j : Int) = k r ∧ _
    unfold F_z0z_0
    simp only [cond_dec]
    by_cases hjl : j < l.length
    · rw [if_pos (by omega)]
      by_cases hacc : acc < 2000
      · rw [if_pos hacc, if_pos ⟨by omega, by omega⟩]
        simp only [toNat_cast]
        rw [i64_succ (by omega), IntWalk.i64_in (acc + 5) (by omega)]
        generalize hx : rdd zNodeS l j = x
        have hx' : x = l[j] := by rw [← hx, rdd_lt hjl]
        have hmin : ∀ a : Nat, (if ((a : Nat) : Int) < 2000 then ((a : Nat) : Int) else (2000 : Int)) = ((min a 2000 : Nat) : Int) := fun a => by split <;> omega
        rw [hmin]
        have hle : min (List.length x.2.2.2.2.2.2.2.1) 2000 ≤ 2000 := by omega
        rw [IntWalk.i64_in _ (by omega)]
        refine L_large k l hl m (j + 1) _ (by omega) (by omega) (by omega) (by omega) (fun hlt y hy => ?_) (by omega)
        rw [List.take_add_one, List.getElem?_eq_getElem hjl] at hy
        rcases List.mem_append.1 hy with hy | hy
        · exact ha hacc y hy
        · simp at hy
          subst hy
          rw [← hx']
          unfold armsN
          omega
      · rw [if_neg hacc]
        exact ⟨acc, rfl, fun h => absurd h hacc⟩
    · rw [if_neg (by omega)]
      have : j = l.length := by omega
      refine ⟨acc, rfl, fun h => ⟨by omega, fun x hx => ha h x ?_⟩⟩
      rw [List.take_of_length_le (by omega)]; exact hx

theorem Q_large (l : List NodeS) (hl : l.length < 9223372036854775807) : ∃ b, Q_z0z l = some ((b, ()), ()) ∧ (b = false → l.length < 600 ∧ ∀ x ∈ l, armsN x < 3000) := by
  obtain ⟨r, h1, h2⟩ := L_large (fun y2 => some (encRes ro_z0z rh_z0z (((decide (y2 ≥ (2000 : Int))), ()), ()))) l hl FUEL 0 0 (by omega) (by omega) (by omega) (by omega) (fun _ x hx => by simp at hx) (by unfold FUEL; omega)
  refine ⟨decide (r ≥ 2000), ?_, fun h => h2 (by simpa using h)⟩
  exact fin h1

/-! ### A packet -/
def zeros : List Int := mkL 32 fun _ => (0 : Int)
theorem zeros_isB : isB zeros := fun x hx => by
  unfold zeros mkL at hx
  simp at hx
  omega
theorem bytesL_zeros : bytesL (bytesOf zeros) = zeros := bytesL_bytesOf zeros_isB
theorem zeros_size : (bytesOf zeros).size = 32 := bytesOf_size _
theorem dec_n0 {x : HK.sems rh_z00_1} : decRes ro_z00 rh_z00 (some (encRes ro_z00_1 rh_z00_1 (((), ((), ())), x))) = none := rfl
theorem Q_bNew (s : ByteArray) (h : s.size ≤ 9216) : Q_z00 s = none ∧ Q_z00_1 s = some (((), ((), ())), ((s.size, ()), (bytesL s, ()))) := by
  have hM : M_z00 FUEL s = some (encRes ro_z00_1 rh_z00_1 (((), ((), ())), ((s.size, ()), (bytesL s, ())))) := by
    unfold M_z00
    rw [cond_dec, if_neg (by omega)]
  exact ⟨by unfold Q_z00; rw [hM]; exact dec_n0, fin hM⟩
theorem Q_bNewBad (s : ByteArray) (h : 9216 < s.size) : Q_z00 s = some (((), ((), ())), ()) := by
  refine fin ?_
  unfold M_z00
  rw [cond_dec, if_pos (by omega)]
theorem Q_pNew (n : Int) (s : ByteArray) (h : s.size ≤ 9216) : Q_z01 n s = some (((), ((), ())), (((), ((), ((), (n, ())))), ((s.size, ()), (bytesL s, ((zeros.length, ()), (zeros, ())))))) := by
  refine fin ?_
  unfold M_z01
  obtain ⟨a0, a1⟩ := Q_bNew s h
  obtain ⟨b0, b1⟩ := Q_bNew (bytesOf zeros) (by rw [zeros_size]; omega)
  have d : decide ((0 : Int) ≤ (32 : Int) ∧ (32 : Int) ≤ (32 : Int) ∧ (1 : Nat) * (32 : Int) ≤ (2 : Int) ^ 46) = true := by decide
  have hz : (bytesOf (mkL (Int.toNat (32 : Int)) (fun i => (0 : Int)))) = bytesOf zeros := rfl
  simp only [ok_z00, ok_z00_1, q_z00_1, a0, a1, d, hz, b0, b1, RS.get, Option.getD_some, Option.isSome_some, Option.isSome_none, cond_true, cond_false, bytesL_zeros, zeros_size]
  rfl
theorem dec_n1 : decRes ro_z01 rh_z01 (some (encRes ro_z01_2 rh_z01_2 (((), ((), ())), ()))) = none := rfl
theorem Q_pNewBad (n : Int) (s : ByteArray) (h : 9216 < s.size) : Q_z01 n s = none ∧ Q_z01_2 n s = some (((), ((), ())), ()) := by
  have hM : M_z01 FUEL n s = some (encRes ro_z01_2 rh_z01_2 (((), ((), ())), ())) := by
    unfold M_z01
    simp only [ok_z00, Q_bNewBad s h, Option.isSome_some, cond_true]
  exact ⟨by unfold Q_z01; rw [hM]; exact dec_n1, fin hM⟩
theorem Q_bText {b : List Int} : Q_z10 b.length b = some ((bytesOf b, ()), ((b.length, ()), (b, ()))) := by
  refine fin ?_
  unfold M_z10
  rw [cutL_all]
theorem Q_pWalk (l : List NodeS) (hl : Nodes l) (n : Int) (b mt : List Int) (h : b.length < 1000000000) : Q_z1l l n b.length b mt.length mt =
    some (((walkV l (bytesOf b)).2.1, ((walkV l (bytesOf b)).2.2, ())), (((), ((walkV l (bytesOf b)).1.length, ((), (n, ())))), ((b.length, ()), (b, ((mt.length, ()), (mt, ((walkV l (bytesOf b)).1, ()))))))) := by
  have hT : Q_z11 n b.length b mt.length mt = some ((bytesOf b, ()), (((), ((), ((), (n, ())))), ((b.length, ()), (b, ((mt.length, ()), (mt, ())))))) := by
    refine fin ?_
    unfold M_z11
    simp only [ok_z10, q_z10, Q_bText, RS.get, Option.getD_some, Option.isSome_some, cond_true]
  refine fin ?_
  unfold M_z1l
  simp only [ok_z11, q_z11, hT, RS.get, Option.getD_some, Option.isSome_some, cond_true, ok_z1k, q_z1k, Q_Walk l hl (bytesOf b) (by rw [bytesOf_size]; exact h)]

/-- The headers found. -/
noncomputable def hdsV (l : List NodeS) (s : ByteArray) : List HeadS := (walkV l s).1
theorem pk_ok (l : List NodeS) (s : ByteArray) (h : s.size ≤ 9216) : PkOk (hdsV l s) (bytesL s) zeros where
  bB := bytesL_isB s
  mB := zeros_isB
  bl := by rw [bytesL_length]; omega
  ml := by decide
  hl := by have := walkV_bound l s; unfold hdsV; omega
  at_ := fun x hx => by have := walkV_at l s x hx; omega
theorem dec_f {x : HK.sems rh_z1t_1} : decRes ro_z1t rh_z1t (some (encRes ro_z1t_1 rh_z1t_1 (((), ()), x))) = none := rfl
theorem Q_found (s : ByteArray) (l : List NodeS) (hl : Nodes l) (h : s.size ≤ 9216) : Q_z1t s l = none ∧ Q_z1t_1 s l = some (((), ()), pkS (hdsV l s) 1 (bytesL s) zeros) := by
  have hM : M_z1t FUEL s l = some (encRes ro_z1t_1 rh_z1t_1 (((), ()), pkS (hdsV l s) 1 (bytesL s) zeros)) := by
    unfold M_z1t
    have hw := Q_pWalk l hl 1 (bytesL s) zeros (by rw [bytesL_length]; omega)
    rw [bytesOf_bytesL, bytesL_length] at hw
    simp only [ok_z01, q_z01, Q_pNew 1 s h, ok_z1l, q_z1l, hw, RS.get, Option.getD_some, Option.isSome_some, cond_true]
    unfold pkS hdsV
    rw [bytesL_length]
  exact ⟨by unfold Q_z1t; rw [hM]; exact dec_f, fin hM⟩
theorem Q_foundBad (s : ByteArray) (l : List NodeS) (h : 9216 < s.size) : Q_z1t s l = some (((), ()), ()) := by
  refine fin ?_
  unfold M_z1t
  obtain ⟨a, b⟩ := Q_pNewBad 1 s h
  simp only [ok_z01, ok_z01_2, a, b, Option.isSome_some, Option.isSome_none, cond_true, cond_false]

/-! -: KeyGone -/
theorem L_Gone (k : Int → Nat → Int → Nat → List Int → List HeadS → Nat → List Int → Option Res) {hs : List HeadS} {b mt : List Int} (P : PkOk hs b mt) (pt : Int) (l : List FieldS) (hl : l.length ≤ 1000000) (hg : ∀ f ∈ l, FieldT.good f) : ∀ (m j : Nat) (want : Int), j ≤ l.length → l.length - j < m →
    L_z1u_0 FUEL k l m want (j : Int) hs.length pt b.length b hs mt.length mt = k (if want = 0 then (match keyL hs b mt (l.drop j) with | .ok _ => 0 | .error e => e) else want) hs.length pt b.length b hs mt.length mt
  | 0, _, _, _, h => by omega
  | m + 1, j, want, hj, hm => by
    show F_z1u_0 FUEL k l (L_z1u_0 FUEL k l m) want (j : Int) hs.length pt b.length b hs mt.length mt = _
    unfold F_z1u_0
    simp only [cond_dec]
    by_cases h : j < l.length
    · rw [if_pos (by omega), if_pos ⟨by omega, by omega⟩]
      simp only [toNat_cast, ok_z1p, q_z1p, Q_pGet P pt (rdd zFieldS l j) (hg _ (rdd_mem h)), RS.get, Option.getD_some, Option.isSome_some, cond_true, int_beq, cond_dec, i64_succ (show j < 9223372036854775807 by omega)]
      rw [L_Gone k P pt l hl hg m (j + 1) _ (by omega) (by omega), L_Gone k P pt l hl hg m (j + 1) _ (by omega) (by omega), drop_rdd zFieldS h]
      simp only [keyL]
      by_cases hw : want = 0
      · rw [if_pos hw, if_pos hw]
        congr 1
        unfold keyT
        cases hg' : getF hs b mt (rdd zFieldS l j) with
        | error e =>
          have := getF_err hg'
          simp only []
          rw [if_neg (by omega)]
        | ok v =>
          simp only [if_true]
          cases keyL hs b mt (l.drop (j + 1)) <;> rfl
      · rw [if_neg hw, if_neg hw, if_neg hw]
    · rw [if_neg (by omega), List.drop_of_length_le (by omega)]
      simp only [keyL]
      congr 1
      by_cases hw : want = 0
      · rw [if_pos hw, hw]
      · rw [if_neg hw]

theorem Pure.KeyGone (s : ByteArray) (hs : Ty.str.good s) (l : List NodeS) (h : (Ty.slice NodeT).good l) (fs : List FieldS) (hf : (Ty.slice FieldT).good fs) : Q_z1u s l fs = some ((true, ()), ()) := by
  refine fin ?_
  unfold M_z1u
  obtain ⟨bb, hb, hb2⟩ := Q_large l (good_len h)
  simp only [ok_z0z, q_z0z, hb, ok_z0v, q_z0v, awake18, RS.get, Option.getD_some, Option.isSome_some, cond_true, Bool.not_true, cond_false]
  cases bb with
  | true => rfl
  | false =>
  obtain ⟨_, ha⟩ := hb2 rfl
  have hl := nodes_of h ha
  simp only [cond_false, cond_dec]
  refine ite_eq (fun _ => rfl) fun c1 => ite_eq (fun _ => rfl) fun c2 => ?_
  by_cases h9 : s.size ≤ 9216
  · obtain ⟨f0, f1⟩ := Q_found s l hl h9
    have P := pk_ok l s h9
    have hg : ∀ f ∈ fs, FieldT.good f := hf.2
    simp only [ok_z1t, ok_z1t_1, q_z1t_1, f0, f1, RS.get, Option.getD_some, Option.isSome_some, Option.isSome_none, cond_true, cond_false]
    refine Eq.trans (L_Gone _ P 1 fs (by omega) hg FUEL 0 0 (by omega) (by unfold FUEL; omega)) ?_
    simp only [ok_z1r, q_z1r, Q_kOf P 1 fs (by omega) hg, RS.get, Option.getD_some, Option.isSome_some, cond_true, List.drop_zero, if_true]
    cases keyL (hdsV l s) (bytesL s) zeros fs with
    | ok t => simp [exS]
    | error e =>
      simp only [exS, int_beq, decide_true, cond_true, show (ByteArray.toList ByteArray.empty == ByteArray.toList (ByteArray.mk #[])) = true by rw [toList_beq]; exact decide_eq_true rfl]
      cases decide (e = 0) <;> rfl
  · simp only [ok_z1t, Q_foundBad s l (by omega), Option.isSome_some, cond_true]
end Go.AMach
