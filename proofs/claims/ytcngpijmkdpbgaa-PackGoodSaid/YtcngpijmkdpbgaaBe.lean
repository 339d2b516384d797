/- Layer 18: KeyGone, KeyAlike. -/
import Derived.Test.YtcngpijmkdpbgaaBd
import Derived.Test.YtcngpijmkdpbgaaPa
namespace Go.AMach
set_option linter.unusedVariables false
set_option linter.unusedSimpArgs false
set_option linter.unnecessarySimpa false
open Go
set_option linter.unusedVariables false

/-! ### A packet -/
def zeros : List Int := mkL 32 fun _ => (0 : Int)
theorem zeros_isB : isB zeros := fun x hx => by
  unfold zeros mkL at hx
  simp at hx
  omega
theorem bytesL_zeros : bytesL (bytesOf zeros) = zeros := bytesL_bytesOf zeros_isB
theorem zeros_size : (bytesOf zeros).size = 32 := bytesOf_size _
theorem dec_n0 {x : HK.sems rh_z01_1} : decRes ro_z01 rh_z01 (some (encRes ro_z01_1 rh_z01_1 (((), ((), ())), x))) = none := rfl
theorem Q_bNew (s : ByteArray) (h : s.size ≤ 9216) : Q_z01 s = none ∧ Q_z01_1 s = some (((), ((), ())), ((s.size, ()), (bytesL s, ()))) := by
  have hM : M_z01 FUEL s = some (encRes ro_z01_1 rh_z01_1 (((), ((), ())), ((s.size, ()), (bytesL s, ())))) := by
    unfold M_z01
    rw [cond_dec, if_neg (by omega)]
  exact ⟨by unfold Q_z01; rw [hM]; exact dec_n0, fin hM⟩
theorem Q_bNewBad (s : ByteArray) (h : 9216 < s.size) : Q_z01 s = some (((), ((), ())), ()) := by
  refine fin ?_
  unfold M_z01
  rw [cond_dec, if_pos (by omega)]
theorem Q_pNew (n : Int) (s : ByteArray) (h : s.size ≤ 9216) : Q_z02 n s = some (((), ((), ())), (((), ((), ((), (n, ())))), ((s.size, ()), (bytesL s, ((zeros.length, ()), (zeros, ())))))) := by
  refine fin ?_
  unfold M_z02
  obtain ⟨a0, a1⟩ := Q_bNew s h
  obtain ⟨b0, b1⟩ := Q_bNew (bytesOf zeros) (by rw [zeros_size]; omega)
  have d : decide ((0 : Int) ≤ (32 : Int) ∧ (32 : Int) ≤ (32 : Int) ∧ (1 : Nat) * (32 : Int) ≤ (2 : Int) ^ 46) = true := by decide
  have hz : (bytesOf (mkL (Int.toNat (32 : Int)) (fun i => (0 : Int)))) = bytesOf zeros := rfl
  simp only [ok_z01, ok_z01_1, q_z01_1, a0, a1, d, hz, b0, b1, RS.get, Option.getD_some, Option.isSome_some, Option.isSome_none, cond_true, cond_false, bytesL_zeros, zeros_size]
  rfl
theorem dec_n1 : decRes ro_z02 rh_z02 (some (encRes ro_z02_2 rh_z02_2 (((), ((), ())), ()))) = none := rfl
theorem Q_pNewBad (n : Int) (s : ByteArray) (h : 9216 < s.size) : Q_z02 n s = none ∧ Q_z02_2 n s = some (((), ((), ())), ()) := by
  have hM : M_z02 FUEL n s = some (encRes ro_z02_2 rh_z02_2 (((), ((), ())), ())) := by
    unfold M_z02
    simp only [ok_z01, Q_bNewBad s h, Option.isSome_some, cond_true]
  exact ⟨by unfold Q_z02; rw [hM]; exact dec_n1, fin hM⟩
theorem Q_bText {b : List Int} : Q_z03 b.length b = some ((bytesOf b, ()), ((b.length, ()), (b, ()))) := by
  refine fin ?_
  unfold M_z03
  rw [cutL_all]
theorem Q_pWalk (l : List NodeS) (hl : Nodes l) (n : Int) (b mt : List Int) (h : b.length < 1000000000) : Q_z0y l n b.length b mt.length mt =
    some (((walkV l (bytesOf b)).2.1, ((walkV l (bytesOf b)).2.2, ())), (((), ((walkV l (bytesOf b)).1.length, ((), (n, ())))), ((b.length, ()), (b, ((mt.length, ()), (mt, ((walkV l (bytesOf b)).1, ()))))))) := by
  have hT : Q_z04 n b.length b mt.length mt = some ((bytesOf b, ()), (((), ((), ((), (n, ())))), ((b.length, ()), (b, ((mt.length, ()), (mt, ())))))) := by
    refine fin ?_
    unfold M_z04
    simp only [ok_z03, q_z03, Q_bText, RS.get, Option.getD_some, Option.isSome_some, cond_true]
  refine fin ?_
  unfold M_z0y
  simp only [ok_z04, q_z04, hT, RS.get, Option.getD_some, Option.isSome_some, cond_true, ok_z0x, q_z0x, Q_Walk l hl (bytesOf b) (by rw [bytesOf_size]; exact h)]

/-- The headers found. -/
noncomputable def hdsV (l : List NodeS) (s : ByteArray) : List HeadS := (walkV l s).1
theorem pk_ok (l : List NodeS) (s : ByteArray) (h : s.size ≤ 9216) : PkOk (hdsV l s) (bytesL s) zeros where
  bB := bytesL_isB s
  mB := zeros_isB
  bl := by rw [bytesL_length]; omega
  ml := by decide
  hl := by have := walkV_bound l s; unfold hdsV; omega
  at_ := fun x hx => by have := walkV_at l s x hx; omega
/-! -: KeyGone -/
end Go.AMach
