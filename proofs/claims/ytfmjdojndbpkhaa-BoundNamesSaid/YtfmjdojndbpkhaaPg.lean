/- BoundNames. -/
import Derived.Test.YtfmjdojndbpkhaaPf
namespace Go.AMach
set_option linter.unusedVariables false
set_option linter.unusedSimpArgs false
set_option linter.unnecessarySimpa false
set_option linter.unusedVariables false
set_option linter.unusedSimpArgs false
theorem isT (n want : Int) (h : n = want) : Q_z0d n 0 want = some ((true, ()), ()) := by
  refine fin ?_
  unfold M_z0d
  refine stepT' rfl ?_
  rw [show (n == want) = true from beqT' h]
theorem Pure.BoundNames : Q_z0w Q_z0s Q_z0r Q_z01 Q_z0d Q_z0v = some ((true, ()), ()) := by
  refine fin ?_
  unfold M_z0w
  have h2 : Q_z0r ([], ([], ([], ([], ([], ([], ([], ([], ([], ()))))))))) = some (((0 : Int), ((0 : Int), ())), ()) := by kernel_rfl
  have h3 : Q_z0r ([((1 : Int), ((0 : Int), ((0 : Int), ((0 : Int), ((0 : Int), ((0 : Int), ((0 : Int), ([], ((2 : Int), ()))))))))), ((2 : Int), ((0 : Int), ((0 : Int), ((0 : Int), ((0 : Int), ((0 : Int), ((0 : Int), ([], ((0 : Int), ()))))))))), ((3 : Int), ((0 : Int), ((0 : Int), ((0 : Int), ((0 : Int), ((0 : Int), ((0 : Int), ([], ((0 : Int), ())))))))))], ([], ([], ([], ([], ([], ([], ([], ([], ()))))))))) = some (((2 : Int), ((0 : Int), ())), ()) := by kernel_rfl
  have h4 : Q_z0r ([], ([], ([((2 : Int), ((0 : Int), ([], ((0 : Int), ((1 : Int), ()))))), ((1 : Int), ((0 : Int), ([], ((0 : Int), ((7 : Int), ())))))], ([], ([], ([], ([], ([], ([], ()))))))))) = some (((1 : Int), ((0 : Int), ())), ()) := by kernel_rfl
  have h5 : Q_z01 [(23 : Int), (20 : Int), (20 : Int)] = some (q_z01 [(23 : Int), (20 : Int), (20 : Int)]) := by kernel_rfl
  have h6 : Q_z01 [(12 : Int), (23 : Int), (20 : Int), (22 : Int), (20 : Int)] = some (q_z01 [(12 : Int), (23 : Int), (20 : Int), (22 : Int), (20 : Int)]) := by kernel_rfl
  have h7 : Q_z0r ([], ([], ([((1 : Int), ((0 : Int), ([], ((0 : Int), ((0 : Int), ())))))], ([((1 : Int), (ByteArray.empty, (ByteArray.empty, ((0 : Int), ((0 : Int), ((1 : Int), ([], ((0 : Int), ((0 : Int), ((0 : Int), (false, ()))))))))))), ((1 : Int), (ByteArray.empty, (ByteArray.empty, ((0 : Int), ((0 : Int), ((2 : Int), ([], ((0 : Int), ((0 : Int), ((0 : Int), (false, ()))))))))))), ((2 : Int), (ByteArray.empty, (ByteArray.empty, ((0 : Int), ((0 : Int), ((3 : Int), ([], ((0 : Int), ((0 : Int), ((0 : Int), (false, ())))))))))))], ([((1 : Int), ((cutL zInstrS (q_z01 [(23 : Int), (20 : Int), (20 : Int)]).2.1 0 (q_z01 [(23 : Int), (20 : Int), (20 : Int)]).1.1), ())), ((2 : Int), ((cutL zInstrS (q_z01 [(12 : Int), (23 : Int), (20 : Int), (22 : Int), (20 : Int)]).2.1 0 (q_z01 [(12 : Int), (23 : Int), (20 : Int), (22 : Int), (20 : Int)]).1.1), ())), ((3 : Int), ((mkL (Int.toNat (9 : Int)) (fun i => ((0 : Int), ((0 : Int), (((0 : Int), ((0 : Int), ())), (((0 : Int), ((0 : Int), ())), ((0 : Int), ()))))))), ()))], ([], ([], ([], ([], ()))))))))) = some (((4 : Int), ((0 : Int), ())), ()) := by kernel_rfl
  have t1 := Q_tower 2 2 3 (by omega) (by omega) (by omega)
  have o1 := Q_OfT 2 2 3 (by omega) (by omega) (by omega)
  have t2 := Q_tower 16 8 5 (by omega) (by omega) (by omega)
  have o2 := Q_OfT 16 8 5 (by omega) (by omega) (by omega)
  have t3 := Q_tower 2 15 0 (by omega) (by omega) (by omega)
  have o3 := Q_OfT 2 15 0 (by omega) (by omega) (by omega)
  have t4 := Q_tower 256 1 255 (by omega) (by omega) (by omega)
  have o4 := Q_OfT 256 1 255 (by omega) (by omega) (by omega)
  have t5 := Q_tower 256 1 256 (by omega) (by omega) (by omega)
  have o5 := Q_OfT 256 1 256 (by omega) (by omega) (by omega)
  rw [show cut7 (1 + WC 2 3 2) = 16 by kernel_rfl] at o1
  rw [show cut7 (1 + WC 16 5 8) = 65537 by kernel_rfl] at o2
  rw [show cut7 (1 + WC 2 0 15) = 32768 by kernel_rfl] at o3
  rw [show cut7 (1 + WC 256 255 1) = 65282 by kernel_rfl] at o4
  rw [show cut7 (1 + WC 256 256 1) = 65537 by kernel_rfl] at o5
  extract_lets -merge +onlyGivenNames y1
  have e_y : y1 = _ := (congrArg RS.get awake24).trans (get_some _)
  clear_value y1; subst e_y
  refine stepC' awake24 ?_
  refine stepF' rfl ?_
  extract_lets -merge +onlyGivenNames y2
  have e_y : y2 = _ := (congrArg RS.get h2).trans (get_some _)
  clear_value y2; subst e_y
  refine stepC' h2 ?_
  extract_lets -merge +onlyGivenNames y3
  have e_y : y3 = _ := (congrArg RS.get h3).trans (get_some _)
  clear_value y3; subst e_y
  refine stepC' h3 ?_
  extract_lets -merge +onlyGivenNames y4
  have e_y : y4 = _ := (congrArg RS.get h4).trans (get_some _)
  clear_value y4; subst e_y
  refine stepC' h4 ?_
  extract_lets -merge +onlyGivenNames y5
  have e_y : y5 = _ := (congrArg RS.get h5).trans (get_some _)
  clear_value y5; subst e_y
  refine stepC' h5 ?_
  extract_lets -merge +onlyGivenNames y6
  have e_y : y6 = _ := (congrArg RS.get h6).trans (get_some _)
  clear_value y6; subst e_y
  refine stepC' h6 ?_
  refine stepT' (decide_eq_true (by decide)) ?_
  extract_lets -merge +onlyGivenNames y7
  have e_y : y7 = _ := (congrArg RS.get h7).trans (get_some _)
  clear_value y7; subst e_y
  refine stepC' h7 ?_
  extract_lets -merge +onlyGivenNames y8
  have e_y : y8 = _ := (congrArg RS.get (isT 0 0 rfl)).trans (get_some _)
  clear_value y8; subst e_y
  refine stepC' (isT 0 0 rfl) ?_
  refine stepF' rfl ?_
  extract_lets -merge +onlyGivenNames y9
  have e_y : y9 = _ := (congrArg RS.get (isT 2 2 rfl)).trans (get_some _)
  clear_value y9; subst e_y
  refine stepC' (isT 2 2 rfl) ?_
  refine stepF' rfl ?_
  extract_lets -merge +onlyGivenNames y10
  have e_y : y10 = _ := (congrArg RS.get (isT 1 1 rfl)).trans (get_some _)
  clear_value y10; subst e_y
  refine stepC' (isT 1 1 rfl) ?_
  refine stepF' rfl ?_
  extract_lets -merge +onlyGivenNames y11
  have e_y : y11 = _ := (congrArg RS.get (isT 4 4 rfl)).trans (get_some _)
  clear_value y11; subst e_y
  refine stepC' (isT 4 4 rfl) ?_
  refine stepF' rfl ?_
  extract_lets -merge +onlyGivenNames y12
  have e_y : y12 = _ := (congrArg RS.get t1).trans (get_some _)
  clear_value y12; subst e_y
  refine stepC' t1 ?_
  extract_lets -merge +onlyGivenNames y13
  have e_y : y13 = _ := (congrArg RS.get o1).trans (get_some _)
  clear_value y13; subst e_y
  refine stepC' o1 ?_
  extract_lets -merge +onlyGivenNames y14
  have e_y : y14 = _ := (congrArg RS.get t2).trans (get_some _)
  clear_value y14; subst e_y
  refine stepC' t2 ?_
  extract_lets -merge +onlyGivenNames y15
  have e_y : y15 = _ := (congrArg RS.get o2).trans (get_some _)
  clear_value y15; subst e_y
  refine stepC' o2 ?_
  extract_lets -merge +onlyGivenNames y16
  have e_y : y16 = _ := (congrArg RS.get t3).trans (get_some _)
  clear_value y16; subst e_y
  refine stepC' t3 ?_
  extract_lets -merge +onlyGivenNames y17
  have e_y : y17 = _ := (congrArg RS.get o3).trans (get_some _)
  clear_value y17; subst e_y
  refine stepC' o3 ?_
  extract_lets -merge +onlyGivenNames y18
  have e_y : y18 = _ := (congrArg RS.get t4).trans (get_some _)
  clear_value y18; subst e_y
  refine stepC' t4 ?_
  extract_lets -merge +onlyGivenNames y19
  have e_y : y19 = _ := (congrArg RS.get o4).trans (get_some _)
  clear_value y19; subst e_y
  refine stepC' o4 ?_
  extract_lets -merge +onlyGivenNames y20
  have e_y : y20 = _ := (congrArg RS.get t5).trans (get_some _)
  clear_value y20; subst e_y
  refine stepC' t5 ?_
  extract_lets -merge +onlyGivenNames y21
  have e_y : y21 = _ := (congrArg RS.get o5).trans (get_some _)
  clear_value y21; subst e_y
  refine stepC' o5 ?_
  extract_lets -merge +onlyGivenNames y22
  have e_y : y22 = _ := (congrArg RS.get (isT 16 16 rfl)).trans (get_some _)
  clear_value y22; subst e_y
  refine stepC' (isT 16 16 rfl) ?_
  refine stepT' rfl ?_
  extract_lets -merge +onlyGivenNames y23
  have e_y : y23 = _ := (congrArg RS.get (isT 65537 65537 rfl)).trans (get_some _)
  clear_value y23; subst e_y
  refine stepC' (isT 65537 65537 rfl) ?_
  refine stepT' rfl ?_
  extract_lets -merge +onlyGivenNames y24
  have e_y : y24 = _ := (congrArg RS.get (isT 32768 32768 rfl)).trans (get_some _)
  clear_value y24; subst e_y
  refine stepC' (isT 32768 32768 rfl) ?_
  refine stepT' rfl ?_
  extract_lets -merge +onlyGivenNames y25
  have e_y : y25 = _ := (congrArg RS.get (isT 65282 65282 rfl)).trans (get_some _)
  clear_value y25; subst e_y
  refine stepC' (isT 65282 65282 rfl) ?_
  refine stepT' rfl ?_
  extract_lets -merge +onlyGivenNames y26
  have e_y : y26 = _ := (congrArg RS.get (isT 65537 65537 rfl)).trans (get_some _)
  clear_value y26; subst e_y
  refine stepC' (isT 65537 65537 rfl) ?_
  rfl
end Go.AMach
