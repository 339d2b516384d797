/- A part of the walk. -/
import Derived.Test.YtbkbifpjckippaaAm21
import Derived.Test.YtbkbifpjckippaaWb
namespace Go.AMach
set_option linter.unusedVariables false
set_option linter.unusedSimpArgs false
set_option linter.unnecessarySimpa false
set_option linter.unusedVariables false
set_option maxHeartbeats 2000000
abbrev ArgT : Ty := (.pair (.int .u8) (.pair (.int .u64) .unit))
abbrev ArgS : Type := (Int × (Int × Unit))
abbrev zArgS : ArgS := ((0 : Int), ((0 : Int), ()))
abbrev NameT : Ty := (.pair (.int .u8) (.pair (.int .i64) .unit))
abbrev NameS : Type := (Int × (Int × Unit))
abbrev zNameS : NameS := ((0 : Int), ((0 : Int), ()))
abbrev WayT : Ty := (.pair (.int .u8) (.pair (.int .i64) (.pair (.int .i64) .unit)))
abbrev WayS : Type := (Int × (Int × (Int × Unit)))
abbrev zWayS : WayS := ((0 : Int), ((0 : Int), ((0 : Int), ())))
abbrev InstrT : Ty := (.pair (.int .u8) (.pair (.int .i64) (.pair ArgT (.pair ArgT (.pair (.int .i64) .unit)))))
abbrev InstrS : Type := (Int × (Int × (ArgS × (ArgS × (Int × Unit)))))
abbrev zInstrS : InstrS := ((0 : Int), ((0 : Int), (zArgS, (zArgS, ((0 : Int), ())))))
abbrev BlockT : Ty := (.pair (.int .i64) (.pair (.slice InstrT) .unit))
abbrev BlockS : Type := (Int × ((List InstrS) × Unit))
abbrev zBlockS : BlockS := ((0 : Int), ([], ()))
/-! z00: waysEnd -/
abbrev ro_z00 : List EK := [.hs 2 0]
abbrev rh_z00 : List HK := [.gone, .gone, .row WayT]
noncomputable def Q_z00 (g : WayS → Option Int) : Option (RS ro_z00 rh_z00) := match W19.tailV g with
  | some (x :: l) => cond (decide ((x :: l).length ≤ 1000)) (some (((x :: l).length, ()), ((), ((), ((x :: l), ()))))) none
  | _ => none
/-! z01: turnoutlaw19_num -/
abbrev ro_z01 : List EK := [.agg ArgT]
abbrev rh_z01 : List HK := []
noncomputable def M_z01 (n : Nat) (a0 : Int) : Option Res :=
 some (encRes ro_z01 rh_z01 ((((1 : Int), (a0, ())), ()), ()))
noncomputable def Q_z01 (a0 : Int) : Option (RS ro_z01 rh_z01) := decRes ro_z01 rh_z01 (M_z01 FUEL a0)
noncomputable def ok_z01 (a0 : Int) : Bool := (Q_z01 a0).isSome
noncomputable def q_z01 (a0 : Int) : RS ro_z01 rh_z01 := RS.get (Q_z01 a0)
/-! z02: instr_of -/
noncomputable def instr_of_s : Spec := fun args H => match args, H with
  | [.v (.int .u8 op)], [] => .br (decide (op < 1 ∨ 23 < op)) (.leaf (.ok (.tup [.agg [.v (.bool false), .v (.bool false), .v .nilFunc, .v .nilFunc, .v (.int .u8 (0 : Int)), .v (.int .i64 (0 : Int)), .v (.int .i64 (0 : Int))], .v (.bool false)])) []) (
   .br (decide (op ≤ 8)) (.leaf (.ok (.tup [.agg [.v (.bool true), .v (.bool false), .fn (.func 55) [] [], .fn (.func 54) [] [], .v (.int .u8 (0 : Int)), .v (.int .i64 (0 : Int)), .v (.int .i64 (0 : Int))], .v (.bool true)])) []) (
   .br (decide (op ≤ 10)) (.leaf (.ok (.tup [.agg [.v (.bool true), .v (.bool false), .fn (.func 54) [] [], .fn (.func 54) [] [], .v (.int .u8 (0 : Int)), .v (.int .i64 (0 : Int)), .v (.int .i64 (9216 : Int))], .v (.bool true)])) []) (
   .br (decide (op ≤ 11)) (.leaf (.ok (.tup [.agg [.v (.bool true), .v (.bool false), .fn (.func 35) [] [], .fn (.func 54) [] [], .v (.int .u8 (0 : Int)), .v (.int .i64 (0 : Int)), .v (.int .i64 (9216 : Int))], .v (.bool true)])) []) (
   .br (decide (op ≤ 12)) (.leaf (.ok (.tup [.agg [.v (.bool false), .v (.bool true), .fn (.func 55) [] [], .fn (.func 55) [] [], .v (.int .u8 (0 : Int)), .v (.int .i64 (1 : Int)), .v (.int .i64 (32 : Int))], .v (.bool true)])) []) (
   .br (decide (op ≤ 13)) (.leaf (.ok (.tup [.agg [.v (.bool false), .v (.bool false), .fn (.func 54) [] [], .fn (.func 54) [] [], .v (.int .u8 (2 : Int)), .v (.int .i64 (0 : Int)), .v (.int .i64 (0 : Int))], .v (.bool true)])) []) (
   .br (decide (op ≤ 14)) (.leaf (.ok (.tup [.agg [.v (.bool false), .v (.bool false), .fn (.func 54) [] [], .fn (.func 54) [] [], .v (.int .u8 (3 : Int)), .v (.int .i64 (0 : Int)), .v (.int .i64 (0 : Int))], .v (.bool true)])) []) (
   .br (decide (op ≤ 15)) (.leaf (.ok (.tup [.agg [.v (.bool false), .v (.bool false), .fn (.func 55) [] [], .fn (.func 54) [] [], .v (.int .u8 (4 : Int)), .v (.int .i64 (0 : Int)), .v (.int .i64 (0 : Int))], .v (.bool true)])) []) (
   .br (decide (op ≤ 16)) (.leaf (.ok (.tup [.agg [.v (.bool false), .v (.bool false), .fn (.func 54) [] [], .fn (.func 54) [] [], .v (.int .u8 (5 : Int)), .v (.int .i64 (0 : Int)), .v (.int .i64 (0 : Int))], .v (.bool true)])) []) (
   .br (decide (op ≤ 17)) (.leaf (.ok (.tup [.agg [.v (.bool true), .v (.bool false), .fn (.func 55) [] [], .fn (.func 54) [] [], .v (.int .u8 (6 : Int)), .v (.int .i64 (0 : Int)), .v (.int .i64 (0 : Int))], .v (.bool true)])) []) (
   .br (decide (op ≤ 19)) (.leaf (.ok (.tup [.agg [.v (.bool false), .v (.bool false), .fn (.func 55) [] [], .fn (.func 55) [] [], .v (.int .u8 (6 : Int)), .v (.int .i64 (0 : Int)), .v (.int .i64 (0 : Int))], .v (.bool true)])) []) (
   .br (decide (op ≤ 20)) (.leaf (.ok (.tup [.agg [.v (.bool false), .v (.bool false), .fn (.func 55) [] [], .fn (.func 54) [] [], .v (.int .u8 (0 : Int)), .v (.int .i64 (0 : Int)), .v (.int .i64 (0 : Int))], .v (.bool true)])) []) (
   .br (decide (op ≤ 21)) (.leaf (.ok (.tup [.agg [.v (.bool false), .v (.bool false), .fn (.func 54) [] [], .fn (.func 54) [] [], .v (.int .u8 (0 : Int)), .v (.int .i64 (0 : Int)), .v (.int .i64 (2147483647 : Int))], .v (.bool true)])) []) (
   .leaf (.ok (.tup [.agg [.v (.bool false), .v (.bool false), .fn (.func 54) [] [], .fn (.func 54) [] [], .v (.int .u8 (0 : Int)), .v (.int .i64 (0 : Int)), .v (.int .i64 (0 : Int))], .v (.bool true)])) [])))))))))))))
  | _, _ => .no
def idV (n : Int) : Bool := decide (1 ≤ n) && decide (n ≤ 65534)
def tgtV (t te : Bool) (to : Int) : Bool := cond t (idV to) (cond te (decide (1 ≤ to) && decide (to ≤ 4)) (decide (to = 0)))
noncomputable def shape_target_s : Spec := fun args H => match args, H with
  | [.agg [.v (.bool t), .v (.bool te), .fn (.func _) [] [], .fn (.func _) [] [], .v (.int .u8 _), .v (.int .i64 _), .v (.int .i64 _)], .v (.int .i64 to)], [] => .leaf (.ok (.v (.bool (tgtV t te to)))) []
  | _, _ => .no
/-! z03: instr_operand_field -/
abbrev ro_z03 : List EK := [.ty .bool]
abbrev rh_z03 : List HK := []
noncomputable def M_z03 (n : Nat) (a0 : ArgS) : Option Res :=
 cond (a0.1 == (2 : Int))
 (cond (decide (a0.2.1 ≥ (1 : Int)))
 (some (encRes ro_z03 rh_z03 (((decide (a0.2.1 ≤ (65534 : Int))), ()), ())))
 (some (encRes ro_z03 rh_z03 ((false, ()), ()))))
 (some (encRes ro_z03 rh_z03 ((false, ()), ())))
noncomputable def Q_z03 (a0 : ArgS) : Option (RS ro_z03 rh_z03) := decRes ro_z03 rh_z03 (M_z03 FUEL a0)
noncomputable def ok_z03 (a0 : ArgS) : Bool := (Q_z03 a0).isSome
noncomputable def q_z03 (a0 : ArgS) : RS ro_z03 rh_z03 := RS.get (Q_z03 a0)
/-! z04: instr_operand_any -/
abbrev ro_z04 : List EK := [.ty .bool]
abbrev rh_z04 : List HK := []
noncomputable def M_z04 (n : Nat) (a0 : ArgS) : Option Res :=
 cond (a0.1 == (1 : Int))
 (some (encRes ro_z04 rh_z04 ((true, ()), ())))
 (cond (a0.1 == (3 : Int))
 (some (encRes ro_z04 rh_z04 (((decide (a0.2.1 < (4 : Int))), ()), ())))
 (cond (a0.1 == (4 : Int))
 (some (encRes ro_z04 rh_z04 (((a0.2.1 == (0 : Int)), ()), ())))
 (cond (a0.1 == (5 : Int))
 (some (encRes ro_z04 rh_z04 (((a0.2.1 == (0 : Int)), ()), ())))
 (let y1 : ((Bool × Unit) × Unit) := (q_z03 a0)
 cond (ok_z03 a0)
 (some (encRes ro_z04 rh_z04 ((y1.1.1, ()), ())))
 (none)))))
noncomputable def Q_z04 (a0 : ArgS) : Option (RS ro_z04 rh_z04) := decRes ro_z04 rh_z04 (M_z04 FUEL a0)
noncomputable def ok_z04 (a0 : ArgS) : Bool := (Q_z04 a0).isSome
noncomputable def q_z04 (a0 : ArgS) : RS ro_z04 rh_z04 := RS.get (Q_z04 a0)
/-! z05: instr_operand_none -/
abbrev ro_z05 : List EK := [.ty .bool]
abbrev rh_z05 : List HK := []
noncomputable def M_z05 (n : Nat) (a0 : ArgS) : Option Res :=
 some (encRes ro_z05 rh_z05 ((((a0.1 == (0 : Int)) && ((a0.2.1 == (0 : Int)) && true)), ()), ()))
noncomputable def Q_z05 (a0 : ArgS) : Option (RS ro_z05 rh_z05) := decRes ro_z05 rh_z05 (M_z05 FUEL a0)
noncomputable def ok_z05 (a0 : ArgS) : Bool := (Q_z05 a0).isSome
noncomputable def q_z05 (a0 : ArgS) : RS ro_z05 rh_z05 := RS.get (Q_z05 a0)
def numV (nm le mo n : Int) : Bool := cond (decide (0 < nm)) (decide (1 ≤ n) && decide (n ≤ 65534)) (decide (le ≤ n) && decide (n ≤ mo))
noncomputable def shape_number_s : Spec := fun args H => match args, H with
  | [.agg [.v (.bool _), .v (.bool _), .fn (.func _) [] [], .fn (.func _) [] [], .v (.int .u8 nm), .v (.int .i64 le), .v (.int .i64 mo)], .v (.int .i64 n)], [] => .leaf (.ok (.v (.bool (numV nm le mo n)))) []
  | _, _ => .no
/-! z06: instr_May -/
abbrev ro_z06 : List EK := [.ty .bool]
abbrev rh_z06 : List HK := []
noncomputable def M_z06 (n : Nat) (a0 : InstrS) : Option Res :=
 cond (decide (a0.1 < 1 ∨ 23 < a0.1))
 (some (encRes ro_z06 rh_z06 ((false, ()), ())))
 (cond (decide (a0.1 ≤ 8))
 (cond (tgtV true false a0.2.1)
 (let y1 : ((Bool × Unit) × Unit) := (q_z04 a0.2.2.1)
 cond (ok_z04 a0.2.2.1)
 (cond y1.1.1
 (let y2 : ((Bool × Unit) × Unit) := (q_z05 a0.2.2.2.1)
 cond (ok_z05 a0.2.2.2.1)
 (cond y2.1.1
 (some (encRes ro_z06 rh_z06 (((numV (0 : Int) (0 : Int) (0 : Int) a0.2.2.2.2.1), ()), ())))
 (some (encRes ro_z06 rh_z06 ((false, ()), ()))))
 (none))
 (some (encRes ro_z06 rh_z06 ((false, ()), ()))))
 (none))
 (some (encRes ro_z06 rh_z06 ((false, ()), ()))))
 (cond (decide (a0.1 ≤ 10))
 (cond (tgtV true false a0.2.1)
 (let y3 : ((Bool × Unit) × Unit) := (q_z05 a0.2.2.1)
 cond (ok_z05 a0.2.2.1)
 (cond y3.1.1
 (let y4 : ((Bool × Unit) × Unit) := (q_z05 a0.2.2.2.1)
 cond (ok_z05 a0.2.2.2.1)
 (cond y4.1.1
 (some (encRes ro_z06 rh_z06 (((numV (0 : Int) (0 : Int) (9216 : Int) a0.2.2.2.2.1), ()), ())))
 (some (encRes ro_z06 rh_z06 ((false, ()), ()))))
 (none))
 (some (encRes ro_z06 rh_z06 ((false, ()), ()))))
 (none))
 (some (encRes ro_z06 rh_z06 ((false, ()), ()))))
 (cond (decide (a0.1 ≤ 11))
 (cond (tgtV true false a0.2.1)
 (let y5 : ((Bool × Unit) × Unit) := (q_z03 a0.2.2.1)
 cond (ok_z03 a0.2.2.1)
 (cond y5.1.1
 (let y6 : ((Bool × Unit) × Unit) := (q_z05 a0.2.2.2.1)
 cond (ok_z05 a0.2.2.2.1)
 (cond y6.1.1
 (some (encRes ro_z06 rh_z06 (((numV (0 : Int) (0 : Int) (9216 : Int) a0.2.2.2.2.1), ()), ())))
 (some (encRes ro_z06 rh_z06 ((false, ()), ()))))
 (none))
 (some (encRes ro_z06 rh_z06 ((false, ()), ()))))
 (none))
 (some (encRes ro_z06 rh_z06 ((false, ()), ()))))
 (cond (decide (a0.1 ≤ 12))
 (cond (tgtV false true a0.2.1)
 (let y7 : ((Bool × Unit) × Unit) := (q_z04 a0.2.2.1)
 cond (ok_z04 a0.2.2.1)
 (cond y7.1.1
 (let y8 : ((Bool × Unit) × Unit) := (q_z04 a0.2.2.2.1)
 cond (ok_z04 a0.2.2.2.1)
 (cond y8.1.1
 (some (encRes ro_z06 rh_z06 (((numV (0 : Int) (1 : Int) (32 : Int) a0.2.2.2.2.1), ()), ())))
 (some (encRes ro_z06 rh_z06 ((false, ()), ()))))
 (none))
 (some (encRes ro_z06 rh_z06 ((false, ()), ()))))
 (none))
 (some (encRes ro_z06 rh_z06 ((false, ()), ()))))
 (cond (decide (a0.1 ≤ 13))
 (cond (tgtV false false a0.2.1)
 (let y9 : ((Bool × Unit) × Unit) := (q_z05 a0.2.2.1)
 cond (ok_z05 a0.2.2.1)
 (cond y9.1.1
 (let y10 : ((Bool × Unit) × Unit) := (q_z05 a0.2.2.2.1)
 cond (ok_z05 a0.2.2.2.1)
 (cond y10.1.1
 (some (encRes ro_z06 rh_z06 (((numV (2 : Int) (0 : Int) (0 : Int) a0.2.2.2.2.1), ()), ())))
 (some (encRes ro_z06 rh_z06 ((false, ()), ()))))
 (none))
 (some (encRes ro_z06 rh_z06 ((false, ()), ()))))
 (none))
 (some (encRes ro_z06 rh_z06 ((false, ()), ()))))
 (cond (decide (a0.1 ≤ 14))
 (cond (tgtV false false a0.2.1)
 (let y11 : ((Bool × Unit) × Unit) := (q_z05 a0.2.2.1)
 cond (ok_z05 a0.2.2.1)
 (cond y11.1.1
 (let y12 : ((Bool × Unit) × Unit) := (q_z05 a0.2.2.2.1)
 cond (ok_z05 a0.2.2.2.1)
 (cond y12.1.1
 (some (encRes ro_z06 rh_z06 (((numV (3 : Int) (0 : Int) (0 : Int) a0.2.2.2.2.1), ()), ())))
 (some (encRes ro_z06 rh_z06 ((false, ()), ()))))
 (none))
 (some (encRes ro_z06 rh_z06 ((false, ()), ()))))
 (none))
 (some (encRes ro_z06 rh_z06 ((false, ()), ()))))
 (cond (decide (a0.1 ≤ 15))
 (cond (tgtV false false a0.2.1)
 (let y13 : ((Bool × Unit) × Unit) := (q_z04 a0.2.2.1)
 cond (ok_z04 a0.2.2.1)
 (cond y13.1.1
 (let y14 : ((Bool × Unit) × Unit) := (q_z05 a0.2.2.2.1)
 cond (ok_z05 a0.2.2.2.1)
 (cond y14.1.1
 (some (encRes ro_z06 rh_z06 (((numV (4 : Int) (0 : Int) (0 : Int) a0.2.2.2.2.1), ()), ())))
 (some (encRes ro_z06 rh_z06 ((false, ()), ()))))
 (none))
 (some (encRes ro_z06 rh_z06 ((false, ()), ()))))
 (none))
 (some (encRes ro_z06 rh_z06 ((false, ()), ()))))
 (cond (decide (a0.1 ≤ 16))
 (cond (tgtV false false a0.2.1)
 (let y15 : ((Bool × Unit) × Unit) := (q_z05 a0.2.2.1)
 cond (ok_z05 a0.2.2.1)
 (cond y15.1.1
 (let y16 : ((Bool × Unit) × Unit) := (q_z05 a0.2.2.2.1)
 cond (ok_z05 a0.2.2.2.1)
 (cond y16.1.1
 (some (encRes ro_z06 rh_z06 (((numV (5 : Int) (0 : Int) (0 : Int) a0.2.2.2.2.1), ()), ())))
 (some (encRes ro_z06 rh_z06 ((false, ()), ()))))
 (none))
 (some (encRes ro_z06 rh_z06 ((false, ()), ()))))
 (none))
 (some (encRes ro_z06 rh_z06 ((false, ()), ()))))
 (cond (decide (a0.1 ≤ 17))
 (cond (tgtV true false a0.2.1)
 (let y17 : ((Bool × Unit) × Unit) := (q_z04 a0.2.2.1)
 cond (ok_z04 a0.2.2.1)
 (cond y17.1.1
 (let y18 : ((Bool × Unit) × Unit) := (q_z05 a0.2.2.2.1)
 cond (ok_z05 a0.2.2.2.1)
 (cond y18.1.1
 (some (encRes ro_z06 rh_z06 (((numV (6 : Int) (0 : Int) (0 : Int) a0.2.2.2.2.1), ()), ())))
 (some (encRes ro_z06 rh_z06 ((false, ()), ()))))
 (none))
 (some (encRes ro_z06 rh_z06 ((false, ()), ()))))
 (none))
 (some (encRes ro_z06 rh_z06 ((false, ()), ()))))
 (cond (decide (a0.1 ≤ 19))
 (cond (tgtV false false a0.2.1)
 (let y19 : ((Bool × Unit) × Unit) := (q_z04 a0.2.2.1)
 cond (ok_z04 a0.2.2.1)
 (cond y19.1.1
 (let y20 : ((Bool × Unit) × Unit) := (q_z04 a0.2.2.2.1)
 cond (ok_z04 a0.2.2.2.1)
 (cond y20.1.1
 (some (encRes ro_z06 rh_z06 (((numV (6 : Int) (0 : Int) (0 : Int) a0.2.2.2.2.1), ()), ())))
 (some (encRes ro_z06 rh_z06 ((false, ()), ()))))
 (none))
 (some (encRes ro_z06 rh_z06 ((false, ()), ()))))
 (none))
 (some (encRes ro_z06 rh_z06 ((false, ()), ()))))
 (cond (decide (a0.1 ≤ 20))
 (cond (tgtV false false a0.2.1)
 (let y21 : ((Bool × Unit) × Unit) := (q_z04 a0.2.2.1)
 cond (ok_z04 a0.2.2.1)
 (cond y21.1.1
 (let y22 : ((Bool × Unit) × Unit) := (q_z05 a0.2.2.2.1)
 cond (ok_z05 a0.2.2.2.1)
 (cond y22.1.1
 (some (encRes ro_z06 rh_z06 (((numV (0 : Int) (0 : Int) (0 : Int) a0.2.2.2.2.1), ()), ())))
 (some (encRes ro_z06 rh_z06 ((false, ()), ()))))
 (none))
 (some (encRes ro_z06 rh_z06 ((false, ()), ()))))
 (none))
 (some (encRes ro_z06 rh_z06 ((false, ()), ()))))
 (cond (decide (a0.1 ≤ 21))
 (cond (tgtV false false a0.2.1)
 (let y23 : ((Bool × Unit) × Unit) := (q_z05 a0.2.2.1)
 cond (ok_z05 a0.2.2.1)
 (cond y23.1.1
 (let y24 : ((Bool × Unit) × Unit) := (q_z05 a0.2.2.2.1)
 cond (ok_z05 a0.2.2.2.1)
 (cond y24.1.1
 (some (encRes ro_z06 rh_z06 (((numV (0 : Int) (0 : Int) (2147483647 : Int) a0.2.2.2.2.1), ()), ())))
 (some (encRes ro_z06 rh_z06 ((false, ()), ()))))
 (none))
 (some (encRes ro_z06 rh_z06 ((false, ()), ()))))
 (none))
 (some (encRes ro_z06 rh_z06 ((false, ()), ()))))
 (cond (tgtV false false a0.2.1)
 (let y25 : ((Bool × Unit) × Unit) := (q_z05 a0.2.2.1)
 cond (ok_z05 a0.2.2.1)
 (cond y25.1.1
 (let y26 : ((Bool × Unit) × Unit) := (q_z05 a0.2.2.2.1)
 cond (ok_z05 a0.2.2.2.1)
 (cond y26.1.1
 (some (encRes ro_z06 rh_z06 (((numV (0 : Int) (0 : Int) (0 : Int) a0.2.2.2.2.1), ()), ())))
 (some (encRes ro_z06 rh_z06 ((false, ()), ()))))
 (none))
 (some (encRes ro_z06 rh_z06 ((false, ()), ()))))
 (none))
 (some (encRes ro_z06 rh_z06 ((false, ()), ()))))))))))))))))
noncomputable def Q_z06 (a0 : InstrS) : Option (RS ro_z06 rh_z06) := decRes ro_z06 rh_z06 (M_z06 FUEL a0)
noncomputable def ok_z06 (a0 : InstrS) : Bool := (Q_z06 a0).isSome
noncomputable def q_z06 (a0 : InstrS) : RS ro_z06 rh_z06 := RS.get (Q_z06 a0)
/-! z07: instr_Names -/
abbrev ro_z07 : List EK := [.hs 0 0]
abbrev rh_z07 : List HK := [.row NameT]
noncomputable def F_z07_0 (n : Nat) (k_t0 : Nat → (List NameS) → Option Res) (x0_1 : Nat) (x0_2 : Int) (x0_11 : (List ArgS)) (rec : Nat → Int → (List NameS) → Option Res) (x0_0 : Nat) (x0_3 : Int) (x0_10 : (List NameS)) : Option Res :=
 cond (decide (x0_3 < x0_2))
 (cond (decide ((0 : Int) ≤ x0_3 ∧ x0_3 < ((x0_1 : Nat) : Int)))
 (let y2 : ((Bool × Unit) × Unit) := (q_z03 (rdd zArgS x0_11 (Int.toNat x0_3)))
 cond (ok_z03 (rdd zArgS x0_11 (Int.toNat x0_3)))
 (cond y2.1.1
 (cond (decide (((List.length (cutL zNameS x0_10 0 x0_0)) + 1) * 16 ≤ 2 ^ 46 ∧ ((List.length (cutL zNameS x0_10 0 x0_0)) + 1) ≤ 2 ^ 46))
 (rec ((List.length (cutL zNameS x0_10 0 x0_0)) + 1) (IntKind.wrap .i64 (x0_3 + (1 : Int))) ((cutL zNameS x0_10 0 x0_0) ++ [((1 : Int), ((IntKind.wrap .i64 (rdd zArgS x0_11 (Int.toNat x0_3)).2.1), ()))]))
 (none))
 (rec x0_0 (IntKind.wrap .i64 (x0_3 + (1 : Int))) x0_10))
 (none))
 (none))
 (k_t0 x0_0 x0_10)
noncomputable def L_z07_0 (n : Nat) (k_t0 : Nat → (List NameS) → Option Res) (x0_1 : Nat) (x0_2 : Int) (x0_11 : (List ArgS)) : Nat → Nat → Int → (List NameS) → Option Res
  | 0, _, _, _ => none
  | m + 1, x0_0, x0_3, x0_10 => F_z07_0 n k_t0 x0_1 x0_2 x0_11 (L_z07_0 n k_t0 x0_1 x0_2 x0_11 m) x0_0 x0_3 x0_10
noncomputable def M_z07 (n : Nat) (a0 : InstrS) : Option Res :=
 let y1 : ((Bool × Unit) × Unit) := (q_z06 a0)
 cond (ok_z06 a0)
 (cond (!y1.1.1)
 (some (encRes ro_z07 rh_z07 ((0, ()), ([], ()))))
 (cond (decide (a0.1 < 1 ∨ 23 < a0.1))
 (L_z07_0 n
  (fun y3 y4 => some (encRes ro_z07 rh_z07 ((y3, ()), (y4, ()))))
  2
  ((2 : Nat) : Int)
  ([a0.2.2.1, a0.2.2.2.1])
  n
  0
  (0 : Int)
  ([]))
 (cond (decide (a0.1 ≤ 8))
 (cond (decide (((0 + 1) : Nat) * 16 ≤ 2 ^ 46 ∧ ((0 + 1) : Nat) ≤ 2 ^ 46))
 (L_z07_0 n
  (fun y5 y6 => some (encRes ro_z07 rh_z07 ((y5, ()), (y6, ()))))
  2
  ((2 : Nat) : Int)
  ([a0.2.2.1, a0.2.2.2.1])
  n
  (0 + 1)
  (0 : Int)
  ([((1 : Int), (a0.2.1, ()))]))
 (none))
 (cond (decide (a0.1 ≤ 10))
 (cond (decide (((0 + 1) : Nat) * 16 ≤ 2 ^ 46 ∧ ((0 + 1) : Nat) ≤ 2 ^ 46))
 (L_z07_0 n
  (fun y7 y8 => some (encRes ro_z07 rh_z07 ((y7, ()), (y8, ()))))
  2
  ((2 : Nat) : Int)
  ([a0.2.2.1, a0.2.2.2.1])
  n
  (0 + 1)
  (0 : Int)
  ([((1 : Int), (a0.2.1, ()))]))
 (none))
 (cond (decide (a0.1 ≤ 11))
 (cond (decide (((0 + 1) : Nat) * 16 ≤ 2 ^ 46 ∧ ((0 + 1) : Nat) ≤ 2 ^ 46))
 (L_z07_0 n
  (fun y9 y10 => some (encRes ro_z07 rh_z07 ((y9, ()), (y10, ()))))
  2
  ((2 : Nat) : Int)
  ([a0.2.2.1, a0.2.2.2.1])
  n
  (0 + 1)
  (0 : Int)
  ([((1 : Int), (a0.2.1, ()))]))
 (none))
 (cond (decide (a0.1 ≤ 12))
 (L_z07_0 n
  (fun y11 y12 => some (encRes ro_z07 rh_z07 ((y11, ()), (y12, ()))))
  2
  ((2 : Nat) : Int)
  ([a0.2.2.1, a0.2.2.2.1])
  n
  0
  (0 : Int)
  ([]))
 (cond (decide (a0.1 ≤ 13))
 (L_z07_0 n
  (fun y13 y14 => cond (decide (((List.length (cutL zNameS y14 0 y13)) + 1) * 16 ≤ 2 ^ 46 ∧ ((List.length (cutL zNameS y14 0 y13)) + 1) ≤ 2 ^ 46))
 (some (encRes ro_z07 rh_z07 ((((List.length (cutL zNameS y14 0 y13)) + 1), ()), (((cutL zNameS y14 0 y13) ++ [((2 : Int), a0.2.2.2.2)]), ()))))
 (none))
  2
  ((2 : Nat) : Int)
  ([a0.2.2.1, a0.2.2.2.1])
  n
  0
  (0 : Int)
  ([]))
 (cond (decide (a0.1 ≤ 14))
 (L_z07_0 n
  (fun y15 y16 => cond (decide (((List.length (cutL zNameS y16 0 y15)) + 1) * 16 ≤ 2 ^ 46 ∧ ((List.length (cutL zNameS y16 0 y15)) + 1) ≤ 2 ^ 46))
 (some (encRes ro_z07 rh_z07 ((((List.length (cutL zNameS y16 0 y15)) + 1), ()), (((cutL zNameS y16 0 y15) ++ [((3 : Int), a0.2.2.2.2)]), ()))))
 (none))
  2
  ((2 : Nat) : Int)
  ([a0.2.2.1, a0.2.2.2.1])
  n
  0
  (0 : Int)
  ([]))
 (cond (decide (a0.1 ≤ 15))
 (L_z07_0 n
  (fun y17 y18 => cond (decide (((List.length (cutL zNameS y18 0 y17)) + 1) * 16 ≤ 2 ^ 46 ∧ ((List.length (cutL zNameS y18 0 y17)) + 1) ≤ 2 ^ 46))
 (some (encRes ro_z07 rh_z07 ((((List.length (cutL zNameS y18 0 y17)) + 1), ()), (((cutL zNameS y18 0 y17) ++ [((4 : Int), a0.2.2.2.2)]), ()))))
 (none))
  2
  ((2 : Nat) : Int)
  ([a0.2.2.1, a0.2.2.2.1])
  n
  0
  (0 : Int)
  ([]))
 (cond (decide (a0.1 ≤ 16))
 (L_z07_0 n
  (fun y19 y20 => cond (decide (((List.length (cutL zNameS y20 0 y19)) + 1) * 16 ≤ 2 ^ 46 ∧ ((List.length (cutL zNameS y20 0 y19)) + 1) ≤ 2 ^ 46))
 (some (encRes ro_z07 rh_z07 ((((List.length (cutL zNameS y20 0 y19)) + 1), ()), (((cutL zNameS y20 0 y19) ++ [((5 : Int), a0.2.2.2.2)]), ()))))
 (none))
  2
  ((2 : Nat) : Int)
  ([a0.2.2.1, a0.2.2.2.1])
  n
  0
  (0 : Int)
  ([]))
 (cond (decide (a0.1 ≤ 17))
 (cond (decide (((0 + 1) : Nat) * 16 ≤ 2 ^ 46 ∧ ((0 + 1) : Nat) ≤ 2 ^ 46))
 (L_z07_0 n
  (fun y21 y22 => cond (decide (((List.length (cutL zNameS y22 0 y21)) + 1) * 16 ≤ 2 ^ 46 ∧ ((List.length (cutL zNameS y22 0 y21)) + 1) ≤ 2 ^ 46))
 (some (encRes ro_z07 rh_z07 ((((List.length (cutL zNameS y22 0 y21)) + 1), ()), (((cutL zNameS y22 0 y21) ++ [((6 : Int), a0.2.2.2.2)]), ()))))
 (none))
  2
  ((2 : Nat) : Int)
  ([a0.2.2.1, a0.2.2.2.1])
  n
  (0 + 1)
  (0 : Int)
  ([((1 : Int), (a0.2.1, ()))]))
 (none))
 (cond (decide (a0.1 ≤ 19))
 (L_z07_0 n
  (fun y23 y24 => cond (decide (((List.length (cutL zNameS y24 0 y23)) + 1) * 16 ≤ 2 ^ 46 ∧ ((List.length (cutL zNameS y24 0 y23)) + 1) ≤ 2 ^ 46))
 (some (encRes ro_z07 rh_z07 ((((List.length (cutL zNameS y24 0 y23)) + 1), ()), (((cutL zNameS y24 0 y23) ++ [((6 : Int), a0.2.2.2.2)]), ()))))
 (none))
  2
  ((2 : Nat) : Int)
  ([a0.2.2.1, a0.2.2.2.1])
  n
  0
  (0 : Int)
  ([]))
 (cond (decide (a0.1 ≤ 20))
 (L_z07_0 n
  (fun y25 y26 => some (encRes ro_z07 rh_z07 ((y25, ()), (y26, ()))))
  2
  ((2 : Nat) : Int)
  ([a0.2.2.1, a0.2.2.2.1])
  n
  0
  (0 : Int)
  ([]))
 (cond (decide (a0.1 ≤ 21))
 (L_z07_0 n
  (fun y27 y28 => some (encRes ro_z07 rh_z07 ((y27, ()), (y28, ()))))
  2
  ((2 : Nat) : Int)
  ([a0.2.2.1, a0.2.2.2.1])
  n
  0
  (0 : Int)
  ([]))
 (L_z07_0 n
  (fun y29 y30 => some (encRes ro_z07 rh_z07 ((y29, ()), (y30, ()))))
  2
  ((2 : Nat) : Int)
  ([a0.2.2.1, a0.2.2.2.1])
  n
  0
  (0 : Int)
  ([]))))))))))))))))
 (none)
noncomputable def Q_z07 (a0 : InstrS) : Option (RS ro_z07 rh_z07) := decRes ro_z07 rh_z07 (M_z07 FUEL a0)
noncomputable def ok_z07 (a0 : InstrS) : Bool := (Q_z07 a0).isSome
noncomputable def q_z07 (a0 : InstrS) : RS ro_z07 rh_z07 := RS.get (Q_z07 a0)
/-! z08: turnoutlaw19_names -/
abbrev ro_z08 : List EK := [.ty .bool]
abbrev rh_z08 : List HK := []
noncomputable def F_z08_0 (n : Nat) (k_r : Bool → Option Res) (k_t0 : Unit → Option Res) (x0_0 : (List NameS)) (x0_1 : (List NameS)) (rec : Int → Option Res) (x0_2 : Int) : Option Res :=
 cond (decide (x0_2 < (((List.length x0_0) : Nat) : Int)))
 (cond (decide ((0 : Int) ≤ x0_2 ∧ x0_2 < (((List.length x0_0) : Nat) : Int)))
 (cond (decide ((0 : Int) ≤ x0_2 ∧ x0_2 < (((List.length x0_1) : Nat) : Int)))
 (cond (!(((rdd zNameS x0_0 (Int.toNat x0_2)).1 == (rdd zNameS x0_1 (Int.toNat x0_2)).1) && (((rdd zNameS x0_0 (Int.toNat x0_2)).2.1 == (rdd zNameS x0_1 (Int.toNat x0_2)).2.1) && true)))
 (k_r false)
 (rec (IntKind.wrap .i64 (x0_2 + (1 : Int)))))
 (none))
 (none))
 (k_t0 ())
noncomputable def L_z08_0 (n : Nat) (k_r : Bool → Option Res) (k_t0 : Unit → Option Res) (x0_0 : (List NameS)) (x0_1 : (List NameS)) : Nat → Int → Option Res
  | 0, _ => none
  | m + 1, x0_2 => F_z08_0 n k_r k_t0 x0_0 x0_1 (L_z08_0 n k_r k_t0 x0_0 x0_1 m) x0_2
noncomputable def M_z08 (n : Nat) (a0 : (List NameS)) (a1 : (List NameS)) : Option Res :=
 cond ((((List.length a0) : Nat) : Int) != (((List.length a1) : Nat) : Int))
 (some (encRes ro_z08 rh_z08 ((false, ()), ())))
 (L_z08_0 n
  (fun y1 => some (encRes ro_z08 rh_z08 ((y1, ()), ())))
  (fun _ => some (encRes ro_z08 rh_z08 ((true, ()), ())))
  a0
  a1
  n
  (0 : Int))
noncomputable def Q_z08 (a0 : (List NameS)) (a1 : (List NameS)) : Option (RS ro_z08 rh_z08) := decRes ro_z08 rh_z08 (M_z08 FUEL a0 a1)
noncomputable def ok_z08 (a0 : (List NameS)) (a1 : (List NameS)) : Bool := (Q_z08 a0 a1).isSome
noncomputable def q_z08 (a0 : (List NameS)) (a1 : (List NameS)) : RS ro_z08 rh_z08 := RS.get (Q_z08 a0 a1)
/-! z09: instr_id -/
abbrev ro_z09 : List EK := [.ty .bool]
abbrev rh_z09 : List HK := []
noncomputable def M_z09 (n : Nat) (a0 : Int) : Option Res :=
 cond (decide (a0 ≥ (1 : Int)))
 (some (encRes ro_z09 rh_z09 (((decide (a0 ≤ (65534 : Int))), ()), ())))
 (some (encRes ro_z09 rh_z09 ((false, ()), ())))
noncomputable def Q_z09 (a0 : Int) : Option (RS ro_z09 rh_z09) := decRes ro_z09 rh_z09 (M_z09 FUEL a0)
noncomputable def ok_z09 (a0 : Int) : Bool := (Q_z09 a0).isSome
noncomputable def q_z09 (a0 : Int) : RS ro_z09 rh_z09 := RS.get (Q_z09 a0)
/-! z0a: instr_MayBlock -/
abbrev ro_z0a : List EK := [.ty .bool]
abbrev rh_z0a : List HK := []
noncomputable def F_z0a_0 (n : Nat) (k_r : Bool → Option Res) (k_t0 : Unit → Option Res) (x0_0 : (List InstrS)) (x0_1 : Int) (x0_3 : BlockS) (rec : Int → Option Res) (x0_2 : Int) : Option Res :=
 cond (decide (x0_2 < x0_1))
 (cond (decide ((0 : Int) ≤ x0_2 ∧ x0_2 < (((List.length x0_0) : Nat) : Int)))
 (let y2 : ((Bool × Unit) × Unit) := (q_z06 (rdd zInstrS x0_0 (Int.toNat x0_2)))
 cond (ok_z06 (rdd zInstrS x0_0 (Int.toNat x0_2)))
 (cond (!y2.1.1)
 (k_r false)
 (cond ((rdd zInstrS x0_0 (Int.toNat x0_2)).1 == (12 : Int))
 (let y3 : Int := (IntKind.wrap .i64 ((IntKind.wrap .i64 ((((List.length x0_3.2.1) : Nat) : Int) - x0_2)) - (1 : Int)))
 cond (decide ((rdd zInstrS x0_0 (Int.toNat x0_2)).2.2.2.2.1 > y3))
 (k_r false)
 (rec (IntKind.wrap .i64 (x0_2 + (1 : Int)))))
 (rec (IntKind.wrap .i64 (x0_2 + (1 : Int))))))
 (none))
 (none))
 (k_t0 ())
noncomputable def L_z0a_0 (n : Nat) (k_r : Bool → Option Res) (k_t0 : Unit → Option Res) (x0_0 : (List InstrS)) (x0_1 : Int) (x0_3 : BlockS) : Nat → Int → Option Res
  | 0, _ => none
  | m + 1, x0_2 => F_z0a_0 n k_r k_t0 x0_0 x0_1 x0_3 (L_z0a_0 n k_r k_t0 x0_0 x0_1 x0_3 m) x0_2
noncomputable def M_z0a (n : Nat) (a0 : BlockS) : Option Res :=
 let y1 : ((Bool × Unit) × Unit) := (q_z09 a0.1)
 cond (ok_z09 a0.1)
 (cond (!y1.1.1)
 (some (encRes ro_z0a rh_z0a ((false, ()), ())))
 (cond (decide ((((List.length a0.2.1) : Nat) : Int) > (32 : Int)))
 (some (encRes ro_z0a rh_z0a ((false, ()), ())))
 (L_z0a_0 n
  (fun y4 => some (encRes ro_z0a rh_z0a ((y4, ()), ())))
  (fun _ => some (encRes ro_z0a rh_z0a ((true, ()), ())))
  a0.2.1
  (((List.length a0.2.1) : Nat) : Int)
  a0
  n
  (0 : Int))))
 (none)
noncomputable def Q_z0a (a0 : BlockS) : Option (RS ro_z0a rh_z0a) := decRes ro_z0a rh_z0a (M_z0a FUEL a0)
noncomputable def ok_z0a (a0 : BlockS) : Bool := (Q_z0a a0).isSome
noncomputable def q_z0a (a0 : BlockS) : RS ro_z0a rh_z0a := RS.get (Q_z0a a0)
/-! z0b: instr_end -/
abbrev ro_z0b : List EK := [.agg WayT, .ty .bool]
abbrev rh_z0b : List HK := []
noncomputable def M_z0b (n : Nat) (a0 : InstrS) : Option Res :=
 cond (a0.1 == (13 : Int))
 (some (encRes ro_z0b rh_z0b (((a0.1, (a0.2.2.2.2.1, ((0 : Int), ()))), (true, ())), ())))
 (cond (a0.1 == (14 : Int))
 (some (encRes ro_z0b rh_z0b (((a0.1, (a0.2.2.2.2.1, ((0 : Int), ()))), (true, ())), ())))
 (cond (a0.1 == (23 : Int))
 (some (encRes ro_z0b rh_z0b ((((23 : Int), ((0 : Int), ((0 : Int), ()))), (true, ())), ())))
 (cond (a0.1 == (22 : Int))
 (some (encRes ro_z0b rh_z0b ((((23 : Int), ((0 : Int), ((0 : Int), ()))), (true, ())), ())))
 (some (encRes ro_z0b rh_z0b ((((0 : Int), ((0 : Int), ((0 : Int), ()))), (false, ())), ()))))))
noncomputable def Q_z0b (a0 : InstrS) : Option (RS ro_z0b rh_z0b) := decRes ro_z0b rh_z0b (M_z0b FUEL a0)
noncomputable def ok_z0b (a0 : InstrS) : Bool := (Q_z0b a0).isSome
noncomputable def q_z0b (a0 : InstrS) : RS ro_z0b rh_z0b := RS.get (Q_z0b a0)
/-! z0c: instr_Ways_1 -/
abbrev ro_z0c : List EK := []
abbrev rh_z0c : List HK := [.one false [.mp 1], .mf WayT (.int .i64)]
noncomputable def M_z0c (n : Nat) (a0 : WayS) (a1 : Int) (a2 : (WayS → Option (Int))) : Option Res :=
 some (encRes ro_z0c rh_z0c ((), (((), ()), ((fun i => cond (Ty.keq WayT i a0) (some (if a1 > (Option.getD (a2 a0) (0 : Int)) then a1 else (Option.getD (a2 a0) (0 : Int)))) (a2 i)), ()))))
noncomputable def Q_z0c (a0 : WayS) (a1 : Int) (a2 : (WayS → Option (Int))) : Option (RS ro_z0c rh_z0c) := decRes ro_z0c rh_z0c (M_z0c FUEL a0 a1 a2)
noncomputable def ok_z0c (a0 : WayS) (a1 : Int) (a2 : (WayS → Option (Int))) : Bool := (Q_z0c a0 a1 a2).isSome
noncomputable def q_z0c (a0 : WayS) (a1 : Int) (a2 : (WayS → Option (Int))) : RS ro_z0c rh_z0c := RS.get (Q_z0c a0 a1 a2)
/-! z0d: instr_Ways -/
abbrev ro_z0d : List EK := [.hs 0 0]
abbrev rh_z0d : List HK := [.row WayT]
noncomputable def F_z0d_0 (n : Nat) (k_t0 : (List Int) → Option Res) (x0_0 : Nat) (x0_1 : Int) (rec : Int → (List Int) → Option Res) (x0_2 : Int) (x0_5 : (List Int)) : Option Res :=
 cond (decide (x0_2 < x0_1))
 (cond (decide ((0 : Int) ≤ (IntKind.wrap .i64 (x0_2 + (1 : Int))) ∧ (IntKind.wrap .i64 (x0_2 + (1 : Int))) < ((x0_0 : Nat) : Int)))
 (rec (IntKind.wrap .i64 (x0_2 + (1 : Int))) (List.set x0_5 (Int.toNat (IntKind.wrap .i64 (x0_2 + (1 : Int)))) (-1 : Int)))
 (none))
 (k_t0 x0_5)
noncomputable def L_z0d_0 (n : Nat) (k_t0 : (List Int) → Option Res) (x0_0 : Nat) (x0_1 : Int) : Nat → Int → (List Int) → Option Res
  | 0, _, _ => none
  | m + 1, x0_2, x0_5 => F_z0d_0 n k_t0 x0_0 x0_1 (L_z0d_0 n k_t0 x0_0 x0_1 m) x0_2 x0_5
noncomputable def F_z0d_2 (n : Nat) (k_t2 : (WayS → Option (Int)) → (List Int) → Option Res) (x2_0 : Nat) (x2_1 : (List InstrS)) (x2_2 : Int) (rec : Int → (WayS → Option (Int)) → (List Int) → Option Res) (x2_3 : Int) (x2_5 : (WayS → Option (Int))) (x2_6 : (List Int)) : Option Res :=
 cond (decide (x2_3 < x2_2))
 (cond (decide ((0 : Int) ≤ x2_3 ∧ x2_3 < (((List.length x2_1) : Nat) : Int)))
 (cond (decide ((0 : Int) ≤ x2_3 ∧ x2_3 < ((x2_0 : Nat) : Int)))
 (cond (decide ((IntKind.wrap .i64 ((rdd (0 : Int) x2_6 (Int.toNat x2_3)) + (1 : Int))) < (1 : Int)))
 (rec (IntKind.wrap .i64 (x2_3 + (1 : Int))) x2_5 x2_6)
 (let y4 : ((WayS × (Bool × Unit)) × Unit) := (q_z0b (rdd zInstrS x2_1 (Int.toNat x2_3)))
 cond (ok_z0b (rdd zInstrS x2_1 (Int.toNat x2_3)))
 (cond y4.1.2.1
 (let y5 : (Unit × ((Unit × Unit) × ((WayS → Option (Int)) × Unit))) := (q_z0c y4.1.1 (IntKind.wrap .i64 ((rdd (0 : Int) x2_6 (Int.toNat x2_3)) + (1 : Int))) x2_5)
 cond (ok_z0c y4.1.1 (IntKind.wrap .i64 ((rdd (0 : Int) x2_6 (Int.toNat x2_3)) + (1 : Int))) x2_5)
 (rec (IntKind.wrap .i64 (x2_3 + (1 : Int))) y5.2.2.1 x2_6)
 (none))
 (cond (decide ((0 : Int) ≤ (IntKind.wrap .i64 (x2_3 + (1 : Int))) ∧ (IntKind.wrap .i64 (x2_3 + (1 : Int))) < ((x2_0 : Nat) : Int)))
 (let y6 : Int := (if (IntKind.wrap .i64 ((rdd (0 : Int) x2_6 (Int.toNat x2_3)) + (1 : Int))) > (rdd (0 : Int) x2_6 (Int.toNat (IntKind.wrap .i64 (x2_3 + (1 : Int))))) then (IntKind.wrap .i64 ((rdd (0 : Int) x2_6 (Int.toNat x2_3)) + (1 : Int))) else (rdd (0 : Int) x2_6 (Int.toNat (IntKind.wrap .i64 (x2_3 + (1 : Int))))))
 cond (decide ((0 : Int) ≤ (IntKind.wrap .i64 (x2_3 + (1 : Int))) ∧ (IntKind.wrap .i64 (x2_3 + (1 : Int))) < ((x2_0 : Nat) : Int)))
 (cond ((rdd zInstrS x2_1 (Int.toNat x2_3)).1 == (12 : Int))
 (let y7 : Int := (IntKind.wrap .i64 ((IntKind.wrap .i64 (x2_3 + (1 : Int))) + (rdd zInstrS x2_1 (Int.toNat x2_3)).2.2.2.2.1))
 let y8 : Int := (IntKind.wrap .i64 ((IntKind.wrap .i64 (x2_3 + (1 : Int))) + (rdd zInstrS x2_1 (Int.toNat x2_3)).2.2.2.2.1))
 cond (decide ((0 : Int) ≤ y8 ∧ y8 < ((x2_0 : Nat) : Int)))
 (let y9 : Int := (rdd (0 : Int) (List.set x2_6 (Int.toNat (IntKind.wrap .i64 (x2_3 + (1 : Int)))) y6) (Int.toNat y8))
 let y10 : Int := (if (IntKind.wrap .i64 ((rdd (0 : Int) x2_6 (Int.toNat x2_3)) + (1 : Int))) > y9 then (IntKind.wrap .i64 ((rdd (0 : Int) x2_6 (Int.toNat x2_3)) + (1 : Int))) else y9)
 cond (decide ((0 : Int) ≤ y7 ∧ y7 < ((x2_0 : Nat) : Int)))
 (rec (IntKind.wrap .i64 (x2_3 + (1 : Int))) x2_5 (List.set (List.set x2_6 (Int.toNat (IntKind.wrap .i64 (x2_3 + (1 : Int)))) y6) (Int.toNat y7) y10))
 (none))
 (none))
 (rec (IntKind.wrap .i64 (x2_3 + (1 : Int))) x2_5 (List.set x2_6 (Int.toNat (IntKind.wrap .i64 (x2_3 + (1 : Int)))) y6)))
 (none))
 (none)))
 (none)))
 (none))
 (none))
 (k_t2 x2_5 x2_6)
noncomputable def L_z0d_2 (n : Nat) (k_t2 : (WayS → Option (Int)) → (List Int) → Option Res) (x2_0 : Nat) (x2_1 : (List InstrS)) (x2_2 : Int) : Nat → Int → (WayS → Option (Int)) → (List Int) → Option Res
  | 0, _, _, _ => none
  | m + 1, x2_3, x2_5, x2_6 => F_z0d_2 n k_t2 x2_0 x2_1 x2_2 (L_z0d_2 n k_t2 x2_0 x2_1 x2_2 m) x2_3 x2_5 x2_6
noncomputable def M_z0d (n : Nat) (a0 : BlockS) : Option Res :=
 let y1 : ((Bool × Unit) × Unit) := (q_z0a a0)
 cond (ok_z0a a0)
 (cond (!y1.1.1)
 (some (encRes ro_z0d rh_z0d ((0, ()), ([], ()))))
 (cond (decide ((0 : Int) ≤ (IntKind.wrap .i64 ((((List.length a0.2.1) : Nat) : Int) + (1 : Int))) ∧ (IntKind.wrap .i64 ((((List.length a0.2.1) : Nat) : Int) + (1 : Int))) ≤ (IntKind.wrap .i64 ((((List.length a0.2.1) : Nat) : Int) + (1 : Int))) ∧ (8 : Nat) * (IntKind.wrap .i64 ((((List.length a0.2.1) : Nat) : Int) + (1 : Int))) ≤ (2 : Int) ^ 46))
 (cond (decide ((0 : Int) ≤ (1 : Int) ∧ (1 : Int) ≤ (((Int.toNat (IntKind.wrap .i64 ((((List.length a0.2.1) : Nat) : Int) + (1 : Int)))) : Nat) : Int) ∧ (((Int.toNat (IntKind.wrap .i64 ((((List.length a0.2.1) : Nat) : Int) + (1 : Int)))) : Nat) : Int) ≤ (((Int.toNat (IntKind.wrap .i64 ((((List.length a0.2.1) : Nat) : Int) + (1 : Int)))) : Nat) : Int) ∧ (((Int.toNat (IntKind.wrap .i64 ((((List.length a0.2.1) : Nat) : Int) + (1 : Int)))) : Nat) : Int) ≤ (((Int.toNat (IntKind.wrap .i64 ((((List.length a0.2.1) : Nat) : Int) + (1 : Int)))) : Nat) : Int)))
 (let y2 : Int := (((Int.toNat (((Int.toNat (IntKind.wrap .i64 ((((List.length a0.2.1) : Nat) : Int) + (1 : Int)))) : Nat) : Int) - Int.toNat (1 : Int)) : Nat) : Int)
 L_z0d_0 n
  (fun y3 => L_z0d_2 n
  (fun y11 y12 => cond (decide ((0 : Int) ≤ (((List.length a0.2.1) : Nat) : Int) ∧ (((List.length a0.2.1) : Nat) : Int) < (((Int.toNat (IntKind.wrap .i64 ((((List.length a0.2.1) : Nat) : Int) + (1 : Int)))) : Nat) : Int)))
 (cond (decide ((rdd (0 : Int) y12 (Int.toNat (((List.length a0.2.1) : Nat) : Int))) ≥ (0 : Int)))
 (let y13 : (Unit × ((Unit × Unit) × ((WayS → Option (Int)) × Unit))) := (q_z0c ((23 : Int), ((0 : Int), ((0 : Int), ()))) (rdd (0 : Int) y12 (Int.toNat (((List.length a0.2.1) : Nat) : Int))) y11)
 cond (ok_z0c ((23 : Int), ((0 : Int), ((0 : Int), ()))) (rdd (0 : Int) y12 (Int.toNat (((List.length a0.2.1) : Nat) : Int))) y11)
 (let y14 : RS ro_z00 rh_z00 := RS.get (Q_z00 y13.2.2.1)
 cond (Option.isSome (Q_z00 y13.2.2.1))
 (some (encRes ro_z0d rh_z0d ((y14.1.1, ()), (y14.2.2.2.1, ()))))
 (none))
 (none))
 (let y15 : RS ro_z00 rh_z00 := RS.get (Q_z00 y11)
 cond (Option.isSome (Q_z00 y11))
 (some (encRes ro_z0d rh_z0d ((y15.1.1, ()), (y15.2.2.2.1, ()))))
 (none)))
 (none))
  (Int.toNat (IntKind.wrap .i64 ((((List.length a0.2.1) : Nat) : Int) + (1 : Int))))
  a0.2.1
  (((List.length a0.2.1) : Nat) : Int)
  n
  (0 : Int)
  (fun _ => none)
  y3)
  (Int.toNat (IntKind.wrap .i64 ((((List.length a0.2.1) : Nat) : Int) + (1 : Int))))
  y2
  n
  (0 : Int)
  (List.replicate (Int.toNat (IntKind.wrap .i64 ((((List.length a0.2.1) : Nat) : Int) + (1 : Int)))) (0 : Int)))
 (none))
 (none)))
 (none)
noncomputable def Q_z0d (a0 : BlockS) : Option (RS ro_z0d rh_z0d) := decRes ro_z0d rh_z0d (M_z0d FUEL a0)
noncomputable def ok_z0d (a0 : BlockS) : Bool := (Q_z0d a0).isSome
noncomputable def q_z0d (a0 : BlockS) : RS ro_z0d rh_z0d := RS.get (Q_z0d a0)
/-! z0e: turnoutlaw19_ways -/
abbrev ro_z0e : List EK := [.ty .bool]
abbrev rh_z0e : List HK := []
noncomputable def F_z0e_0 (n : Nat) (k_r : Bool → Option Res) (k_t0 : Unit → Option Res) (x0_0 : (List WayS)) (x0_1 : (List WayS)) (rec : Int → Option Res) (x0_2 : Int) : Option Res :=
 cond (decide (x0_2 < (((List.length x0_0) : Nat) : Int)))
 (cond (decide ((0 : Int) ≤ x0_2 ∧ x0_2 < (((List.length x0_0) : Nat) : Int)))
 (cond (decide ((0 : Int) ≤ x0_2 ∧ x0_2 < (((List.length x0_1) : Nat) : Int)))
 (cond (!(((rdd zWayS x0_0 (Int.toNat x0_2)).1 == (rdd zWayS x0_1 (Int.toNat x0_2)).1) && (((rdd zWayS x0_0 (Int.toNat x0_2)).2.1 == (rdd zWayS x0_1 (Int.toNat x0_2)).2.1) && (((rdd zWayS x0_0 (Int.toNat x0_2)).2.2.1 == (rdd zWayS x0_1 (Int.toNat x0_2)).2.2.1) && true))))
 (k_r false)
 (rec (IntKind.wrap .i64 (x0_2 + (1 : Int)))))
 (none))
 (none))
 (k_t0 ())
noncomputable def L_z0e_0 (n : Nat) (k_r : Bool → Option Res) (k_t0 : Unit → Option Res) (x0_0 : (List WayS)) (x0_1 : (List WayS)) : Nat → Int → Option Res
  | 0, _ => none
  | m + 1, x0_2 => F_z0e_0 n k_r k_t0 x0_0 x0_1 (L_z0e_0 n k_r k_t0 x0_0 x0_1 m) x0_2
noncomputable def M_z0e (n : Nat) (a0 : (List WayS)) (a1 : (List WayS)) : Option Res :=
 cond ((((List.length a0) : Nat) : Int) != (((List.length a1) : Nat) : Int))
 (some (encRes ro_z0e rh_z0e ((false, ()), ())))
 (L_z0e_0 n
  (fun y1 => some (encRes ro_z0e rh_z0e ((y1, ()), ())))
  (fun _ => some (encRes ro_z0e rh_z0e ((true, ()), ())))
  a0
  a1
  n
  (0 : Int))
noncomputable def Q_z0e (a0 : (List WayS)) (a1 : (List WayS)) : Option (RS ro_z0e rh_z0e) := decRes ro_z0e rh_z0e (M_z0e FUEL a0 a1)
noncomputable def ok_z0e (a0 : (List WayS)) (a1 : (List WayS)) : Bool := (Q_z0e a0 a1).isSome
noncomputable def q_z0e (a0 : (List WayS)) (a1 : (List WayS)) : RS ro_z0e rh_z0e := RS.get (Q_z0e a0 a1)
/-! z0f: instr_Steps -/
abbrev ro_z0f : List EK := [.ty (.int .i64)]
abbrev rh_z0f : List HK := []
noncomputable def F_z0f_0 (n : Nat) (k_t0 : Int → Option Res) (x0_1 : Nat) (x0_2 : Int) (x0_4 : (List WayS)) (rec : Int → Int → Option Res) (x0_0 : Int) (x0_3 : Int) : Option Res :=
 cond (decide (x0_3 < x0_2))
 (cond (decide ((0 : Int) ≤ x0_3 ∧ x0_3 < ((x0_1 : Nat) : Int)))
 (let y2 : Int := (if (rdd zWayS x0_4 (Int.toNat x0_3)).2.2.1 > x0_0 then (rdd zWayS x0_4 (Int.toNat x0_3)).2.2.1 else x0_0)
 rec y2 (IntKind.wrap .i64 (x0_3 + (1 : Int))))
 (none))
 (k_t0 x0_0)
noncomputable def L_z0f_0 (n : Nat) (k_t0 : Int → Option Res) (x0_1 : Nat) (x0_2 : Int) (x0_4 : (List WayS)) : Nat → Int → Int → Option Res
  | 0, _, _ => none
  | m + 1, x0_0, x0_3 => F_z0f_0 n k_t0 x0_1 x0_2 x0_4 (L_z0f_0 n k_t0 x0_1 x0_2 x0_4 m) x0_0 x0_3
noncomputable def M_z0f (n : Nat) (a0 : BlockS) : Option Res :=
 let y1 : ((Nat × Unit) × ((List WayS) × Unit)) := (q_z0d a0)
 cond (ok_z0d a0)
 (L_z0f_0 n
  (fun y3 => some (encRes ro_z0f rh_z0f ((y3, ()), ())))
  y1.1.1
  ((y1.1.1 : Nat) : Int)
  y1.2.1
  n
  (0 : Int)
  (0 : Int))
 (none)
noncomputable def Q_z0f (a0 : BlockS) : Option (RS ro_z0f rh_z0f) := decRes ro_z0f rh_z0f (M_z0f FUEL a0)
noncomputable def ok_z0f (a0 : BlockS) : Bool := (Q_z0f a0).isSome
noncomputable def q_z0f (a0 : BlockS) : RS ro_z0f rh_z0f := RS.get (Q_z0f a0)
/-! z0g: turnoutlaw19_awake -/
abbrev ro_z0g : List EK := [.ty .bool]
abbrev rh_z0g : List HK := []
noncomputable def M_z0g (n : Nat) : Option Res :=
 let y1 : ((ArgS × Unit) × Unit) := (q_z01 (5 : Int))
 cond (ok_z01 (5 : Int))
 (let y2 : ((ArgS × Unit) × Unit) := (q_z01 (2 : Int))
 cond (ok_z01 (2 : Int))
 (let y3 : ((Bool × Unit) × Unit) := (q_z06 ((1 : Int), ((3 : Int), (y1.1.1, (((0 : Int), ((0 : Int), ())), ((0 : Int), ()))))))
 cond (ok_z06 ((1 : Int), ((3 : Int), (y1.1.1, (((0 : Int), ((0 : Int), ())), ((0 : Int), ()))))))
 (cond y3.1.1
 (let y4 : ((Nat × Unit) × ((List NameS) × Unit)) := (q_z07 ((1 : Int), ((3 : Int), (y1.1.1, (((0 : Int), ((0 : Int), ())), ((0 : Int), ()))))))
 cond (ok_z07 ((1 : Int), ((3 : Int), (y1.1.1, (((0 : Int), ((0 : Int), ())), ((0 : Int), ()))))))
 (let y5 : ((Bool × Unit) × Unit) := (q_z08 (cutL zNameS y4.2.1 0 y4.1.1) ([((1 : Int), ((3 : Int), ()))]))
 cond (ok_z08 (cutL zNameS y4.2.1 0 y4.1.1) ([((1 : Int), ((3 : Int), ()))]))
 (cond y5.1.1
 (let y6 : ((Bool × Unit) × Unit) := (q_z06 ((1 : Int), ((3 : Int), (y1.1.1, (((0 : Int), ((0 : Int), ())), ((1 : Int), ()))))))
 cond (ok_z06 ((1 : Int), ((3 : Int), (y1.1.1, (((0 : Int), ((0 : Int), ())), ((1 : Int), ()))))))
 (cond (!y6.1.1)
 (let y7 : ((Nat × Unit) × ((List WayS) × Unit)) := (q_z0d ((1 : Int), ([((12 : Int), ((1 : Int), (((4 : Int), ((0 : Int), ())), (y2.1.1, ((1 : Int), ()))))), ((13 : Int), ((0 : Int), (((0 : Int), ((0 : Int), ())), (((0 : Int), ((0 : Int), ())), ((7 : Int), ()))))), ((23 : Int), ((0 : Int), (((0 : Int), ((0 : Int), ())), (((0 : Int), ((0 : Int), ())), ((0 : Int), ())))))], ())))
 cond (ok_z0d ((1 : Int), ([((12 : Int), ((1 : Int), (((4 : Int), ((0 : Int), ())), (y2.1.1, ((1 : Int), ()))))), ((13 : Int), ((0 : Int), (((0 : Int), ((0 : Int), ())), (((0 : Int), ((0 : Int), ())), ((7 : Int), ()))))), ((23 : Int), ((0 : Int), (((0 : Int), ((0 : Int), ())), (((0 : Int), ((0 : Int), ())), ((0 : Int), ())))))], ())))
 (let y8 : ((Bool × Unit) × Unit) := (q_z0e (cutL zWayS y7.2.1 0 y7.1.1) ([((13 : Int), ((7 : Int), ((2 : Int), ()))), ((23 : Int), ((0 : Int), ((2 : Int), ())))]))
 cond (ok_z0e (cutL zWayS y7.2.1 0 y7.1.1) ([((13 : Int), ((7 : Int), ((2 : Int), ()))), ((23 : Int), ((0 : Int), ((2 : Int), ())))]))
 (cond y8.1.1
 (let y9 : ((Bool × Unit) × Unit) := (q_z0a ((1 : Int), ([((12 : Int), ((1 : Int), (((4 : Int), ((0 : Int), ())), (y2.1.1, ((2 : Int), ()))))), ((1 : Int), ((3 : Int), (y1.1.1, (((0 : Int), ((0 : Int), ())), ((0 : Int), ())))))], ())))
 cond (ok_z0a ((1 : Int), ([((12 : Int), ((1 : Int), (((4 : Int), ((0 : Int), ())), (y2.1.1, ((2 : Int), ()))))), ((1 : Int), ((3 : Int), (y1.1.1, (((0 : Int), ((0 : Int), ())), ((0 : Int), ())))))], ())))
 (cond (!y9.1.1)
 (let y10 : ((Nat × Unit) × ((List WayS) × Unit)) := (q_z0d ((1 : Int), ([], ())))
 cond (ok_z0d ((1 : Int), ([], ())))
 (let y11 : ((Bool × Unit) × Unit) := (q_z0e (cutL zWayS y10.2.1 0 y10.1.1) ([((23 : Int), ((0 : Int), ((0 : Int), ())))]))
 cond (ok_z0e (cutL zWayS y10.2.1 0 y10.1.1) ([((23 : Int), ((0 : Int), ((0 : Int), ())))]))
 (cond y11.1.1
 (let y12 : ((Int × Unit) × Unit) := (q_z0f ((1 : Int), ([((12 : Int), ((1 : Int), (((4 : Int), ((0 : Int), ())), (y2.1.1, ((1 : Int), ()))))), ((13 : Int), ((0 : Int), (((0 : Int), ((0 : Int), ())), (((0 : Int), ((0 : Int), ())), ((7 : Int), ()))))), ((23 : Int), ((0 : Int), (((0 : Int), ((0 : Int), ())), (((0 : Int), ((0 : Int), ())), ((0 : Int), ())))))], ())))
 cond (ok_z0f ((1 : Int), ([((12 : Int), ((1 : Int), (((4 : Int), ((0 : Int), ())), (y2.1.1, ((1 : Int), ()))))), ((13 : Int), ((0 : Int), (((0 : Int), ((0 : Int), ())), (((0 : Int), ((0 : Int), ())), ((7 : Int), ()))))), ((23 : Int), ((0 : Int), (((0 : Int), ((0 : Int), ())), (((0 : Int), ((0 : Int), ())), ((0 : Int), ())))))], ())))
 (some (encRes ro_z0g rh_z0g (((y12.1.1 == (2 : Int)), ()), ())))
 (none))
 (some (encRes ro_z0g rh_z0g ((false, ()), ()))))
 (none))
 (none))
 (some (encRes ro_z0g rh_z0g ((false, ()), ()))))
 (none))
 (some (encRes ro_z0g rh_z0g ((false, ()), ()))))
 (none))
 (none))
 (some (encRes ro_z0g rh_z0g ((false, ()), ()))))
 (none))
 (some (encRes ro_z0g rh_z0g ((false, ()), ()))))
 (none))
 (none))
 (some (encRes ro_z0g rh_z0g ((false, ()), ()))))
 (none))
 (none))
 (none)
noncomputable def Q_z0g : Option (RS ro_z0g rh_z0g) := decRes ro_z0g rh_z0g (M_z0g FUEL)
noncomputable def ok_z0g : Bool := (Q_z0g).isSome
noncomputable def q_z0g : RS ro_z0g rh_z0g := RS.get (Q_z0g)
/-! z0h: turnoutlaw19_field -/
abbrev ro_z0h : List EK := [.agg ArgT]
abbrev rh_z0h : List HK := []
noncomputable def M_z0h (n : Nat) (a0 : Int) : Option Res :=
 some (encRes ro_z0h rh_z0h ((((2 : Int), (a0, ())), ()), ()))
noncomputable def Q_z0h (a0 : Int) : Option (RS ro_z0h rh_z0h) := decRes ro_z0h rh_z0h (M_z0h FUEL a0)
noncomputable def ok_z0h (a0 : Int) : Bool := (Q_z0h a0).isSome
noncomputable def q_z0h (a0 : Int) : RS ro_z0h rh_z0h := RS.get (Q_z0h a0)
/-! z0i: turnoutref19_ID -/
abbrev ro_z0i : List EK := [.ty .bool]
abbrev rh_z0i : List HK := []
noncomputable def M_z0i (n : Nat) (a0 : Int) : Option Res :=
 cond (decide (a0 ≥ (1 : Int)))
 (some (encRes ro_z0i rh_z0i (((decide (a0 ≤ (65534 : Int))), ()), ())))
 (some (encRes ro_z0i rh_z0i ((false, ()), ())))
noncomputable def Q_z0i (a0 : Int) : Option (RS ro_z0i rh_z0i) := decRes ro_z0i rh_z0i (M_z0i FUEL a0)
noncomputable def ok_z0i (a0 : Int) : Bool := (Q_z0i a0).isSome
noncomputable def q_z0i (a0 : Int) : RS ro_z0i rh_z0i := RS.get (Q_z0i a0)
/-! z0j: turnoutref19_operand -/
abbrev ro_z0j : List EK := [.ty .bool]
abbrev rh_z0j : List HK := []
noncomputable def M_z0j (n : Nat) (a0 : ArgS) : Option Res :=
 cond (a0.1 == (1 : Int))
 (some (encRes ro_z0j rh_z0j ((true, ()), ())))
 (cond (a0.1 == (2 : Int))
 (cond (decide (a0.2.1 ≥ (1 : Int)))
 (some (encRes ro_z0j rh_z0j (((decide (a0.2.1 ≤ (65534 : Int))), ()), ())))
 (some (encRes ro_z0j rh_z0j ((false, ()), ()))))
 (cond (a0.1 == (3 : Int))
 (some (encRes ro_z0j rh_z0j (((decide (a0.2.1 < (4 : Int))), ()), ())))
 (cond (a0.1 == (4 : Int))
 (some (encRes ro_z0j rh_z0j (((a0.2.1 == (0 : Int)), ()), ())))
 (cond (a0.1 == (5 : Int))
 (some (encRes ro_z0j rh_z0j (((a0.2.1 == (0 : Int)), ()), ())))
 (some (encRes ro_z0j rh_z0j ((false, ()), ())))))))
noncomputable def Q_z0j (a0 : ArgS) : Option (RS ro_z0j rh_z0j) := decRes ro_z0j rh_z0j (M_z0j FUEL a0)
noncomputable def ok_z0j (a0 : ArgS) : Bool := (Q_z0j a0).isSome
noncomputable def q_z0j (a0 : ArgS) : RS ro_z0j rh_z0j := RS.get (Q_z0j a0)
/-! z0k: turnoutref19_none -/
abbrev ro_z0k : List EK := [.ty .bool]
abbrev rh_z0k : List HK := []
noncomputable def M_z0k (n : Nat) (a0 : ArgS) : Option Res :=
 cond (a0.1 == (0 : Int))
 (some (encRes ro_z0k rh_z0k (((a0.2.1 == (0 : Int)), ()), ())))
 (some (encRes ro_z0k rh_z0k ((false, ()), ())))
noncomputable def Q_z0k (a0 : ArgS) : Option (RS ro_z0k rh_z0k) := decRes ro_z0k rh_z0k (M_z0k FUEL a0)
noncomputable def ok_z0k (a0 : ArgS) : Bool := (Q_z0k a0).isSome
noncomputable def q_z0k (a0 : ArgS) : RS ro_z0k rh_z0k := RS.get (Q_z0k a0)
/-! z0l: turnoutref19_May -/
abbrev ro_z0l : List EK := [.ty .bool]
abbrev rh_z0l : List HK := []
noncomputable def M_z0l (n : Nat) (a0 : InstrS) : Option Res :=
 cond (a0.1 == (1 : Int))
 (let y1 : ((Bool × Unit) × Unit) := (q_z0i a0.2.1)
 cond (ok_z0i a0.2.1)
 (cond y1.1.1
 (let y2 : ((Bool × Unit) × Unit) := (q_z0j a0.2.2.1)
 cond (ok_z0j a0.2.2.1)
 (cond y2.1.1
 (let y3 : ((Bool × Unit) × Unit) := (q_z0k a0.2.2.2.1)
 cond (ok_z0k a0.2.2.2.1)
 (cond y3.1.1
 (some (encRes ro_z0l rh_z0l (((a0.2.2.2.2.1 == (0 : Int)), ()), ())))
 (some (encRes ro_z0l rh_z0l ((false, ()), ()))))
 (none))
 (some (encRes ro_z0l rh_z0l ((false, ()), ()))))
 (none))
 (some (encRes ro_z0l rh_z0l ((false, ()), ()))))
 (none))
 (cond (a0.1 == (2 : Int))
 (let y4 : ((Bool × Unit) × Unit) := (q_z0i a0.2.1)
 cond (ok_z0i a0.2.1)
 (cond y4.1.1
 (let y5 : ((Bool × Unit) × Unit) := (q_z0j a0.2.2.1)
 cond (ok_z0j a0.2.2.1)
 (cond y5.1.1
 (let y6 : ((Bool × Unit) × Unit) := (q_z0k a0.2.2.2.1)
 cond (ok_z0k a0.2.2.2.1)
 (cond y6.1.1
 (some (encRes ro_z0l rh_z0l (((a0.2.2.2.2.1 == (0 : Int)), ()), ())))
 (some (encRes ro_z0l rh_z0l ((false, ()), ()))))
 (none))
 (some (encRes ro_z0l rh_z0l ((false, ()), ()))))
 (none))
 (some (encRes ro_z0l rh_z0l ((false, ()), ()))))
 (none))
 (cond (a0.1 == (3 : Int))
 (let y7 : ((Bool × Unit) × Unit) := (q_z0i a0.2.1)
 cond (ok_z0i a0.2.1)
 (cond y7.1.1
 (let y8 : ((Bool × Unit) × Unit) := (q_z0j a0.2.2.1)
 cond (ok_z0j a0.2.2.1)
 (cond y8.1.1
 (let y9 : ((Bool × Unit) × Unit) := (q_z0k a0.2.2.2.1)
 cond (ok_z0k a0.2.2.2.1)
 (cond y9.1.1
 (some (encRes ro_z0l rh_z0l (((a0.2.2.2.2.1 == (0 : Int)), ()), ())))
 (some (encRes ro_z0l rh_z0l ((false, ()), ()))))
 (none))
 (some (encRes ro_z0l rh_z0l ((false, ()), ()))))
 (none))
 (some (encRes ro_z0l rh_z0l ((false, ()), ()))))
 (none))
 (cond (a0.1 == (4 : Int))
 (let y10 : ((Bool × Unit) × Unit) := (q_z0i a0.2.1)
 cond (ok_z0i a0.2.1)
 (cond y10.1.1
 (let y11 : ((Bool × Unit) × Unit) := (q_z0j a0.2.2.1)
 cond (ok_z0j a0.2.2.1)
 (cond y11.1.1
 (let y12 : ((Bool × Unit) × Unit) := (q_z0k a0.2.2.2.1)
 cond (ok_z0k a0.2.2.2.1)
 (cond y12.1.1
 (some (encRes ro_z0l rh_z0l (((a0.2.2.2.2.1 == (0 : Int)), ()), ())))
 (some (encRes ro_z0l rh_z0l ((false, ()), ()))))
 (none))
 (some (encRes ro_z0l rh_z0l ((false, ()), ()))))
 (none))
 (some (encRes ro_z0l rh_z0l ((false, ()), ()))))
 (none))
 (cond (a0.1 == (5 : Int))
 (let y13 : ((Bool × Unit) × Unit) := (q_z0i a0.2.1)
 cond (ok_z0i a0.2.1)
 (cond y13.1.1
 (let y14 : ((Bool × Unit) × Unit) := (q_z0j a0.2.2.1)
 cond (ok_z0j a0.2.2.1)
 (cond y14.1.1
 (let y15 : ((Bool × Unit) × Unit) := (q_z0k a0.2.2.2.1)
 cond (ok_z0k a0.2.2.2.1)
 (cond y15.1.1
 (some (encRes ro_z0l rh_z0l (((a0.2.2.2.2.1 == (0 : Int)), ()), ())))
 (some (encRes ro_z0l rh_z0l ((false, ()), ()))))
 (none))
 (some (encRes ro_z0l rh_z0l ((false, ()), ()))))
 (none))
 (some (encRes ro_z0l rh_z0l ((false, ()), ()))))
 (none))
 (cond (a0.1 == (6 : Int))
 (let y16 : ((Bool × Unit) × Unit) := (q_z0i a0.2.1)
 cond (ok_z0i a0.2.1)
 (cond y16.1.1
 (let y17 : ((Bool × Unit) × Unit) := (q_z0j a0.2.2.1)
 cond (ok_z0j a0.2.2.1)
 (cond y17.1.1
 (let y18 : ((Bool × Unit) × Unit) := (q_z0k a0.2.2.2.1)
 cond (ok_z0k a0.2.2.2.1)
 (cond y18.1.1
 (some (encRes ro_z0l rh_z0l (((a0.2.2.2.2.1 == (0 : Int)), ()), ())))
 (some (encRes ro_z0l rh_z0l ((false, ()), ()))))
 (none))
 (some (encRes ro_z0l rh_z0l ((false, ()), ()))))
 (none))
 (some (encRes ro_z0l rh_z0l ((false, ()), ()))))
 (none))
 (cond (a0.1 == (7 : Int))
 (let y19 : ((Bool × Unit) × Unit) := (q_z0i a0.2.1)
 cond (ok_z0i a0.2.1)
 (cond y19.1.1
 (let y20 : ((Bool × Unit) × Unit) := (q_z0j a0.2.2.1)
 cond (ok_z0j a0.2.2.1)
 (cond y20.1.1
 (let y21 : ((Bool × Unit) × Unit) := (q_z0k a0.2.2.2.1)
 cond (ok_z0k a0.2.2.2.1)
 (cond y21.1.1
 (some (encRes ro_z0l rh_z0l (((a0.2.2.2.2.1 == (0 : Int)), ()), ())))
 (some (encRes ro_z0l rh_z0l ((false, ()), ()))))
 (none))
 (some (encRes ro_z0l rh_z0l ((false, ()), ()))))
 (none))
 (some (encRes ro_z0l rh_z0l ((false, ()), ()))))
 (none))
 (cond (a0.1 == (8 : Int))
 (let y22 : ((Bool × Unit) × Unit) := (q_z0i a0.2.1)
 cond (ok_z0i a0.2.1)
 (cond y22.1.1
 (let y23 : ((Bool × Unit) × Unit) := (q_z0j a0.2.2.1)
 cond (ok_z0j a0.2.2.1)
 (cond y23.1.1
 (let y24 : ((Bool × Unit) × Unit) := (q_z0k a0.2.2.2.1)
 cond (ok_z0k a0.2.2.2.1)
 (cond y24.1.1
 (some (encRes ro_z0l rh_z0l (((a0.2.2.2.2.1 == (0 : Int)), ()), ())))
 (some (encRes ro_z0l rh_z0l ((false, ()), ()))))
 (none))
 (some (encRes ro_z0l rh_z0l ((false, ()), ()))))
 (none))
 (some (encRes ro_z0l rh_z0l ((false, ()), ()))))
 (none))
 (cond (a0.1 == (9 : Int))
 (let y25 : ((Bool × Unit) × Unit) := (q_z0i a0.2.1)
 cond (ok_z0i a0.2.1)
 (cond y25.1.1
 (let y26 : ((Bool × Unit) × Unit) := (q_z0k a0.2.2.1)
 cond (ok_z0k a0.2.2.1)
 (cond y26.1.1
 (let y27 : ((Bool × Unit) × Unit) := (q_z0k a0.2.2.2.1)
 cond (ok_z0k a0.2.2.2.1)
 (cond y27.1.1
 (cond (decide (a0.2.2.2.2.1 ≥ (0 : Int)))
 (some (encRes ro_z0l rh_z0l (((decide (a0.2.2.2.2.1 ≤ (9216 : Int))), ()), ())))
 (some (encRes ro_z0l rh_z0l ((false, ()), ()))))
 (some (encRes ro_z0l rh_z0l ((false, ()), ()))))
 (none))
 (some (encRes ro_z0l rh_z0l ((false, ()), ()))))
 (none))
 (some (encRes ro_z0l rh_z0l ((false, ()), ()))))
 (none))
 (cond (a0.1 == (10 : Int))
 (let y28 : ((Bool × Unit) × Unit) := (q_z0i a0.2.1)
 cond (ok_z0i a0.2.1)
 (cond y28.1.1
 (let y29 : ((Bool × Unit) × Unit) := (q_z0k a0.2.2.1)
 cond (ok_z0k a0.2.2.1)
 (cond y29.1.1
 (let y30 : ((Bool × Unit) × Unit) := (q_z0k a0.2.2.2.1)
 cond (ok_z0k a0.2.2.2.1)
 (cond y30.1.1
 (cond (decide (a0.2.2.2.2.1 ≥ (0 : Int)))
 (some (encRes ro_z0l rh_z0l (((decide (a0.2.2.2.2.1 ≤ (9216 : Int))), ()), ())))
 (some (encRes ro_z0l rh_z0l ((false, ()), ()))))
 (some (encRes ro_z0l rh_z0l ((false, ()), ()))))
 (none))
 (some (encRes ro_z0l rh_z0l ((false, ()), ()))))
 (none))
 (some (encRes ro_z0l rh_z0l ((false, ()), ()))))
 (none))
 (cond (a0.1 == (11 : Int))
 (let y31 : ((Bool × Unit) × Unit) := (q_z0i a0.2.1)
 cond (ok_z0i a0.2.1)
 (cond y31.1.1
 (cond (a0.2.2.1.1 == (2 : Int))
 (let y32 : ((Bool × Unit) × Unit) := (q_z0j a0.2.2.1)
 cond (ok_z0j a0.2.2.1)
 (cond y32.1.1
 (let y33 : ((Bool × Unit) × Unit) := (q_z0k a0.2.2.2.1)
 cond (ok_z0k a0.2.2.2.1)
 (cond y33.1.1
 (cond (decide (a0.2.2.2.2.1 ≥ (0 : Int)))
 (some (encRes ro_z0l rh_z0l (((decide (a0.2.2.2.2.1 ≤ (9216 : Int))), ()), ())))
 (some (encRes ro_z0l rh_z0l ((false, ()), ()))))
 (some (encRes ro_z0l rh_z0l ((false, ()), ()))))
 (none))
 (some (encRes ro_z0l rh_z0l ((false, ()), ()))))
 (none))
 (some (encRes ro_z0l rh_z0l ((false, ()), ()))))
 (some (encRes ro_z0l rh_z0l ((false, ()), ()))))
 (none))
 (cond (a0.1 == (12 : Int))
 (cond (decide (a0.2.1 ≥ (1 : Int)))
 (cond (decide (a0.2.1 ≤ (4 : Int)))
 (let y34 : ((Bool × Unit) × Unit) := (q_z0j a0.2.2.1)
 cond (ok_z0j a0.2.2.1)
 (cond y34.1.1
 (let y35 : ((Bool × Unit) × Unit) := (q_z0j a0.2.2.2.1)
 cond (ok_z0j a0.2.2.2.1)
 (cond y35.1.1
 (cond (decide (a0.2.2.2.2.1 ≥ (1 : Int)))
 (some (encRes ro_z0l rh_z0l (((decide (a0.2.2.2.2.1 ≤ (32 : Int))), ()), ())))
 (some (encRes ro_z0l rh_z0l ((false, ()), ()))))
 (some (encRes ro_z0l rh_z0l ((false, ()), ()))))
 (none))
 (some (encRes ro_z0l rh_z0l ((false, ()), ()))))
 (none))
 (some (encRes ro_z0l rh_z0l ((false, ()), ()))))
 (some (encRes ro_z0l rh_z0l ((false, ()), ()))))
 (cond (a0.1 == (13 : Int))
 (cond (a0.2.1 == (0 : Int))
 (let y36 : ((Bool × Unit) × Unit) := (q_z0k a0.2.2.1)
 cond (ok_z0k a0.2.2.1)
 (cond y36.1.1
 (let y37 : ((Bool × Unit) × Unit) := (q_z0k a0.2.2.2.1)
 cond (ok_z0k a0.2.2.2.1)
 (cond y37.1.1
 (let y38 : ((Bool × Unit) × Unit) := (q_z0i a0.2.2.2.2.1)
 cond (ok_z0i a0.2.2.2.2.1)
 (some (encRes ro_z0l rh_z0l ((y38.1.1, ()), ())))
 (none))
 (some (encRes ro_z0l rh_z0l ((false, ()), ()))))
 (none))
 (some (encRes ro_z0l rh_z0l ((false, ()), ()))))
 (none))
 (some (encRes ro_z0l rh_z0l ((false, ()), ()))))
 (cond (a0.1 == (14 : Int))
 (cond (a0.2.1 == (0 : Int))
 (let y39 : ((Bool × Unit) × Unit) := (q_z0k a0.2.2.1)
 cond (ok_z0k a0.2.2.1)
 (cond y39.1.1
 (let y40 : ((Bool × Unit) × Unit) := (q_z0k a0.2.2.2.1)
 cond (ok_z0k a0.2.2.2.1)
 (cond y40.1.1
 (let y41 : ((Bool × Unit) × Unit) := (q_z0i a0.2.2.2.2.1)
 cond (ok_z0i a0.2.2.2.2.1)
 (some (encRes ro_z0l rh_z0l ((y41.1.1, ()), ())))
 (none))
 (some (encRes ro_z0l rh_z0l ((false, ()), ()))))
 (none))
 (some (encRes ro_z0l rh_z0l ((false, ()), ()))))
 (none))
 (some (encRes ro_z0l rh_z0l ((false, ()), ()))))
 (cond (a0.1 == (16 : Int))
 (cond (a0.2.1 == (0 : Int))
 (let y42 : ((Bool × Unit) × Unit) := (q_z0k a0.2.2.1)
 cond (ok_z0k a0.2.2.1)
 (cond y42.1.1
 (let y43 : ((Bool × Unit) × Unit) := (q_z0k a0.2.2.2.1)
 cond (ok_z0k a0.2.2.2.1)
 (cond y43.1.1
 (let y44 : ((Bool × Unit) × Unit) := (q_z0i a0.2.2.2.2.1)
 cond (ok_z0i a0.2.2.2.2.1)
 (some (encRes ro_z0l rh_z0l ((y44.1.1, ()), ())))
 (none))
 (some (encRes ro_z0l rh_z0l ((false, ()), ()))))
 (none))
 (some (encRes ro_z0l rh_z0l ((false, ()), ()))))
 (none))
 (some (encRes ro_z0l rh_z0l ((false, ()), ()))))
 (cond (a0.1 == (15 : Int))
 (cond (a0.2.1 == (0 : Int))
 (let y45 : ((Bool × Unit) × Unit) := (q_z0j a0.2.2.1)
 cond (ok_z0j a0.2.2.1)
 (cond y45.1.1
 (let y46 : ((Bool × Unit) × Unit) := (q_z0k a0.2.2.2.1)
 cond (ok_z0k a0.2.2.2.1)
 (cond y46.1.1
 (let y47 : ((Bool × Unit) × Unit) := (q_z0i a0.2.2.2.2.1)
 cond (ok_z0i a0.2.2.2.2.1)
 (some (encRes ro_z0l rh_z0l ((y47.1.1, ()), ())))
 (none))
 (some (encRes ro_z0l rh_z0l ((false, ()), ()))))
 (none))
 (some (encRes ro_z0l rh_z0l ((false, ()), ()))))
 (none))
 (some (encRes ro_z0l rh_z0l ((false, ()), ()))))
 (cond (a0.1 == (17 : Int))
 (let y48 : ((Bool × Unit) × Unit) := (q_z0i a0.2.1)
 cond (ok_z0i a0.2.1)
 (cond y48.1.1
 (let y49 : ((Bool × Unit) × Unit) := (q_z0j a0.2.2.1)
 cond (ok_z0j a0.2.2.1)
 (cond y49.1.1
 (let y50 : ((Bool × Unit) × Unit) := (q_z0k a0.2.2.2.1)
 cond (ok_z0k a0.2.2.2.1)
 (cond y50.1.1
 (let y51 : ((Bool × Unit) × Unit) := (q_z0i a0.2.2.2.2.1)
 cond (ok_z0i a0.2.2.2.2.1)
 (some (encRes ro_z0l rh_z0l ((y51.1.1, ()), ())))
 (none))
 (some (encRes ro_z0l rh_z0l ((false, ()), ()))))
 (none))
 (some (encRes ro_z0l rh_z0l ((false, ()), ()))))
 (none))
 (some (encRes ro_z0l rh_z0l ((false, ()), ()))))
 (none))
 (cond (a0.1 == (18 : Int))
 (cond (a0.2.1 == (0 : Int))
 (let y52 : ((Bool × Unit) × Unit) := (q_z0j a0.2.2.1)
 cond (ok_z0j a0.2.2.1)
 (cond y52.1.1
 (let y53 : ((Bool × Unit) × Unit) := (q_z0j a0.2.2.2.1)
 cond (ok_z0j a0.2.2.2.1)
 (cond y53.1.1
 (let y54 : ((Bool × Unit) × Unit) := (q_z0i a0.2.2.2.2.1)
 cond (ok_z0i a0.2.2.2.2.1)
 (some (encRes ro_z0l rh_z0l ((y54.1.1, ()), ())))
 (none))
 (some (encRes ro_z0l rh_z0l ((false, ()), ()))))
 (none))
 (some (encRes ro_z0l rh_z0l ((false, ()), ()))))
 (none))
 (some (encRes ro_z0l rh_z0l ((false, ()), ()))))
 (cond (a0.1 == (19 : Int))
 (cond (a0.2.1 == (0 : Int))
 (let y55 : ((Bool × Unit) × Unit) := (q_z0j a0.2.2.1)
 cond (ok_z0j a0.2.2.1)
 (cond y55.1.1
 (let y56 : ((Bool × Unit) × Unit) := (q_z0j a0.2.2.2.1)
 cond (ok_z0j a0.2.2.2.1)
 (cond y56.1.1
 (let y57 : ((Bool × Unit) × Unit) := (q_z0i a0.2.2.2.2.1)
 cond (ok_z0i a0.2.2.2.2.1)
 (some (encRes ro_z0l rh_z0l ((y57.1.1, ()), ())))
 (none))
 (some (encRes ro_z0l rh_z0l ((false, ()), ()))))
 (none))
 (some (encRes ro_z0l rh_z0l ((false, ()), ()))))
 (none))
 (some (encRes ro_z0l rh_z0l ((false, ()), ()))))
 (cond (a0.1 == (20 : Int))
 (cond (a0.2.1 == (0 : Int))
 (let y58 : ((Bool × Unit) × Unit) := (q_z0j a0.2.2.1)
 cond (ok_z0j a0.2.2.1)
 (cond y58.1.1
 (let y59 : ((Bool × Unit) × Unit) := (q_z0k a0.2.2.2.1)
 cond (ok_z0k a0.2.2.2.1)
 (cond y59.1.1
 (some (encRes ro_z0l rh_z0l (((a0.2.2.2.2.1 == (0 : Int)), ()), ())))
 (some (encRes ro_z0l rh_z0l ((false, ()), ()))))
 (none))
 (some (encRes ro_z0l rh_z0l ((false, ()), ()))))
 (none))
 (some (encRes ro_z0l rh_z0l ((false, ()), ()))))
 (cond (a0.1 == (21 : Int))
 (cond (a0.2.1 == (0 : Int))
 (let y60 : ((Bool × Unit) × Unit) := (q_z0k a0.2.2.1)
 cond (ok_z0k a0.2.2.1)
 (cond y60.1.1
 (let y61 : ((Bool × Unit) × Unit) := (q_z0k a0.2.2.2.1)
 cond (ok_z0k a0.2.2.2.1)
 (cond y61.1.1
 (cond (decide (a0.2.2.2.2.1 ≥ (0 : Int)))
 (some (encRes ro_z0l rh_z0l (((decide (a0.2.2.2.2.1 ≤ (2147483647 : Int))), ()), ())))
 (some (encRes ro_z0l rh_z0l ((false, ()), ()))))
 (some (encRes ro_z0l rh_z0l ((false, ()), ()))))
 (none))
 (some (encRes ro_z0l rh_z0l ((false, ()), ()))))
 (none))
 (some (encRes ro_z0l rh_z0l ((false, ()), ()))))
 (cond (a0.1 == (22 : Int))
 (cond (a0.2.1 == (0 : Int))
 (let y62 : ((Bool × Unit) × Unit) := (q_z0k a0.2.2.1)
 cond (ok_z0k a0.2.2.1)
 (cond y62.1.1
 (let y63 : ((Bool × Unit) × Unit) := (q_z0k a0.2.2.2.1)
 cond (ok_z0k a0.2.2.2.1)
 (cond y63.1.1
 (some (encRes ro_z0l rh_z0l (((a0.2.2.2.2.1 == (0 : Int)), ()), ())))
 (some (encRes ro_z0l rh_z0l ((false, ()), ()))))
 (none))
 (some (encRes ro_z0l rh_z0l ((false, ()), ()))))
 (none))
 (some (encRes ro_z0l rh_z0l ((false, ()), ()))))
 (cond (a0.1 == (23 : Int))
 (cond (a0.2.1 == (0 : Int))
 (let y64 : ((Bool × Unit) × Unit) := (q_z0k a0.2.2.1)
 cond (ok_z0k a0.2.2.1)
 (cond y64.1.1
 (let y65 : ((Bool × Unit) × Unit) := (q_z0k a0.2.2.2.1)
 cond (ok_z0k a0.2.2.2.1)
 (cond y65.1.1
 (some (encRes ro_z0l rh_z0l (((a0.2.2.2.2.1 == (0 : Int)), ()), ())))
 (some (encRes ro_z0l rh_z0l ((false, ()), ()))))
 (none))
 (some (encRes ro_z0l rh_z0l ((false, ()), ()))))
 (none))
 (some (encRes ro_z0l rh_z0l ((false, ()), ()))))
 (some (encRes ro_z0l rh_z0l ((false, ()), ())))))))))))))))))))))))))
noncomputable def Q_z0l (a0 : InstrS) : Option (RS ro_z0l rh_z0l) := decRes ro_z0l rh_z0l (M_z0l FUEL a0)
noncomputable def ok_z0l (a0 : InstrS) : Bool := (Q_z0l a0).isSome
noncomputable def q_z0l (a0 : InstrS) : RS ro_z0l rh_z0l := RS.get (Q_z0l a0)
/-! z0m: turnoutref19_Names -/
abbrev ro_z0m : List EK := [.hs 0 0]
abbrev rh_z0m : List HK := [.row NameT]
noncomputable def M_z0m (n : Nat) (a0 : InstrS) : Option Res :=
 let y1 : ((Bool × Unit) × Unit) := (q_z0l a0)
 cond (ok_z0l a0)
 (cond (!y1.1.1)
 (some (encRes ro_z0m rh_z0m ((0, ()), ([], ()))))
 (cond (a0.1 != (12 : Int))
 (cond (decide (a0.2.1 > (0 : Int)))
 (cond (decide (((0 + 1) : Nat) * 16 ≤ 2 ^ 46 ∧ ((0 + 1) : Nat) ≤ 2 ^ 46))
 (cond (a0.2.2.1.1 == (2 : Int))
 (cond (decide (((1 + 1) : Nat) * 16 ≤ 2 ^ 46 ∧ ((1 + 1) : Nat) ≤ 2 ^ 46))
 (cond (a0.2.2.2.1.1 == (2 : Int))
 (cond (decide (((2 + 1) : Nat) * 16 ≤ 2 ^ 46 ∧ ((2 + 1) : Nat) ≤ 2 ^ 46))
 (cond (a0.1 == (13 : Int))
 (cond (decide (((3 + 1) : Nat) * 16 ≤ 2 ^ 46 ∧ ((3 + 1) : Nat) ≤ 2 ^ 46))
 (some (encRes ro_z0m rh_z0m (((3 + 1), ()), ([((1 : Int), (a0.2.1, ())), ((1 : Int), ((IntKind.wrap .i64 a0.2.2.1.2.1), ())), ((1 : Int), ((IntKind.wrap .i64 a0.2.2.2.1.2.1), ())), ((2 : Int), a0.2.2.2.2)], ()))))
 (none))
 (cond (a0.1 == (14 : Int))
 (cond (decide (((3 + 1) : Nat) * 16 ≤ 2 ^ 46 ∧ ((3 + 1) : Nat) ≤ 2 ^ 46))
 (some (encRes ro_z0m rh_z0m (((3 + 1), ()), ([((1 : Int), (a0.2.1, ())), ((1 : Int), ((IntKind.wrap .i64 a0.2.2.1.2.1), ())), ((1 : Int), ((IntKind.wrap .i64 a0.2.2.2.1.2.1), ())), ((3 : Int), a0.2.2.2.2)], ()))))
 (none))
 (cond (a0.1 == (15 : Int))
 (cond (decide (((3 + 1) : Nat) * 16 ≤ 2 ^ 46 ∧ ((3 + 1) : Nat) ≤ 2 ^ 46))
 (some (encRes ro_z0m rh_z0m (((3 + 1), ()), ([((1 : Int), (a0.2.1, ())), ((1 : Int), ((IntKind.wrap .i64 a0.2.2.1.2.1), ())), ((1 : Int), ((IntKind.wrap .i64 a0.2.2.2.1.2.1), ())), ((4 : Int), a0.2.2.2.2)], ()))))
 (none))
 (cond (a0.1 == (16 : Int))
 (cond (decide (((3 + 1) : Nat) * 16 ≤ 2 ^ 46 ∧ ((3 + 1) : Nat) ≤ 2 ^ 46))
 (some (encRes ro_z0m rh_z0m (((3 + 1), ()), ([((1 : Int), (a0.2.1, ())), ((1 : Int), ((IntKind.wrap .i64 a0.2.2.1.2.1), ())), ((1 : Int), ((IntKind.wrap .i64 a0.2.2.2.1.2.1), ())), ((5 : Int), a0.2.2.2.2)], ()))))
 (none))
 (cond (a0.1 == (17 : Int))
 (cond (decide (((3 + 1) : Nat) * 16 ≤ 2 ^ 46 ∧ ((3 + 1) : Nat) ≤ 2 ^ 46))
 (some (encRes ro_z0m rh_z0m (((3 + 1), ()), ([((1 : Int), (a0.2.1, ())), ((1 : Int), ((IntKind.wrap .i64 a0.2.2.1.2.1), ())), ((1 : Int), ((IntKind.wrap .i64 a0.2.2.2.1.2.1), ())), ((6 : Int), a0.2.2.2.2)], ()))))
 (none))
 (cond (a0.1 == (18 : Int))
 (cond (decide (((3 + 1) : Nat) * 16 ≤ 2 ^ 46 ∧ ((3 + 1) : Nat) ≤ 2 ^ 46))
 (some (encRes ro_z0m rh_z0m (((3 + 1), ()), ([((1 : Int), (a0.2.1, ())), ((1 : Int), ((IntKind.wrap .i64 a0.2.2.1.2.1), ())), ((1 : Int), ((IntKind.wrap .i64 a0.2.2.2.1.2.1), ())), ((6 : Int), a0.2.2.2.2)], ()))))
 (none))
 (cond (a0.1 == (19 : Int))
 (cond (decide (((3 + 1) : Nat) * 16 ≤ 2 ^ 46 ∧ ((3 + 1) : Nat) ≤ 2 ^ 46))
 (some (encRes ro_z0m rh_z0m (((3 + 1), ()), ([((1 : Int), (a0.2.1, ())), ((1 : Int), ((IntKind.wrap .i64 a0.2.2.1.2.1), ())), ((1 : Int), ((IntKind.wrap .i64 a0.2.2.2.1.2.1), ())), ((6 : Int), a0.2.2.2.2)], ()))))
 (none))
 (some (encRes ro_z0m rh_z0m (((2 + 1), ()), ([((1 : Int), (a0.2.1, ())), ((1 : Int), ((IntKind.wrap .i64 a0.2.2.1.2.1), ())), ((1 : Int), ((IntKind.wrap .i64 a0.2.2.2.1.2.1), ()))], ())))))))))))
 (none))
 (cond (a0.1 == (13 : Int))
 (cond (decide (((2 + 1) : Nat) * 16 ≤ 2 ^ 46 ∧ ((2 + 1) : Nat) ≤ 2 ^ 46))
 (some (encRes ro_z0m rh_z0m (((2 + 1), ()), ([((1 : Int), (a0.2.1, ())), ((1 : Int), ((IntKind.wrap .i64 a0.2.2.1.2.1), ())), ((2 : Int), a0.2.2.2.2)], ()))))
 (none))
 (cond (a0.1 == (14 : Int))
 (cond (decide (((2 + 1) : Nat) * 16 ≤ 2 ^ 46 ∧ ((2 + 1) : Nat) ≤ 2 ^ 46))
 (some (encRes ro_z0m rh_z0m (((2 + 1), ()), ([((1 : Int), (a0.2.1, ())), ((1 : Int), ((IntKind.wrap .i64 a0.2.2.1.2.1), ())), ((3 : Int), a0.2.2.2.2)], ()))))
 (none))
 (cond (a0.1 == (15 : Int))
 (cond (decide (((2 + 1) : Nat) * 16 ≤ 2 ^ 46 ∧ ((2 + 1) : Nat) ≤ 2 ^ 46))
 (some (encRes ro_z0m rh_z0m (((2 + 1), ()), ([((1 : Int), (a0.2.1, ())), ((1 : Int), ((IntKind.wrap .i64 a0.2.2.1.2.1), ())), ((4 : Int), a0.2.2.2.2)], ()))))
 (none))
 (cond (a0.1 == (16 : Int))
 (cond (decide (((2 + 1) : Nat) * 16 ≤ 2 ^ 46 ∧ ((2 + 1) : Nat) ≤ 2 ^ 46))
 (some (encRes ro_z0m rh_z0m (((2 + 1), ()), ([((1 : Int), (a0.2.1, ())), ((1 : Int), ((IntKind.wrap .i64 a0.2.2.1.2.1), ())), ((5 : Int), a0.2.2.2.2)], ()))))
 (none))
 (cond (a0.1 == (17 : Int))
 (cond (decide (((2 + 1) : Nat) * 16 ≤ 2 ^ 46 ∧ ((2 + 1) : Nat) ≤ 2 ^ 46))
 (some (encRes ro_z0m rh_z0m (((2 + 1), ()), ([((1 : Int), (a0.2.1, ())), ((1 : Int), ((IntKind.wrap .i64 a0.2.2.1.2.1), ())), ((6 : Int), a0.2.2.2.2)], ()))))
 (none))
 (cond (a0.1 == (18 : Int))
 (cond (decide (((2 + 1) : Nat) * 16 ≤ 2 ^ 46 ∧ ((2 + 1) : Nat) ≤ 2 ^ 46))
 (some (encRes ro_z0m rh_z0m (((2 + 1), ()), ([((1 : Int), (a0.2.1, ())), ((1 : Int), ((IntKind.wrap .i64 a0.2.2.1.2.1), ())), ((6 : Int), a0.2.2.2.2)], ()))))
 (none))
 (cond (a0.1 == (19 : Int))
 (cond (decide (((2 + 1) : Nat) * 16 ≤ 2 ^ 46 ∧ ((2 + 1) : Nat) ≤ 2 ^ 46))
 (some (encRes ro_z0m rh_z0m (((2 + 1), ()), ([((1 : Int), (a0.2.1, ())), ((1 : Int), ((IntKind.wrap .i64 a0.2.2.1.2.1), ())), ((6 : Int), a0.2.2.2.2)], ()))))
 (none))
 (some (encRes ro_z0m rh_z0m (((1 + 1), ()), ([((1 : Int), (a0.2.1, ())), ((1 : Int), ((IntKind.wrap .i64 a0.2.2.1.2.1), ()))], ()))))))))))))
 (none))
 (cond (a0.2.2.2.1.1 == (2 : Int))
 (cond (decide (((1 + 1) : Nat) * 16 ≤ 2 ^ 46 ∧ ((1 + 1) : Nat) ≤ 2 ^ 46))
 (cond (a0.1 == (13 : Int))
 (cond (decide (((2 + 1) : Nat) * 16 ≤ 2 ^ 46 ∧ ((2 + 1) : Nat) ≤ 2 ^ 46))
 (some (encRes ro_z0m rh_z0m (((2 + 1), ()), ([((1 : Int), (a0.2.1, ())), ((1 : Int), ((IntKind.wrap .i64 a0.2.2.2.1.2.1), ())), ((2 : Int), a0.2.2.2.2)], ()))))
 (none))
 (cond (a0.1 == (14 : Int))
 (cond (decide (((2 + 1) : Nat) * 16 ≤ 2 ^ 46 ∧ ((2 + 1) : Nat) ≤ 2 ^ 46))
 (some (encRes ro_z0m rh_z0m (((2 + 1), ()), ([((1 : Int), (a0.2.1, ())), ((1 : Int), ((IntKind.wrap .i64 a0.2.2.2.1.2.1), ())), ((3 : Int), a0.2.2.2.2)], ()))))
 (none))
 (cond (a0.1 == (15 : Int))
 (cond (decide (((2 + 1) : Nat) * 16 ≤ 2 ^ 46 ∧ ((2 + 1) : Nat) ≤ 2 ^ 46))
 (some (encRes ro_z0m rh_z0m (((2 + 1), ()), ([((1 : Int), (a0.2.1, ())), ((1 : Int), ((IntKind.wrap .i64 a0.2.2.2.1.2.1), ())), ((4 : Int), a0.2.2.2.2)], ()))))
 (none))
 (cond (a0.1 == (16 : Int))
 (cond (decide (((2 + 1) : Nat) * 16 ≤ 2 ^ 46 ∧ ((2 + 1) : Nat) ≤ 2 ^ 46))
 (some (encRes ro_z0m rh_z0m (((2 + 1), ()), ([((1 : Int), (a0.2.1, ())), ((1 : Int), ((IntKind.wrap .i64 a0.2.2.2.1.2.1), ())), ((5 : Int), a0.2.2.2.2)], ()))))
 (none))
 (cond (a0.1 == (17 : Int))
 (cond (decide (((2 + 1) : Nat) * 16 ≤ 2 ^ 46 ∧ ((2 + 1) : Nat) ≤ 2 ^ 46))
 (some (encRes ro_z0m rh_z0m (((2 + 1), ()), ([((1 : Int), (a0.2.1, ())), ((1 : Int), ((IntKind.wrap .i64 a0.2.2.2.1.2.1), ())), ((6 : Int), a0.2.2.2.2)], ()))))
 (none))
 (cond (a0.1 == (18 : Int))
 (cond (decide (((2 + 1) : Nat) * 16 ≤ 2 ^ 46 ∧ ((2 + 1) : Nat) ≤ 2 ^ 46))
 (some (encRes ro_z0m rh_z0m (((2 + 1), ()), ([((1 : Int), (a0.2.1, ())), ((1 : Int), ((IntKind.wrap .i64 a0.2.2.2.1.2.1), ())), ((6 : Int), a0.2.2.2.2)], ()))))
 (none))
 (cond (a0.1 == (19 : Int))
 (cond (decide (((2 + 1) : Nat) * 16 ≤ 2 ^ 46 ∧ ((2 + 1) : Nat) ≤ 2 ^ 46))
 (some (encRes ro_z0m rh_z0m (((2 + 1), ()), ([((1 : Int), (a0.2.1, ())), ((1 : Int), ((IntKind.wrap .i64 a0.2.2.2.1.2.1), ())), ((6 : Int), a0.2.2.2.2)], ()))))
 (none))
 (some (encRes ro_z0m rh_z0m (((1 + 1), ()), ([((1 : Int), (a0.2.1, ())), ((1 : Int), ((IntKind.wrap .i64 a0.2.2.2.1.2.1), ()))], ())))))))))))
 (none))
 (cond (a0.1 == (13 : Int))
 (cond (decide (((1 + 1) : Nat) * 16 ≤ 2 ^ 46 ∧ ((1 + 1) : Nat) ≤ 2 ^ 46))
 (some (encRes ro_z0m rh_z0m (((1 + 1), ()), ([((1 : Int), (a0.2.1, ())), ((2 : Int), a0.2.2.2.2)], ()))))
 (none))
 (cond (a0.1 == (14 : Int))
 (cond (decide (((1 + 1) : Nat) * 16 ≤ 2 ^ 46 ∧ ((1 + 1) : Nat) ≤ 2 ^ 46))
 (some (encRes ro_z0m rh_z0m (((1 + 1), ()), ([((1 : Int), (a0.2.1, ())), ((3 : Int), a0.2.2.2.2)], ()))))
 (none))
 (cond (a0.1 == (15 : Int))
 (cond (decide (((1 + 1) : Nat) * 16 ≤ 2 ^ 46 ∧ ((1 + 1) : Nat) ≤ 2 ^ 46))
 (some (encRes ro_z0m rh_z0m (((1 + 1), ()), ([((1 : Int), (a0.2.1, ())), ((4 : Int), a0.2.2.2.2)], ()))))
 (none))
 (cond (a0.1 == (16 : Int))
 (cond (decide (((1 + 1) : Nat) * 16 ≤ 2 ^ 46 ∧ ((1 + 1) : Nat) ≤ 2 ^ 46))
 (some (encRes ro_z0m rh_z0m (((1 + 1), ()), ([((1 : Int), (a0.2.1, ())), ((5 : Int), a0.2.2.2.2)], ()))))
 (none))
 (cond (a0.1 == (17 : Int))
 (cond (decide (((1 + 1) : Nat) * 16 ≤ 2 ^ 46 ∧ ((1 + 1) : Nat) ≤ 2 ^ 46))
 (some (encRes ro_z0m rh_z0m (((1 + 1), ()), ([((1 : Int), (a0.2.1, ())), ((6 : Int), a0.2.2.2.2)], ()))))
 (none))
 (cond (a0.1 == (18 : Int))
 (cond (decide (((1 + 1) : Nat) * 16 ≤ 2 ^ 46 ∧ ((1 + 1) : Nat) ≤ 2 ^ 46))
 (some (encRes ro_z0m rh_z0m (((1 + 1), ()), ([((1 : Int), (a0.2.1, ())), ((6 : Int), a0.2.2.2.2)], ()))))
 (none))
 (cond (a0.1 == (19 : Int))
 (cond (decide (((1 + 1) : Nat) * 16 ≤ 2 ^ 46 ∧ ((1 + 1) : Nat) ≤ 2 ^ 46))
 (some (encRes ro_z0m rh_z0m (((1 + 1), ()), ([((1 : Int), (a0.2.1, ())), ((6 : Int), a0.2.2.2.2)], ()))))
 (none))
 (some (encRes ro_z0m rh_z0m (((0 + 1), ()), ([((1 : Int), (a0.2.1, ()))], ())))))))))))))
 (none))
 (cond (a0.2.2.1.1 == (2 : Int))
 (cond (decide (((0 + 1) : Nat) * 16 ≤ 2 ^ 46 ∧ ((0 + 1) : Nat) ≤ 2 ^ 46))
 (cond (a0.2.2.2.1.1 == (2 : Int))
 (cond (decide (((1 + 1) : Nat) * 16 ≤ 2 ^ 46 ∧ ((1 + 1) : Nat) ≤ 2 ^ 46))
 (cond (a0.1 == (13 : Int))
 (cond (decide (((2 + 1) : Nat) * 16 ≤ 2 ^ 46 ∧ ((2 + 1) : Nat) ≤ 2 ^ 46))
 (some (encRes ro_z0m rh_z0m (((2 + 1), ()), ([((1 : Int), ((IntKind.wrap .i64 a0.2.2.1.2.1), ())), ((1 : Int), ((IntKind.wrap .i64 a0.2.2.2.1.2.1), ())), ((2 : Int), a0.2.2.2.2)], ()))))
 (none))
 (cond (a0.1 == (14 : Int))
 (cond (decide (((2 + 1) : Nat) * 16 ≤ 2 ^ 46 ∧ ((2 + 1) : Nat) ≤ 2 ^ 46))
 (some (encRes ro_z0m rh_z0m (((2 + 1), ()), ([((1 : Int), ((IntKind.wrap .i64 a0.2.2.1.2.1), ())), ((1 : Int), ((IntKind.wrap .i64 a0.2.2.2.1.2.1), ())), ((3 : Int), a0.2.2.2.2)], ()))))
 (none))
 (cond (a0.1 == (15 : Int))
 (cond (decide (((2 + 1) : Nat) * 16 ≤ 2 ^ 46 ∧ ((2 + 1) : Nat) ≤ 2 ^ 46))
 (some (encRes ro_z0m rh_z0m (((2 + 1), ()), ([((1 : Int), ((IntKind.wrap .i64 a0.2.2.1.2.1), ())), ((1 : Int), ((IntKind.wrap .i64 a0.2.2.2.1.2.1), ())), ((4 : Int), a0.2.2.2.2)], ()))))
 (none))
 (cond (a0.1 == (16 : Int))
 (cond (decide (((2 + 1) : Nat) * 16 ≤ 2 ^ 46 ∧ ((2 + 1) : Nat) ≤ 2 ^ 46))
 (some (encRes ro_z0m rh_z0m (((2 + 1), ()), ([((1 : Int), ((IntKind.wrap .i64 a0.2.2.1.2.1), ())), ((1 : Int), ((IntKind.wrap .i64 a0.2.2.2.1.2.1), ())), ((5 : Int), a0.2.2.2.2)], ()))))
 (none))
 (cond (a0.1 == (17 : Int))
 (cond (decide (((2 + 1) : Nat) * 16 ≤ 2 ^ 46 ∧ ((2 + 1) : Nat) ≤ 2 ^ 46))
 (some (encRes ro_z0m rh_z0m (((2 + 1), ()), ([((1 : Int), ((IntKind.wrap .i64 a0.2.2.1.2.1), ())), ((1 : Int), ((IntKind.wrap .i64 a0.2.2.2.1.2.1), ())), ((6 : Int), a0.2.2.2.2)], ()))))
 (none))
 (cond (a0.1 == (18 : Int))
 (cond (decide (((2 + 1) : Nat) * 16 ≤ 2 ^ 46 ∧ ((2 + 1) : Nat) ≤ 2 ^ 46))
 (some (encRes ro_z0m rh_z0m (((2 + 1), ()), ([((1 : Int), ((IntKind.wrap .i64 a0.2.2.1.2.1), ())), ((1 : Int), ((IntKind.wrap .i64 a0.2.2.2.1.2.1), ())), ((6 : Int), a0.2.2.2.2)], ()))))
 (none))
 (cond (a0.1 == (19 : Int))
 (cond (decide (((2 + 1) : Nat) * 16 ≤ 2 ^ 46 ∧ ((2 + 1) : Nat) ≤ 2 ^ 46))
 (some (encRes ro_z0m rh_z0m (((2 + 1), ()), ([((1 : Int), ((IntKind.wrap .i64 a0.2.2.1.2.1), ())), ((1 : Int), ((IntKind.wrap .i64 a0.2.2.2.1.2.1), ())), ((6 : Int), a0.2.2.2.2)], ()))))
 (none))
 (some (encRes ro_z0m rh_z0m (((1 + 1), ()), ([((1 : Int), ((IntKind.wrap .i64 a0.2.2.1.2.1), ())), ((1 : Int), ((IntKind.wrap .i64 a0.2.2.2.1.2.1), ()))], ())))))))))))
 (none))
 (cond (a0.1 == (13 : Int))
 (cond (decide (((1 + 1) : Nat) * 16 ≤ 2 ^ 46 ∧ ((1 + 1) : Nat) ≤ 2 ^ 46))
 (some (encRes ro_z0m rh_z0m (((1 + 1), ()), ([((1 : Int), ((IntKind.wrap .i64 a0.2.2.1.2.1), ())), ((2 : Int), a0.2.2.2.2)], ()))))
 (none))
 (cond (a0.1 == (14 : Int))
 (cond (decide (((1 + 1) : Nat) * 16 ≤ 2 ^ 46 ∧ ((1 + 1) : Nat) ≤ 2 ^ 46))
 (some (encRes ro_z0m rh_z0m (((1 + 1), ()), ([((1 : Int), ((IntKind.wrap .i64 a0.2.2.1.2.1), ())), ((3 : Int), a0.2.2.2.2)], ()))))
 (none))
 (cond (a0.1 == (15 : Int))
 (cond (decide (((1 + 1) : Nat) * 16 ≤ 2 ^ 46 ∧ ((1 + 1) : Nat) ≤ 2 ^ 46))
 (some (encRes ro_z0m rh_z0m (((1 + 1), ()), ([((1 : Int), ((IntKind.wrap .i64 a0.2.2.1.2.1), ())), ((4 : Int), a0.2.2.2.2)], ()))))
 (none))
 (cond (a0.1 == (16 : Int))
 (cond (decide (((1 + 1) : Nat) * 16 ≤ 2 ^ 46 ∧ ((1 + 1) : Nat) ≤ 2 ^ 46))
 (some (encRes ro_z0m rh_z0m (((1 + 1), ()), ([((1 : Int), ((IntKind.wrap .i64 a0.2.2.1.2.1), ())), ((5 : Int), a0.2.2.2.2)], ()))))
 (none))
 (cond (a0.1 == (17 : Int))
 (cond (decide (((1 + 1) : Nat) * 16 ≤ 2 ^ 46 ∧ ((1 + 1) : Nat) ≤ 2 ^ 46))
 (some (encRes ro_z0m rh_z0m (((1 + 1), ()), ([((1 : Int), ((IntKind.wrap .i64 a0.2.2.1.2.1), ())), ((6 : Int), a0.2.2.2.2)], ()))))
 (none))
 (cond (a0.1 == (18 : Int))
 (cond (decide (((1 + 1) : Nat) * 16 ≤ 2 ^ 46 ∧ ((1 + 1) : Nat) ≤ 2 ^ 46))
 (some (encRes ro_z0m rh_z0m (((1 + 1), ()), ([((1 : Int), ((IntKind.wrap .i64 a0.2.2.1.2.1), ())), ((6 : Int), a0.2.2.2.2)], ()))))
 (none))
 (cond (a0.1 == (19 : Int))
 (cond (decide (((1 + 1) : Nat) * 16 ≤ 2 ^ 46 ∧ ((1 + 1) : Nat) ≤ 2 ^ 46))
 (some (encRes ro_z0m rh_z0m (((1 + 1), ()), ([((1 : Int), ((IntKind.wrap .i64 a0.2.2.1.2.1), ())), ((6 : Int), a0.2.2.2.2)], ()))))
 (none))
 (some (encRes ro_z0m rh_z0m (((0 + 1), ()), ([((1 : Int), ((IntKind.wrap .i64 a0.2.2.1.2.1), ()))], ()))))))))))))
 (none))
 (cond (a0.2.2.2.1.1 == (2 : Int))
 (cond (decide (((0 + 1) : Nat) * 16 ≤ 2 ^ 46 ∧ ((0 + 1) : Nat) ≤ 2 ^ 46))
 (cond (a0.1 == (13 : Int))
 (cond (decide (((1 + 1) : Nat) * 16 ≤ 2 ^ 46 ∧ ((1 + 1) : Nat) ≤ 2 ^ 46))
 (some (encRes ro_z0m rh_z0m (((1 + 1), ()), ([((1 : Int), ((IntKind.wrap .i64 a0.2.2.2.1.2.1), ())), ((2 : Int), a0.2.2.2.2)], ()))))
 (none))
 (cond (a0.1 == (14 : Int))
 (cond (decide (((1 + 1) : Nat) * 16 ≤ 2 ^ 46 ∧ ((1 + 1) : Nat) ≤ 2 ^ 46))
 (some (encRes ro_z0m rh_z0m (((1 + 1), ()), ([((1 : Int), ((IntKind.wrap .i64 a0.2.2.2.1.2.1), ())), ((3 : Int), a0.2.2.2.2)], ()))))
 (none))
 (cond (a0.1 == (15 : Int))
 (cond (decide (((1 + 1) : Nat) * 16 ≤ 2 ^ 46 ∧ ((1 + 1) : Nat) ≤ 2 ^ 46))
 (some (encRes ro_z0m rh_z0m (((1 + 1), ()), ([((1 : Int), ((IntKind.wrap .i64 a0.2.2.2.1.2.1), ())), ((4 : Int), a0.2.2.2.2)], ()))))
 (none))
 (cond (a0.1 == (16 : Int))
 (cond (decide (((1 + 1) : Nat) * 16 ≤ 2 ^ 46 ∧ ((1 + 1) : Nat) ≤ 2 ^ 46))
 (some (encRes ro_z0m rh_z0m (((1 + 1), ()), ([((1 : Int), ((IntKind.wrap .i64 a0.2.2.2.1.2.1), ())), ((5 : Int), a0.2.2.2.2)], ()))))
 (none))
 (cond (a0.1 == (17 : Int))
 (cond (decide (((1 + 1) : Nat) * 16 ≤ 2 ^ 46 ∧ ((1 + 1) : Nat) ≤ 2 ^ 46))
 (some (encRes ro_z0m rh_z0m (((1 + 1), ()), ([((1 : Int), ((IntKind.wrap .i64 a0.2.2.2.1.2.1), ())), ((6 : Int), a0.2.2.2.2)], ()))))
 (none))
 (cond (a0.1 == (18 : Int))
 (cond (decide (((1 + 1) : Nat) * 16 ≤ 2 ^ 46 ∧ ((1 + 1) : Nat) ≤ 2 ^ 46))
 (some (encRes ro_z0m rh_z0m (((1 + 1), ()), ([((1 : Int), ((IntKind.wrap .i64 a0.2.2.2.1.2.1), ())), ((6 : Int), a0.2.2.2.2)], ()))))
 (none))
 (cond (a0.1 == (19 : Int))
 (cond (decide (((1 + 1) : Nat) * 16 ≤ 2 ^ 46 ∧ ((1 + 1) : Nat) ≤ 2 ^ 46))
 (some (encRes ro_z0m rh_z0m (((1 + 1), ()), ([((1 : Int), ((IntKind.wrap .i64 a0.2.2.2.1.2.1), ())), ((6 : Int), a0.2.2.2.2)], ()))))
 (none))
 (some (encRes ro_z0m rh_z0m (((0 + 1), ()), ([((1 : Int), ((IntKind.wrap .i64 a0.2.2.2.1.2.1), ()))], ())))))))))))
 (none))
 (cond (a0.1 == (13 : Int))
 (cond (decide (((0 + 1) : Nat) * 16 ≤ 2 ^ 46 ∧ ((0 + 1) : Nat) ≤ 2 ^ 46))
 (some (encRes ro_z0m rh_z0m (((0 + 1), ()), ([((2 : Int), a0.2.2.2.2)], ()))))
 (none))
 (cond (a0.1 == (14 : Int))
 (cond (decide (((0 + 1) : Nat) * 16 ≤ 2 ^ 46 ∧ ((0 + 1) : Nat) ≤ 2 ^ 46))
 (some (encRes ro_z0m rh_z0m (((0 + 1), ()), ([((3 : Int), a0.2.2.2.2)], ()))))
 (none))
 (cond (a0.1 == (15 : Int))
 (cond (decide (((0 + 1) : Nat) * 16 ≤ 2 ^ 46 ∧ ((0 + 1) : Nat) ≤ 2 ^ 46))
 (some (encRes ro_z0m rh_z0m (((0 + 1), ()), ([((4 : Int), a0.2.2.2.2)], ()))))
 (none))
 (cond (a0.1 == (16 : Int))
 (cond (decide (((0 + 1) : Nat) * 16 ≤ 2 ^ 46 ∧ ((0 + 1) : Nat) ≤ 2 ^ 46))
 (some (encRes ro_z0m rh_z0m (((0 + 1), ()), ([((5 : Int), a0.2.2.2.2)], ()))))
 (none))
 (cond (a0.1 == (17 : Int))
 (cond (decide (((0 + 1) : Nat) * 16 ≤ 2 ^ 46 ∧ ((0 + 1) : Nat) ≤ 2 ^ 46))
 (some (encRes ro_z0m rh_z0m (((0 + 1), ()), ([((6 : Int), a0.2.2.2.2)], ()))))
 (none))
 (cond (a0.1 == (18 : Int))
 (cond (decide (((0 + 1) : Nat) * 16 ≤ 2 ^ 46 ∧ ((0 + 1) : Nat) ≤ 2 ^ 46))
 (some (encRes ro_z0m rh_z0m (((0 + 1), ()), ([((6 : Int), a0.2.2.2.2)], ()))))
 (none))
 (cond (a0.1 == (19 : Int))
 (cond (decide (((0 + 1) : Nat) * 16 ≤ 2 ^ 46 ∧ ((0 + 1) : Nat) ≤ 2 ^ 46))
 (some (encRes ro_z0m rh_z0m (((0 + 1), ()), ([((6 : Int), a0.2.2.2.2)], ()))))
 (none))
 (some (encRes ro_z0m rh_z0m ((0, ()), ([], ()))))))))))))))
 (cond (a0.2.2.1.1 == (2 : Int))
 (cond (decide (((0 + 1) : Nat) * 16 ≤ 2 ^ 46 ∧ ((0 + 1) : Nat) ≤ 2 ^ 46))
 (cond (a0.2.2.2.1.1 == (2 : Int))
 (cond (decide (((1 + 1) : Nat) * 16 ≤ 2 ^ 46 ∧ ((1 + 1) : Nat) ≤ 2 ^ 46))
 (cond (a0.1 == (13 : Int))
 (cond (decide (((2 + 1) : Nat) * 16 ≤ 2 ^ 46 ∧ ((2 + 1) : Nat) ≤ 2 ^ 46))
 (some (encRes ro_z0m rh_z0m (((2 + 1), ()), ([((1 : Int), ((IntKind.wrap .i64 a0.2.2.1.2.1), ())), ((1 : Int), ((IntKind.wrap .i64 a0.2.2.2.1.2.1), ())), ((2 : Int), a0.2.2.2.2)], ()))))
 (none))
 (cond (a0.1 == (14 : Int))
 (cond (decide (((2 + 1) : Nat) * 16 ≤ 2 ^ 46 ∧ ((2 + 1) : Nat) ≤ 2 ^ 46))
 (some (encRes ro_z0m rh_z0m (((2 + 1), ()), ([((1 : Int), ((IntKind.wrap .i64 a0.2.2.1.2.1), ())), ((1 : Int), ((IntKind.wrap .i64 a0.2.2.2.1.2.1), ())), ((3 : Int), a0.2.2.2.2)], ()))))
 (none))
 (cond (a0.1 == (15 : Int))
 (cond (decide (((2 + 1) : Nat) * 16 ≤ 2 ^ 46 ∧ ((2 + 1) : Nat) ≤ 2 ^ 46))
 (some (encRes ro_z0m rh_z0m (((2 + 1), ()), ([((1 : Int), ((IntKind.wrap .i64 a0.2.2.1.2.1), ())), ((1 : Int), ((IntKind.wrap .i64 a0.2.2.2.1.2.1), ())), ((4 : Int), a0.2.2.2.2)], ()))))
 (none))
 (cond (a0.1 == (16 : Int))
 (cond (decide (((2 + 1) : Nat) * 16 ≤ 2 ^ 46 ∧ ((2 + 1) : Nat) ≤ 2 ^ 46))
 (some (encRes ro_z0m rh_z0m (((2 + 1), ()), ([((1 : Int), ((IntKind.wrap .i64 a0.2.2.1.2.1), ())), ((1 : Int), ((IntKind.wrap .i64 a0.2.2.2.1.2.1), ())), ((5 : Int), a0.2.2.2.2)], ()))))
 (none))
 (cond (a0.1 == (17 : Int))
 (cond (decide (((2 + 1) : Nat) * 16 ≤ 2 ^ 46 ∧ ((2 + 1) : Nat) ≤ 2 ^ 46))
 (some (encRes ro_z0m rh_z0m (((2 + 1), ()), ([((1 : Int), ((IntKind.wrap .i64 a0.2.2.1.2.1), ())), ((1 : Int), ((IntKind.wrap .i64 a0.2.2.2.1.2.1), ())), ((6 : Int), a0.2.2.2.2)], ()))))
 (none))
 (cond (a0.1 == (18 : Int))
 (cond (decide (((2 + 1) : Nat) * 16 ≤ 2 ^ 46 ∧ ((2 + 1) : Nat) ≤ 2 ^ 46))
 (some (encRes ro_z0m rh_z0m (((2 + 1), ()), ([((1 : Int), ((IntKind.wrap .i64 a0.2.2.1.2.1), ())), ((1 : Int), ((IntKind.wrap .i64 a0.2.2.2.1.2.1), ())), ((6 : Int), a0.2.2.2.2)], ()))))
 (none))
 (cond (a0.1 == (19 : Int))
 (cond (decide (((2 + 1) : Nat) * 16 ≤ 2 ^ 46 ∧ ((2 + 1) : Nat) ≤ 2 ^ 46))
 (some (encRes ro_z0m rh_z0m (((2 + 1), ()), ([((1 : Int), ((IntKind.wrap .i64 a0.2.2.1.2.1), ())), ((1 : Int), ((IntKind.wrap .i64 a0.2.2.2.1.2.1), ())), ((6 : Int), a0.2.2.2.2)], ()))))
 (none))
 (some (encRes ro_z0m rh_z0m (((1 + 1), ()), ([((1 : Int), ((IntKind.wrap .i64 a0.2.2.1.2.1), ())), ((1 : Int), ((IntKind.wrap .i64 a0.2.2.2.1.2.1), ()))], ())))))))))))
 (none))
 (cond (a0.1 == (13 : Int))
 (cond (decide (((1 + 1) : Nat) * 16 ≤ 2 ^ 46 ∧ ((1 + 1) : Nat) ≤ 2 ^ 46))
 (some (encRes ro_z0m rh_z0m (((1 + 1), ()), ([((1 : Int), ((IntKind.wrap .i64 a0.2.2.1.2.1), ())), ((2 : Int), a0.2.2.2.2)], ()))))
 (none))
 (cond (a0.1 == (14 : Int))
 (cond (decide (((1 + 1) : Nat) * 16 ≤ 2 ^ 46 ∧ ((1 + 1) : Nat) ≤ 2 ^ 46))
 (some (encRes ro_z0m rh_z0m (((1 + 1), ()), ([((1 : Int), ((IntKind.wrap .i64 a0.2.2.1.2.1), ())), ((3 : Int), a0.2.2.2.2)], ()))))
 (none))
 (cond (a0.1 == (15 : Int))
 (cond (decide (((1 + 1) : Nat) * 16 ≤ 2 ^ 46 ∧ ((1 + 1) : Nat) ≤ 2 ^ 46))
 (some (encRes ro_z0m rh_z0m (((1 + 1), ()), ([((1 : Int), ((IntKind.wrap .i64 a0.2.2.1.2.1), ())), ((4 : Int), a0.2.2.2.2)], ()))))
 (none))
 (cond (a0.1 == (16 : Int))
 (cond (decide (((1 + 1) : Nat) * 16 ≤ 2 ^ 46 ∧ ((1 + 1) : Nat) ≤ 2 ^ 46))
 (some (encRes ro_z0m rh_z0m (((1 + 1), ()), ([((1 : Int), ((IntKind.wrap .i64 a0.2.2.1.2.1), ())), ((5 : Int), a0.2.2.2.2)], ()))))
 (none))
 (cond (a0.1 == (17 : Int))
 (cond (decide (((1 + 1) : Nat) * 16 ≤ 2 ^ 46 ∧ ((1 + 1) : Nat) ≤ 2 ^ 46))
 (some (encRes ro_z0m rh_z0m (((1 + 1), ()), ([((1 : Int), ((IntKind.wrap .i64 a0.2.2.1.2.1), ())), ((6 : Int), a0.2.2.2.2)], ()))))
 (none))
 (cond (a0.1 == (18 : Int))
 (cond (decide (((1 + 1) : Nat) * 16 ≤ 2 ^ 46 ∧ ((1 + 1) : Nat) ≤ 2 ^ 46))
 (some (encRes ro_z0m rh_z0m (((1 + 1), ()), ([((1 : Int), ((IntKind.wrap .i64 a0.2.2.1.2.1), ())), ((6 : Int), a0.2.2.2.2)], ()))))
 (none))
 (cond (a0.1 == (19 : Int))
 (cond (decide (((1 + 1) : Nat) * 16 ≤ 2 ^ 46 ∧ ((1 + 1) : Nat) ≤ 2 ^ 46))
 (some (encRes ro_z0m rh_z0m (((1 + 1), ()), ([((1 : Int), ((IntKind.wrap .i64 a0.2.2.1.2.1), ())), ((6 : Int), a0.2.2.2.2)], ()))))
 (none))
 (some (encRes ro_z0m rh_z0m (((0 + 1), ()), ([((1 : Int), ((IntKind.wrap .i64 a0.2.2.1.2.1), ()))], ()))))))))))))
 (none))
 (cond (a0.2.2.2.1.1 == (2 : Int))
 (cond (decide (((0 + 1) : Nat) * 16 ≤ 2 ^ 46 ∧ ((0 + 1) : Nat) ≤ 2 ^ 46))
 (cond (a0.1 == (13 : Int))
 (cond (decide (((1 + 1) : Nat) * 16 ≤ 2 ^ 46 ∧ ((1 + 1) : Nat) ≤ 2 ^ 46))
 (some (encRes ro_z0m rh_z0m (((1 + 1), ()), ([((1 : Int), ((IntKind.wrap .i64 a0.2.2.2.1.2.1), ())), ((2 : Int), a0.2.2.2.2)], ()))))
 (none))
 (cond (a0.1 == (14 : Int))
 (cond (decide (((1 + 1) : Nat) * 16 ≤ 2 ^ 46 ∧ ((1 + 1) : Nat) ≤ 2 ^ 46))
 (some (encRes ro_z0m rh_z0m (((1 + 1), ()), ([((1 : Int), ((IntKind.wrap .i64 a0.2.2.2.1.2.1), ())), ((3 : Int), a0.2.2.2.2)], ()))))
 (none))
 (cond (a0.1 == (15 : Int))
 (cond (decide (((1 + 1) : Nat) * 16 ≤ 2 ^ 46 ∧ ((1 + 1) : Nat) ≤ 2 ^ 46))
 (some (encRes ro_z0m rh_z0m (((1 + 1), ()), ([((1 : Int), ((IntKind.wrap .i64 a0.2.2.2.1.2.1), ())), ((4 : Int), a0.2.2.2.2)], ()))))
 (none))
 (cond (a0.1 == (16 : Int))
 (cond (decide (((1 + 1) : Nat) * 16 ≤ 2 ^ 46 ∧ ((1 + 1) : Nat) ≤ 2 ^ 46))
 (some (encRes ro_z0m rh_z0m (((1 + 1), ()), ([((1 : Int), ((IntKind.wrap .i64 a0.2.2.2.1.2.1), ())), ((5 : Int), a0.2.2.2.2)], ()))))
 (none))
 (cond (a0.1 == (17 : Int))
 (cond (decide (((1 + 1) : Nat) * 16 ≤ 2 ^ 46 ∧ ((1 + 1) : Nat) ≤ 2 ^ 46))
 (some (encRes ro_z0m rh_z0m (((1 + 1), ()), ([((1 : Int), ((IntKind.wrap .i64 a0.2.2.2.1.2.1), ())), ((6 : Int), a0.2.2.2.2)], ()))))
 (none))
 (cond (a0.1 == (18 : Int))
 (cond (decide (((1 + 1) : Nat) * 16 ≤ 2 ^ 46 ∧ ((1 + 1) : Nat) ≤ 2 ^ 46))
 (some (encRes ro_z0m rh_z0m (((1 + 1), ()), ([((1 : Int), ((IntKind.wrap .i64 a0.2.2.2.1.2.1), ())), ((6 : Int), a0.2.2.2.2)], ()))))
 (none))
 (cond (a0.1 == (19 : Int))
 (cond (decide (((1 + 1) : Nat) * 16 ≤ 2 ^ 46 ∧ ((1 + 1) : Nat) ≤ 2 ^ 46))
 (some (encRes ro_z0m rh_z0m (((1 + 1), ()), ([((1 : Int), ((IntKind.wrap .i64 a0.2.2.2.1.2.1), ())), ((6 : Int), a0.2.2.2.2)], ()))))
 (none))
 (some (encRes ro_z0m rh_z0m (((0 + 1), ()), ([((1 : Int), ((IntKind.wrap .i64 a0.2.2.2.1.2.1), ()))], ())))))))))))
 (none))
 (cond (a0.1 == (13 : Int))
 (cond (decide (((0 + 1) : Nat) * 16 ≤ 2 ^ 46 ∧ ((0 + 1) : Nat) ≤ 2 ^ 46))
 (some (encRes ro_z0m rh_z0m (((0 + 1), ()), ([((2 : Int), a0.2.2.2.2)], ()))))
 (none))
 (cond (a0.1 == (14 : Int))
 (cond (decide (((0 + 1) : Nat) * 16 ≤ 2 ^ 46 ∧ ((0 + 1) : Nat) ≤ 2 ^ 46))
 (some (encRes ro_z0m rh_z0m (((0 + 1), ()), ([((3 : Int), a0.2.2.2.2)], ()))))
 (none))
 (cond (a0.1 == (15 : Int))
 (cond (decide (((0 + 1) : Nat) * 16 ≤ 2 ^ 46 ∧ ((0 + 1) : Nat) ≤ 2 ^ 46))
 (some (encRes ro_z0m rh_z0m (((0 + 1), ()), ([((4 : Int), a0.2.2.2.2)], ()))))
 (none))
 (cond (a0.1 == (16 : Int))
 (cond (decide (((0 + 1) : Nat) * 16 ≤ 2 ^ 46 ∧ ((0 + 1) : Nat) ≤ 2 ^ 46))
 (some (encRes ro_z0m rh_z0m (((0 + 1), ()), ([((5 : Int), a0.2.2.2.2)], ()))))
 (none))
 (cond (a0.1 == (17 : Int))
 (cond (decide (((0 + 1) : Nat) * 16 ≤ 2 ^ 46 ∧ ((0 + 1) : Nat) ≤ 2 ^ 46))
 (some (encRes ro_z0m rh_z0m (((0 + 1), ()), ([((6 : Int), a0.2.2.2.2)], ()))))
 (none))
 (cond (a0.1 == (18 : Int))
 (cond (decide (((0 + 1) : Nat) * 16 ≤ 2 ^ 46 ∧ ((0 + 1) : Nat) ≤ 2 ^ 46))
 (some (encRes ro_z0m rh_z0m (((0 + 1), ()), ([((6 : Int), a0.2.2.2.2)], ()))))
 (none))
 (cond (a0.1 == (19 : Int))
 (cond (decide (((0 + 1) : Nat) * 16 ≤ 2 ^ 46 ∧ ((0 + 1) : Nat) ≤ 2 ^ 46))
 (some (encRes ro_z0m rh_z0m (((0 + 1), ()), ([((6 : Int), a0.2.2.2.2)], ()))))
 (none))
 (some (encRes ro_z0m rh_z0m ((0, ()), ([], ())))))))))))))))
 (none)
noncomputable def Q_z0m (a0 : InstrS) : Option (RS ro_z0m rh_z0m) := decRes ro_z0m rh_z0m (M_z0m FUEL a0)
noncomputable def ok_z0m (a0 : InstrS) : Bool := (Q_z0m a0).isSome
noncomputable def q_z0m (a0 : InstrS) : RS ro_z0m rh_z0m := RS.get (Q_z0m a0)
/-! z0n: turnoutref19_MayBlock -/
abbrev ro_z0n : List EK := [.ty .bool]
abbrev rh_z0n : List HK := []
noncomputable def F_z0n_0 (n : Nat) (k_r : Bool → Option Res) (k_t0 : Unit → Option Res) (x0_1 : BlockS) (rec : Int → Option Res) (x0_0 : Int) : Option Res :=
 cond (decide (x0_0 < (((List.length x0_1.2.1) : Nat) : Int)))
 (cond (decide ((0 : Int) ≤ x0_0 ∧ x0_0 < (((List.length x0_1.2.1) : Nat) : Int)))
 (let y2 : ((Bool × Unit) × Unit) := (q_z0l (rdd zInstrS x0_1.2.1 (Int.toNat x0_0)))
 cond (ok_z0l (rdd zInstrS x0_1.2.1 (Int.toNat x0_0)))
 (cond (!y2.1.1)
 (k_r false)
 (cond (decide ((0 : Int) ≤ x0_0 ∧ x0_0 < (((List.length x0_1.2.1) : Nat) : Int)))
 (cond ((rdd zInstrS x0_1.2.1 (Int.toNat x0_0)).1 == (12 : Int))
 (cond (decide ((0 : Int) ≤ x0_0 ∧ x0_0 < (((List.length x0_1.2.1) : Nat) : Int)))
 (let y3 : Int := (IntKind.wrap .i64 ((IntKind.wrap .i64 (x0_0 + (1 : Int))) + (rdd zInstrS x0_1.2.1 (Int.toNat x0_0)).2.2.2.2.1))
 cond (decide (y3 > (((List.length x0_1.2.1) : Nat) : Int)))
 (k_r false)
 (rec (IntKind.wrap .i64 (x0_0 + (1 : Int)))))
 (none))
 (rec (IntKind.wrap .i64 (x0_0 + (1 : Int)))))
 (none)))
 (none))
 (none))
 (k_t0 ())
noncomputable def L_z0n_0 (n : Nat) (k_r : Bool → Option Res) (k_t0 : Unit → Option Res) (x0_1 : BlockS) : Nat → Int → Option Res
  | 0, _ => none
  | m + 1, x0_0 => F_z0n_0 n k_r k_t0 x0_1 (L_z0n_0 n k_r k_t0 x0_1 m) x0_0
noncomputable def M_z0n (n : Nat) (a0 : BlockS) : Option Res :=
 let y1 : ((Bool × Unit) × Unit) := (q_z0i a0.1)
 cond (ok_z0i a0.1)
 (cond (!y1.1.1)
 (some (encRes ro_z0n rh_z0n ((false, ()), ())))
 (cond (decide ((((List.length a0.2.1) : Nat) : Int) > (32 : Int)))
 (some (encRes ro_z0n rh_z0n ((false, ()), ())))
 (L_z0n_0 n
  (fun y4 => some (encRes ro_z0n rh_z0n ((y4, ()), ())))
  (fun _ => some (encRes ro_z0n rh_z0n ((true, ()), ())))
  a0
  n
  (0 : Int))))
 (none)
noncomputable def Q_z0n (a0 : BlockS) : Option (RS ro_z0n rh_z0n) := decRes ro_z0n rh_z0n (M_z0n FUEL a0)
noncomputable def ok_z0n (a0 : BlockS) : Bool := (Q_z0n a0).isSome
noncomputable def q_z0n (a0 : BlockS) : RS ro_z0n rh_z0n := RS.get (Q_z0n a0)
/-! z0o: turnoutref19_with -/
abbrev ro_z0o : List EK := [.hs 0 0]
abbrev rh_z0o : List HK := [.row WayT]
noncomputable def F_z0o_0 (n : Nat) (k_t0 : Nat → Bool → (List WayS) → Option Res) (x0_0 : (List WayS)) (x0_4 : WayS) (rec : Nat → Bool → Int → (List WayS) → Option Res) (x0_1 : Nat) (x0_2 : Bool) (x0_3 : Int) (x0_5 : (List WayS)) : Option Res :=
 cond (decide (x0_3 < (((List.length x0_0) : Nat) : Int)))
 (cond (decide ((0 : Int) ≤ x0_3 ∧ x0_3 < (((List.length x0_0) : Nat) : Int)))
 (cond ((rdd zWayS x0_0 (Int.toNat x0_3)).1 == x0_4.1)
 (cond ((rdd zWayS x0_0 (Int.toNat x0_3)).2.1 == x0_4.2.1)
 (let y1 : Int := (if x0_4.2.2.1 > (rdd zWayS x0_0 (Int.toNat x0_3)).2.2.1 then x0_4.2.2.1 else (rdd zWayS x0_0 (Int.toNat x0_3)).2.2.1)
 cond (decide (((List.length (cutL zWayS x0_5 0 x0_1)) + 1) * 24 ≤ 2 ^ 46 ∧ ((List.length (cutL zWayS x0_5 0 x0_1)) + 1) ≤ 2 ^ 46))
 (rec ((List.length (cutL zWayS x0_5 0 x0_1)) + 1) true (IntKind.wrap .i64 (x0_3 + (1 : Int))) ((cutL zWayS x0_5 0 x0_1) ++ [((rdd zWayS x0_0 (Int.toNat x0_3)).1, ((rdd zWayS x0_0 (Int.toNat x0_3)).2.1, (y1, ())))]))
 (none))
 (cond (!x0_2)
 (cond (decide ((rdd zWayS x0_0 (Int.toNat x0_3)).1 > x0_4.1))
 (cond (decide (((List.length (cutL zWayS x0_5 0 x0_1)) + 1) * 24 ≤ 2 ^ 46 ∧ ((List.length (cutL zWayS x0_5 0 x0_1)) + 1) ≤ 2 ^ 46))
 (cond (decide (((List.length (cutL zWayS ((cutL zWayS x0_5 0 x0_1) ++ [x0_4]) 0 ((List.length (cutL zWayS x0_5 0 x0_1)) + 1))) + 1) * 24 ≤ 2 ^ 46 ∧ ((List.length (cutL zWayS ((cutL zWayS x0_5 0 x0_1) ++ [x0_4]) 0 ((List.length (cutL zWayS x0_5 0 x0_1)) + 1))) + 1) ≤ 2 ^ 46))
 (rec ((List.length (cutL zWayS ((cutL zWayS x0_5 0 x0_1) ++ [x0_4]) 0 ((List.length (cutL zWayS x0_5 0 x0_1)) + 1))) + 1) true (IntKind.wrap .i64 (x0_3 + (1 : Int))) ((cutL zWayS ((cutL zWayS x0_5 0 x0_1) ++ [x0_4]) 0 ((List.length (cutL zWayS x0_5 0 x0_1)) + 1)) ++ [(rdd zWayS x0_0 (Int.toNat x0_3))]))
 (none))
 (none))
 (cond ((rdd zWayS x0_0 (Int.toNat x0_3)).1 == x0_4.1)
 (cond (decide ((rdd zWayS x0_0 (Int.toNat x0_3)).2.1 > x0_4.2.1))
 (cond (decide (((List.length (cutL zWayS x0_5 0 x0_1)) + 1) * 24 ≤ 2 ^ 46 ∧ ((List.length (cutL zWayS x0_5 0 x0_1)) + 1) ≤ 2 ^ 46))
 (cond (decide (((List.length (cutL zWayS ((cutL zWayS x0_5 0 x0_1) ++ [x0_4]) 0 ((List.length (cutL zWayS x0_5 0 x0_1)) + 1))) + 1) * 24 ≤ 2 ^ 46 ∧ ((List.length (cutL zWayS ((cutL zWayS x0_5 0 x0_1) ++ [x0_4]) 0 ((List.length (cutL zWayS x0_5 0 x0_1)) + 1))) + 1) ≤ 2 ^ 46))
 (rec ((List.length (cutL zWayS ((cutL zWayS x0_5 0 x0_1) ++ [x0_4]) 0 ((List.length (cutL zWayS x0_5 0 x0_1)) + 1))) + 1) true (IntKind.wrap .i64 (x0_3 + (1 : Int))) ((cutL zWayS ((cutL zWayS x0_5 0 x0_1) ++ [x0_4]) 0 ((List.length (cutL zWayS x0_5 0 x0_1)) + 1)) ++ [(rdd zWayS x0_0 (Int.toNat x0_3))]))
 (none))
 (none))
 (cond (decide (((List.length (cutL zWayS x0_5 0 x0_1)) + 1) * 24 ≤ 2 ^ 46 ∧ ((List.length (cutL zWayS x0_5 0 x0_1)) + 1) ≤ 2 ^ 46))
 (rec ((List.length (cutL zWayS x0_5 0 x0_1)) + 1) x0_2 (IntKind.wrap .i64 (x0_3 + (1 : Int))) ((cutL zWayS x0_5 0 x0_1) ++ [(rdd zWayS x0_0 (Int.toNat x0_3))]))
 (none)))
 (cond (decide (((List.length (cutL zWayS x0_5 0 x0_1)) + 1) * 24 ≤ 2 ^ 46 ∧ ((List.length (cutL zWayS x0_5 0 x0_1)) + 1) ≤ 2 ^ 46))
 (rec ((List.length (cutL zWayS x0_5 0 x0_1)) + 1) x0_2 (IntKind.wrap .i64 (x0_3 + (1 : Int))) ((cutL zWayS x0_5 0 x0_1) ++ [(rdd zWayS x0_0 (Int.toNat x0_3))]))
 (none))))
 (cond (decide (((List.length (cutL zWayS x0_5 0 x0_1)) + 1) * 24 ≤ 2 ^ 46 ∧ ((List.length (cutL zWayS x0_5 0 x0_1)) + 1) ≤ 2 ^ 46))
 (rec ((List.length (cutL zWayS x0_5 0 x0_1)) + 1) x0_2 (IntKind.wrap .i64 (x0_3 + (1 : Int))) ((cutL zWayS x0_5 0 x0_1) ++ [(rdd zWayS x0_0 (Int.toNat x0_3))]))
 (none))))
 (cond (!x0_2)
 (cond (decide ((rdd zWayS x0_0 (Int.toNat x0_3)).1 > x0_4.1))
 (cond (decide (((List.length (cutL zWayS x0_5 0 x0_1)) + 1) * 24 ≤ 2 ^ 46 ∧ ((List.length (cutL zWayS x0_5 0 x0_1)) + 1) ≤ 2 ^ 46))
 (cond (decide (((List.length (cutL zWayS ((cutL zWayS x0_5 0 x0_1) ++ [x0_4]) 0 ((List.length (cutL zWayS x0_5 0 x0_1)) + 1))) + 1) * 24 ≤ 2 ^ 46 ∧ ((List.length (cutL zWayS ((cutL zWayS x0_5 0 x0_1) ++ [x0_4]) 0 ((List.length (cutL zWayS x0_5 0 x0_1)) + 1))) + 1) ≤ 2 ^ 46))
 (rec ((List.length (cutL zWayS ((cutL zWayS x0_5 0 x0_1) ++ [x0_4]) 0 ((List.length (cutL zWayS x0_5 0 x0_1)) + 1))) + 1) true (IntKind.wrap .i64 (x0_3 + (1 : Int))) ((cutL zWayS ((cutL zWayS x0_5 0 x0_1) ++ [x0_4]) 0 ((List.length (cutL zWayS x0_5 0 x0_1)) + 1)) ++ [(rdd zWayS x0_0 (Int.toNat x0_3))]))
 (none))
 (none))
 (cond ((rdd zWayS x0_0 (Int.toNat x0_3)).1 == x0_4.1)
 (cond (decide ((rdd zWayS x0_0 (Int.toNat x0_3)).2.1 > x0_4.2.1))
 (cond (decide (((List.length (cutL zWayS x0_5 0 x0_1)) + 1) * 24 ≤ 2 ^ 46 ∧ ((List.length (cutL zWayS x0_5 0 x0_1)) + 1) ≤ 2 ^ 46))
 (cond (decide (((List.length (cutL zWayS ((cutL zWayS x0_5 0 x0_1) ++ [x0_4]) 0 ((List.length (cutL zWayS x0_5 0 x0_1)) + 1))) + 1) * 24 ≤ 2 ^ 46 ∧ ((List.length (cutL zWayS ((cutL zWayS x0_5 0 x0_1) ++ [x0_4]) 0 ((List.length (cutL zWayS x0_5 0 x0_1)) + 1))) + 1) ≤ 2 ^ 46))
 (rec ((List.length (cutL zWayS ((cutL zWayS x0_5 0 x0_1) ++ [x0_4]) 0 ((List.length (cutL zWayS x0_5 0 x0_1)) + 1))) + 1) true (IntKind.wrap .i64 (x0_3 + (1 : Int))) ((cutL zWayS ((cutL zWayS x0_5 0 x0_1) ++ [x0_4]) 0 ((List.length (cutL zWayS x0_5 0 x0_1)) + 1)) ++ [(rdd zWayS x0_0 (Int.toNat x0_3))]))
 (none))
 (none))
 (cond (decide (((List.length (cutL zWayS x0_5 0 x0_1)) + 1) * 24 ≤ 2 ^ 46 ∧ ((List.length (cutL zWayS x0_5 0 x0_1)) + 1) ≤ 2 ^ 46))
 (rec ((List.length (cutL zWayS x0_5 0 x0_1)) + 1) x0_2 (IntKind.wrap .i64 (x0_3 + (1 : Int))) ((cutL zWayS x0_5 0 x0_1) ++ [(rdd zWayS x0_0 (Int.toNat x0_3))]))
 (none)))
 (cond (decide (((List.length (cutL zWayS x0_5 0 x0_1)) + 1) * 24 ≤ 2 ^ 46 ∧ ((List.length (cutL zWayS x0_5 0 x0_1)) + 1) ≤ 2 ^ 46))
 (rec ((List.length (cutL zWayS x0_5 0 x0_1)) + 1) x0_2 (IntKind.wrap .i64 (x0_3 + (1 : Int))) ((cutL zWayS x0_5 0 x0_1) ++ [(rdd zWayS x0_0 (Int.toNat x0_3))]))
 (none))))
 (cond (decide (((List.length (cutL zWayS x0_5 0 x0_1)) + 1) * 24 ≤ 2 ^ 46 ∧ ((List.length (cutL zWayS x0_5 0 x0_1)) + 1) ≤ 2 ^ 46))
 (rec ((List.length (cutL zWayS x0_5 0 x0_1)) + 1) x0_2 (IntKind.wrap .i64 (x0_3 + (1 : Int))) ((cutL zWayS x0_5 0 x0_1) ++ [(rdd zWayS x0_0 (Int.toNat x0_3))]))
 (none))))
 (none))
 (k_t0 x0_1 x0_2 x0_5)
noncomputable def L_z0o_0 (n : Nat) (k_t0 : Nat → Bool → (List WayS) → Option Res) (x0_0 : (List WayS)) (x0_4 : WayS) : Nat → Nat → Bool → Int → (List WayS) → Option Res
  | 0, _, _, _, _ => none
  | m + 1, x0_1, x0_2, x0_3, x0_5 => F_z0o_0 n k_t0 x0_0 x0_4 (L_z0o_0 n k_t0 x0_0 x0_4 m) x0_1 x0_2 x0_3 x0_5
noncomputable def M_z0o (n : Nat) (a0 : (List WayS)) (a1 : WayS) : Option Res :=
 L_z0o_0 n
  (fun y2 y3 y4 => cond (!y3)
 (cond (decide (((List.length (cutL zWayS y4 0 y2)) + 1) * 24 ≤ 2 ^ 46 ∧ ((List.length (cutL zWayS y4 0 y2)) + 1) ≤ 2 ^ 46))
 (some (encRes ro_z0o rh_z0o ((((List.length (cutL zWayS y4 0 y2)) + 1), ()), (((cutL zWayS y4 0 y2) ++ [a1]), ()))))
 (none))
 (some (encRes ro_z0o rh_z0o ((y2, ()), (y4, ())))))
  a0
  a1
  n
  0
  false
  (0 : Int)
  ([])
noncomputable def Q_z0o (a0 : (List WayS)) (a1 : WayS) : Option (RS ro_z0o rh_z0o) := decRes ro_z0o rh_z0o (M_z0o FUEL a0 a1)
noncomputable def ok_z0o (a0 : (List WayS)) (a1 : WayS) : Bool := (Q_z0o a0 a1).isSome
noncomputable def q_z0o (a0 : (List WayS)) (a1 : WayS) : RS ro_z0o rh_z0o := RS.get (Q_z0o a0 a1)
/-! z0p: turnoutref19_Both -/
abbrev ro_z0p : List EK := [.ty (.slice WayT)]
abbrev rh_z0p : List HK := []
noncomputable def F_z0p_0 (n : Nat) (k_t0 : (List WayS) → Option Res) (x0_1 : (List WayS)) (rec : (List WayS) → Int → Option Res) (x0_0 : (List WayS)) (x0_2 : Int) : Option Res :=
 cond (decide (x0_2 < (((List.length x0_1) : Nat) : Int)))
 (cond (decide ((0 : Int) ≤ x0_2 ∧ x0_2 < (((List.length x0_1) : Nat) : Int)))
 (let y1 : ((Nat × Unit) × ((List WayS) × Unit)) := (q_z0o x0_0 (rdd zWayS x0_1 (Int.toNat x0_2)))
 cond (ok_z0o x0_0 (rdd zWayS x0_1 (Int.toNat x0_2)))
 (rec (cutL zWayS y1.2.1 0 y1.1.1) (IntKind.wrap .i64 (x0_2 + (1 : Int))))
 (none))
 (none))
 (k_t0 x0_0)
noncomputable def L_z0p_0 (n : Nat) (k_t0 : (List WayS) → Option Res) (x0_1 : (List WayS)) : Nat → (List WayS) → Int → Option Res
  | 0, _, _ => none
  | m + 1, x0_0, x0_2 => F_z0p_0 n k_t0 x0_1 (L_z0p_0 n k_t0 x0_1 m) x0_0 x0_2
noncomputable def M_z0p (n : Nat) (a0 : (List WayS)) (a1 : (List WayS)) : Option Res :=
 L_z0p_0 n
  (fun y2 => some (encRes ro_z0p rh_z0p ((y2, ()), ())))
  a1
  n
  a0
  (0 : Int)
noncomputable def Q_z0p (a0 : (List WayS)) (a1 : (List WayS)) : Option (RS ro_z0p rh_z0p) := decRes ro_z0p rh_z0p (M_z0p FUEL a0 a1)
noncomputable def ok_z0p (a0 : (List WayS)) (a1 : (List WayS)) : Bool := (Q_z0p a0 a1).isSome
noncomputable def q_z0p (a0 : (List WayS)) (a1 : (List WayS)) : RS ro_z0p rh_z0p := RS.get (Q_z0p a0 a1)
/-! z0q: turnoutref19_from -/
abbrev ro_z0q : List EK := [.hs 0 0]
abbrev rh_z0q : List HK := [.row (.slice WayT)]
def fromNd (i : InstrS) : W19.Nd := if i.1 = 13 then .fin 13 i.2.2.2.2.1 else if i.1 = 14 then .fin 14 i.2.2.2.2.1 else if i.1 = 23 then .fin 23 0 else if i.1 = 22 then .fin 23 0 else if i.1 = 12 then .skip i.2.2.2.2.1.toNat else .step
def fromOk : List InstrS → Bool
  | [] => true
  | i :: r => cond (i.1 == 12) (decide (0 ≤ i.2.2.2.2.1) && decide (i.2.2.2.2.1 ≤ (r.length : Int))) true && fromOk r
noncomputable def fromL (c : List InstrS) : List (List WayS) := (List.range (c.length + 1)).map fun j => W19.waysB ((c.map fromNd).drop j)
noncomputable def Q_z0q (c : List InstrS) : Option (RS ro_z0q rh_z0q) := cond (decide (c.length ≤ 32) && fromOk c) (some ((c.length + 1, ()), ((fromL c), ()))) none
noncomputable def ok_z0q (c : List InstrS) : Bool := (Q_z0q c).isSome
noncomputable def q_z0q (c : List InstrS) : RS ro_z0q rh_z0q := RS.get (Q_z0q c)
/-! z0r: turnoutref19_Ways -/
abbrev ro_z0r : List EK := [.ty (.slice WayT)]
abbrev rh_z0r : List HK := []
noncomputable def M_z0r (n : Nat) (a0 : BlockS) : Option Res :=
 let y1 : ((Bool × Unit) × Unit) := (q_z0n a0)
 cond (ok_z0n a0)
 (cond (!y1.1.1)
 (some (encRes ro_z0r rh_z0r (([], ()), ())))
 (let y2 : ((Nat × Unit) × ((List (List WayS)) × Unit)) := (q_z0q a0.2.1)
 cond (ok_z0q a0.2.1)
 (cond (decide ((0 : Int) ≤ (0 : Int) ∧ (0 : Int) < ((y2.1.1 : Nat) : Int)))
 (some (encRes ro_z0r rh_z0r (((rdd [] y2.2.1 0), ()), ())))
 (none))
 (none)))
 (none)
noncomputable def Q_z0r (a0 : BlockS) : Option (RS ro_z0r rh_z0r) := decRes ro_z0r rh_z0r (M_z0r FUEL a0)
noncomputable def ok_z0r (a0 : BlockS) : Bool := (Q_z0r a0).isSome
noncomputable def q_z0r (a0 : BlockS) : RS ro_z0r rh_z0r := RS.get (Q_z0r a0)
/-! z0s: turnoutref19_Steps -/
abbrev ro_z0s : List EK := [.ty (.int .i64)]
abbrev rh_z0s : List HK := []
noncomputable def F_z0s_0 (n : Nat) (k_t0 : Int → Option Res) (x0_0 : (List WayS)) (rec : Int → Int → Option Res) (x0_1 : Int) (x0_2 : Int) : Option Res :=
 cond (decide (x0_2 < (((List.length x0_0) : Nat) : Int)))
 (cond (decide ((0 : Int) ≤ x0_2 ∧ x0_2 < (((List.length x0_0) : Nat) : Int)))
 (let y2 : Int := (if (rdd zWayS x0_0 (Int.toNat x0_2)).2.2.1 > x0_1 then (rdd zWayS x0_0 (Int.toNat x0_2)).2.2.1 else x0_1)
 rec y2 (IntKind.wrap .i64 (x0_2 + (1 : Int))))
 (none))
 (k_t0 x0_1)
noncomputable def L_z0s_0 (n : Nat) (k_t0 : Int → Option Res) (x0_0 : (List WayS)) : Nat → Int → Int → Option Res
  | 0, _, _ => none
  | m + 1, x0_1, x0_2 => F_z0s_0 n k_t0 x0_0 (L_z0s_0 n k_t0 x0_0 m) x0_1 x0_2
noncomputable def M_z0s (n : Nat) (a0 : BlockS) : Option Res :=
 let y1 : (((List WayS) × Unit) × Unit) := (q_z0r a0)
 cond (ok_z0r a0)
 (L_z0s_0 n
  (fun y3 => some (encRes ro_z0s rh_z0s ((y3, ()), ())))
  y1.1.1
  n
  (0 : Int)
  (0 : Int))
 (none)
noncomputable def Q_z0s (a0 : BlockS) : Option (RS ro_z0s rh_z0s) := decRes ro_z0s rh_z0s (M_z0s FUEL a0)
noncomputable def ok_z0s (a0 : BlockS) : Bool := (Q_z0s a0).isSome
noncomputable def q_z0s (a0 : BlockS) : RS ro_z0s rh_z0s := RS.get (Q_z0s a0)
/-! z0t: turnoutlaw19_InstrBlocks -/
abbrev ro_z0t : List EK := [.ty .bool]
abbrev rh_z0t : List HK := []
noncomputable def F_z0t_2 (n : Nat) (k_t2 : Unit → Option Res) (x2_2 : Nat) (rec : Int → (List WayS) → Option Res) (x2_3 : Int) (x2_8 : (List WayS)) : Option Res :=
 cond (decide (x2_3 < ((x2_2 : Nat) : Int)))
 (cond (decide ((0 : Int) ≤ x2_3 ∧ x2_3 < ((x2_2 : Nat) : Int)))
 (rec (IntKind.wrap .i64 (x2_3 + (1 : Int))) (List.set x2_8 (Int.toNat x2_3) ((rdd zWayS x2_8 (Int.toNat x2_3)).1, ((rdd zWayS x2_8 (Int.toNat x2_3)).2.1, ((-1 : Int), ())))))
 (none))
 (k_t2 ())
noncomputable def L_z0t_2 (n : Nat) (k_t2 : Unit → Option Res) (x2_2 : Nat) : Nat → Int → (List WayS) → Option Res
  | 0, _, _ => none
  | m + 1, x2_3, x2_8 => F_z0t_2 n k_t2 x2_2 (L_z0t_2 n k_t2 x2_2 m) x2_3 x2_8
noncomputable def F_z0t_0 (n : Nat) (k_r : Bool → Option Res) (k_t0 : Unit → Option Res) (x0_0 : (List WayS)) (x0_3 : Int) (x0_4 : Nat) (x0_5 : (List InstrS)) (rec : Int → Option Res) (x0_1 : Int) : Option Res :=
 cond (decide (x0_1 < (2 : Int)))
 (let y3 : ((Nat × Unit) × ((List WayS) × Unit)) := (q_z0d (x0_3, ((cutL zInstrS x0_5 0 x0_4), ())))
 cond (ok_z0d (x0_3, ((cutL zInstrS x0_5 0 x0_4), ())))
 (let y4 : ((Bool × Unit) × Unit) := (q_z0e (cutL zWayS y3.2.1 0 y3.1.1) x0_0)
 cond (ok_z0e (cutL zWayS y3.2.1 0 y3.1.1) x0_0)
 (cond (!y4.1.1)
 (k_r false)
 (L_z0t_2 n
  (fun _ => rec (IntKind.wrap .i64 (x0_1 + (1 : Int))))
  y3.1.1
  n
  (0 : Int)
  y3.2.1))
 (none))
 (none))
 (k_t0 ())
noncomputable def L_z0t_0 (n : Nat) (k_r : Bool → Option Res) (k_t0 : Unit → Option Res) (x0_0 : (List WayS)) (x0_3 : Int) (x0_4 : Nat) (x0_5 : (List InstrS)) : Nat → Int → Option Res
  | 0, _ => none
  | m + 1, x0_1 => F_z0t_0 n k_r k_t0 x0_0 x0_3 x0_4 x0_5 (L_z0t_0 n k_r k_t0 x0_0 x0_3 x0_4 x0_5 m) x0_1
noncomputable def F_z0t_4 (n : Nat) (k_r : Bool → Option Res) (k_t4 : Unit → Option Res) (x4_1 : BlockS) (x4_3 : Nat) (x4_4 : (List InstrS)) (rec : Int → Option Res) (x4_0 : Int) : Option Res :=
 cond (decide (x4_0 < (((List.length x4_1.2.1) : Nat) : Int)))
 (cond (decide ((0 : Int) ≤ x4_0 ∧ x4_0 < ((x4_3 : Nat) : Int)))
 (cond (decide ((0 : Int) ≤ x4_0 ∧ x4_0 < (((List.length x4_1.2.1) : Nat) : Int)))
 (cond (!(((rdd zInstrS x4_4 (Int.toNat x4_0)).1 == (rdd zInstrS x4_1.2.1 (Int.toNat x4_0)).1) && (((rdd zInstrS x4_4 (Int.toNat x4_0)).2.1 == (rdd zInstrS x4_1.2.1 (Int.toNat x4_0)).2.1) && ((((rdd zInstrS x4_4 (Int.toNat x4_0)).2.2.1.1 == (rdd zInstrS x4_1.2.1 (Int.toNat x4_0)).2.2.1.1) && (((rdd zInstrS x4_4 (Int.toNat x4_0)).2.2.1.2.1 == (rdd zInstrS x4_1.2.1 (Int.toNat x4_0)).2.2.1.2.1) && true)) && ((((rdd zInstrS x4_4 (Int.toNat x4_0)).2.2.2.1.1 == (rdd zInstrS x4_1.2.1 (Int.toNat x4_0)).2.2.2.1.1) && (((rdd zInstrS x4_4 (Int.toNat x4_0)).2.2.2.1.2.1 == (rdd zInstrS x4_1.2.1 (Int.toNat x4_0)).2.2.2.1.2.1) && true)) && (((rdd zInstrS x4_4 (Int.toNat x4_0)).2.2.2.2.1 == (rdd zInstrS x4_1.2.1 (Int.toNat x4_0)).2.2.2.2.1) && true))))))
 (k_r false)
 (rec (IntKind.wrap .i64 (x4_0 + (1 : Int)))))
 (none))
 (none))
 (k_t4 ())
noncomputable def L_z0t_4 (n : Nat) (k_r : Bool → Option Res) (k_t4 : Unit → Option Res) (x4_1 : BlockS) (x4_3 : Nat) (x4_4 : (List InstrS)) : Nat → Int → Option Res
  | 0, _ => none
  | m + 1, x4_0 => F_z0t_4 n k_r k_t4 x4_1 x4_3 x4_4 (L_z0t_4 n k_r k_t4 x4_1 x4_3 x4_4 m) x4_0
noncomputable def M_z0t (n : Nat) (a0 : BlockS) : Option Res :=
 cond (decide ((((List.length a0.2.1) : Nat) : Int) > (300 : Int)))
 (let y1 : ((Bool × Unit) × Unit) := q_z0g
 cond ok_z0g
 (some (encRes ro_z0t rh_z0t ((y1.1.1, ()), ())))
 (none))
 (cond (decide ((0 + (List.length a0.2.1)) * 56 ≤ 2 ^ 46 ∧ (0 + (List.length a0.2.1)) ≤ 2 ^ 46))
 (let y2 : (((List WayS) × Unit) × Unit) := (q_z0r a0)
 cond (ok_z0r a0)
 (L_z0t_0 n
  (fun y5 => some (encRes ro_z0t rh_z0t ((y5, ()), ())))
  (fun _ => L_z0t_4 n
  (fun y6 => some (encRes ro_z0t rh_z0t ((y6, ()), ())))
  (fun _ => let y7 : ((Bool × Unit) × Unit) := (q_z0a (a0.1, ((cutL zInstrS a0.2.1 0 (0 + (List.length a0.2.1))), ())))
 cond (ok_z0a (a0.1, ((cutL zInstrS a0.2.1 0 (0 + (List.length a0.2.1))), ())))
 (let y8 : ((Bool × Unit) × Unit) := (q_z0n a0)
 cond (ok_z0n a0)
 (cond (y7.1.1 == y8.1.1)
 (let y9 : ((Int × Unit) × Unit) := (q_z0f (a0.1, ((cutL zInstrS a0.2.1 0 (0 + (List.length a0.2.1))), ())))
 cond (ok_z0f (a0.1, ((cutL zInstrS a0.2.1 0 (0 + (List.length a0.2.1))), ())))
 (let y10 : ((Int × Unit) × Unit) := (q_z0s a0)
 cond (ok_z0s a0)
 (cond (y9.1.1 == y10.1.1)
 (let y11 : ((Bool × Unit) × Unit) := q_z0g
 cond ok_z0g
 (some (encRes ro_z0t rh_z0t ((y11.1.1, ()), ())))
 (none))
 (some (encRes ro_z0t rh_z0t ((false, ()), ()))))
 (none))
 (none))
 (some (encRes ro_z0t rh_z0t ((false, ()), ()))))
 (none))
 (none))
  a0
  (0 + (List.length a0.2.1))
  a0.2.1
  n
  (0 : Int))
  y2.1.1
  a0.1
  (0 + (List.length a0.2.1))
  a0.2.1
  n
  (0 : Int))
 (none))
 (none))
noncomputable def Q_z0t (a0 : BlockS) : Option (RS ro_z0t rh_z0t) := decRes ro_z0t rh_z0t (M_z0t FUEL a0)
noncomputable def ok_z0t (a0 : BlockS) : Bool := (Q_z0t a0).isSome
noncomputable def q_z0t (a0 : BlockS) : RS ro_z0t rh_z0t := RS.get (Q_z0t a0)
end Go.AMach
