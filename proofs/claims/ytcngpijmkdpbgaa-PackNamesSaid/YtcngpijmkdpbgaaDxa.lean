/- A part of the walk. -/
import Derived.Test.YtcngpijmkdpbgaaAm21
import Derived.Test.YtcngpijmkdpbgaaAm24
namespace Go.AMach
set_option linter.unusedVariables false
set_option linter.unusedSimpArgs false
set_option linter.unnecessarySimpa false
set_option linter.unusedVariables false
abbrev ArmT : Ty := (.pair (.int .u32) (.pair (.int .i64) .unit))
abbrev ArmS : Type := (Int × (Int × Unit))
abbrev zArmS : ArmS := ((0 : Int), ((0 : Int), ()))
abbrev HeadT : Ty := (.pair (.int .i64) (.pair (.int .i64) .unit))
abbrev HeadS : Type := (Int × (Int × Unit))
abbrev zHeadS : HeadS := ((0 : Int), ((0 : Int), ()))
abbrev WordT : Ty := (.pair (.int .u64) (.pair (.int .u64) .unit))
abbrev WordS : Type := (Int × (Int × Unit))
abbrev zWordS : WordS := ((0 : Int), ((0 : Int), ()))
abbrev SpanT : Ty := (.pair (.int .i64) HeadT)
abbrev SpanS : Type := (Int × HeadS)
abbrev zSpanS : SpanS := ((0 : Int), zHeadS)
abbrev ComeT : Ty := (.pair HeadT (.pair .bool (.pair (.int .i64) .unit)))
abbrev ComeS : Type := (HeadS × (Bool × (Int × Unit)))
abbrev zComeS : ComeS := (zHeadS, (false, ((0 : Int), ())))
abbrev FieldT : Ty := (.pair (.int .i64) (.pair (.int .u8) SpanT))
abbrev FieldS : Type := (Int × (Int × SpanS))
abbrev zFieldS : FieldS := ((0 : Int), ((0 : Int), zSpanS))
abbrev NodeT : Ty := (.pair (.int .i64) (.pair (.int .i64) (.pair (.int .i64) (.pair (.int .i64) (.pair (.int .i64) (.pair (.int .i64) (.pair (.int .i64) (.pair (.slice ArmT) (.pair (.int .i64) .unit)))))))))
abbrev NodeS : Type := (Int × (Int × (Int × (Int × (Int × (Int × (Int × ((List ArmS) × (Int × Unit)))))))))
abbrev zNodeS : NodeS := ((0 : Int), ((0 : Int), ((0 : Int), ((0 : Int), ((0 : Int), ((0 : Int), ((0 : Int), ([], ((0 : Int), ())))))))))
abbrev ActT : Ty := (.pair (.int .u8) (.pair FieldT (.pair FieldT (.pair (.int .i64) (.pair WordT .unit)))))
abbrev ActS : Type := (Int × (FieldS × (FieldS × (Int × (WordS × Unit)))))
abbrev zActS : ActS := ((0 : Int), (zFieldS, (zFieldS, ((0 : Int), (zWordS, ())))))
/-! z00: turnoutlaw15_Long -/
abbrev ro_z00 : List EK := [.ty .bool]
abbrev rh_z00 : List HK := []
noncomputable def F_z00_0 (n : Nat) (k_t0 : Int → Option Res) (x0_0 : (List NodeS)) (rec : Int → Int → Option Res) (x0_1 : Int) (x0_2 : Int) : Option Res :=
 cond (decide (x0_2 < (((List.length x0_0) : Nat) : Int)))
 (cond (decide (x0_1 < (1500 : Int)))
 (cond (decide ((0 : Int) ≤ x0_2 ∧ x0_2 < (((List.length x0_0) : Nat) : Int)))
 (let y1 : Int := (if (((List.length (rdd zNodeS x0_0 (Int.toNat x0_2)).2.2.2.2.2.2.2.1) : Nat) : Int) < (1500 : Int) then (((List.length (rdd zNodeS x0_0 (Int.toNat x0_2)).2.2.2.2.2.2.2.1) : Nat) : Int) else (1500 : Int))
 rec (IntKind.wrap .i64 ((IntKind.wrap .i64 (x0_1 + (10 : Int))) + y1)) (IntKind.wrap .i64 (x0_2 + (1 : Int))))
 (none))
 (k_t0 x0_1))
 (k_t0 x0_1)
noncomputable def L_z00_0 (n : Nat) (k_t0 : Int → Option Res) (x0_0 : (List NodeS)) : Nat → Int → Int → Option Res
  | 0, _, _ => none
  | m + 1, x0_1, x0_2 => F_z00_0 n k_t0 x0_0 (L_z00_0 n k_t0 x0_0 m) x0_1 x0_2
noncomputable def M_z00 (n : Nat) (a0 : (List NodeS)) : Option Res :=
 L_z00_0 n
  (fun y2 => some (encRes ro_z00 rh_z00 (((decide (y2 ≥ (1500 : Int))), ()), ())))
  a0
  n
  (0 : Int)
  (0 : Int)
noncomputable def Q_z00 (a0 : (List NodeS)) : Option (RS ro_z00 rh_z00) := decRes ro_z00 rh_z00 (M_z00 FUEL a0)
noncomputable def ok_z00 (a0 : (List NodeS)) : Bool := (Q_z00 a0).isSome
noncomputable def q_z00 (a0 : (List NodeS)) : RS ro_z00 rh_z00 := RS.get (Q_z00 a0)
/-! z01: buf_New -/
abbrev ro_z01 : List EK := [.nul 0, .ci .i64 (5 : Int)]
abbrev rh_z01 : List HK := []
abbrev ro_z01_1 : List EK := [.ptr 0 0 0, .ci .i64 (0 : Int)]
abbrev rh_z01_1 : List HK := [.one false [.hs 1 0], .row (.int .u8)]
noncomputable def M_z01 (n : Nat) (a0 : ByteArray) : Option Res :=
 cond (decide (((ByteArray.size a0 : Nat) : Int) > (9216 : Int)))
 (some (encRes ro_z01 rh_z01 (((), ((), ())), ())))
 (some (encRes ro_z01_1 rh_z01_1 (((), ((), ())), (((ByteArray.size a0), ()), ((bytesL a0), ())))))
noncomputable def Q_z01 (a0 : ByteArray) : Option (RS ro_z01 rh_z01) := decRes ro_z01 rh_z01 (M_z01 FUEL a0)
noncomputable def Q_z01_1 (a0 : ByteArray) : Option (RS ro_z01_1 rh_z01_1) := decRes ro_z01_1 rh_z01_1 (M_z01 FUEL a0)
noncomputable def ok_z01_1 (a0 : ByteArray) : Bool := (Q_z01_1 a0).isSome
noncomputable def q_z01_1 (a0 : ByteArray) : RS ro_z01_1 rh_z01_1 := RS.get (Q_z01_1 a0)
noncomputable def ok_z01 (a0 : ByteArray) : Bool := (Q_z01 a0).isSome
noncomputable def q_z01 (a0 : ByteArray) : RS ro_z01 rh_z01 := RS.get (Q_z01 a0)
/-! z02: pack_New -/
abbrev ro_z02 : List EK := [.ptr 0 0 0, .ci .i64 (0 : Int)]
abbrev rh_z02 : List HK := [.one false [.ptr 1 0 0, .nul 4, .ptr 3 0 0, .ty (.int .i64)], .one false [.hs 2 0], .row (.int .u8), .one false [.hs 4 0], .row (.int .u8)]
abbrev ro_z02_1 : List EK := [.ptr 0 0 0, .ci .i64 (0 : Int)]
abbrev rh_z02_1 : List HK := [.one false [.ptr 1 0 0, .nul 4, .nul 0, .ty (.int .i64)], .one false [.hs 2 0], .row (.int .u8)]
abbrev ro_z02_2 : List EK := [.nul 0, .ci .i64 (10 : Int)]
abbrev rh_z02_2 : List HK := []
noncomputable def M_z02 (n : Nat) (a0 : Int) (a1 : ByteArray) : Option Res :=
 let y4 : ((Unit × (Unit × Unit)) × Unit) := (q_z01 a1)
 cond (ok_z01 a1)
 (some (encRes ro_z02_2 rh_z02_2 (((), ((), ())), ())))
 (let y1 : ((Unit × (Unit × Unit)) × ((Nat × Unit) × ((List Int) × Unit))) := (q_z01_1 a1)
 cond (ok_z01_1 a1)
 (cond (decide ((0 : Int) ≤ (32 : Int) ∧ (32 : Int) ≤ (32 : Int) ∧ (1 : Nat) * (32 : Int) ≤ (2 : Int) ^ 46))
 (let y3 : ((Unit × (Unit × Unit)) × Unit) := (q_z01 (bytesOf (mkL (Int.toNat (32 : Int)) (fun i => (0 : Int)))))
 cond (ok_z01 (bytesOf (mkL (Int.toNat (32 : Int)) (fun i => (0 : Int)))))
 (some (encRes ro_z02_1 rh_z02_1 (((), ((), ())), (((), ((), ((), (a0, ())))), ((y1.2.1.1, ()), (y1.2.2.1, ()))))))
 (let y2 : ((Unit × (Unit × Unit)) × ((Nat × Unit) × ((List Int) × Unit))) := (q_z01_1 (bytesOf (mkL (Int.toNat (32 : Int)) (fun i => (0 : Int)))))
 cond (ok_z01_1 (bytesOf (mkL (Int.toNat (32 : Int)) (fun i => (0 : Int)))))
 (some (encRes ro_z02 rh_z02 (((), ((), ())), (((), ((), ((), (a0, ())))), ((y1.2.1.1, ()), (y1.2.2.1, ((y2.2.1.1, ()), (y2.2.2.1, ()))))))))
 (none)))
 (none))
 (none))
noncomputable def Q_z02 (a0 : Int) (a1 : ByteArray) : Option (RS ro_z02 rh_z02) := decRes ro_z02 rh_z02 (M_z02 FUEL a0 a1)
noncomputable def Q_z02_1 (a0 : Int) (a1 : ByteArray) : Option (RS ro_z02_1 rh_z02_1) := decRes ro_z02_1 rh_z02_1 (M_z02 FUEL a0 a1)
noncomputable def ok_z02_1 (a0 : Int) (a1 : ByteArray) : Bool := (Q_z02_1 a0 a1).isSome
noncomputable def q_z02_1 (a0 : Int) (a1 : ByteArray) : RS ro_z02_1 rh_z02_1 := RS.get (Q_z02_1 a0 a1)
noncomputable def Q_z02_2 (a0 : Int) (a1 : ByteArray) : Option (RS ro_z02_2 rh_z02_2) := decRes ro_z02_2 rh_z02_2 (M_z02 FUEL a0 a1)
noncomputable def ok_z02_2 (a0 : Int) (a1 : ByteArray) : Bool := (Q_z02_2 a0 a1).isSome
noncomputable def q_z02_2 (a0 : Int) (a1 : ByteArray) : RS ro_z02_2 rh_z02_2 := RS.get (Q_z02_2 a0 a1)
noncomputable def ok_z02 (a0 : Int) (a1 : ByteArray) : Bool := (Q_z02 a0 a1).isSome
noncomputable def q_z02 (a0 : Int) (a1 : ByteArray) : RS ro_z02 rh_z02 := RS.get (Q_z02 a0 a1)
/-! z03: buf_Buf_Textx455 -/
abbrev ro_z03 : List EK := [.ty .str]
abbrev rh_z03 : List HK := [.one false [.hs 1 0], .row (.int .u8)]
noncomputable def M_z03 (n : Nat) (a0 : Nat) (a1 : (List Int)) : Option Res :=
 some (encRes ro_z03 rh_z03 (((bytesOf (cutL (0 : Int) a1 0 a0)), ()), ((a0, ()), (a1, ()))))
noncomputable def Q_z03 (a0 : Nat) (a1 : (List Int)) : Option (RS ro_z03 rh_z03) := decRes ro_z03 rh_z03 (M_z03 FUEL a0 a1)
noncomputable def ok_z03 (a0 : Nat) (a1 : (List Int)) : Bool := (Q_z03 a0 a1).isSome
noncomputable def q_z03 (a0 : Nat) (a1 : (List Int)) : RS ro_z03 rh_z03 := RS.get (Q_z03 a0 a1)
/-! z04: pack_Packet_Textx626 -/
abbrev ro_z04 : List EK := [.ty .str]
abbrev rh_z04 : List HK := [.one false [.ptr 1 0 0, .nul 4, .ptr 3 0 0, .ty (.int .i64)], .one false [.hs 2 0], .row (.int .u8), .one false [.hs 4 0], .row (.int .u8)]
noncomputable def M_z04 (n : Nat) (a0 : Int) (a1 : Nat) (a2 : (List Int)) (a3 : Nat) (a4 : (List Int)) : Option Res :=
 let y1 : ((ByteArray × Unit) × ((Nat × Unit) × ((List Int) × Unit))) := (q_z03 a1 a2)
 cond (ok_z03 a1 a2)
 (some (encRes ro_z04 rh_z04 ((y1.1.1, ()), (((), ((), ((), (a0, ())))), ((y1.2.1.1, ()), (y1.2.2.1, ((a3, ()), (a4, ()))))))))
 (none)
noncomputable def Q_z04 (a0 : Int) (a1 : Nat) (a2 : (List Int)) (a3 : Nat) (a4 : (List Int)) : Option (RS ro_z04 rh_z04) := decRes ro_z04 rh_z04 (M_z04 FUEL a0 a1 a2 a3 a4)
noncomputable def ok_z04 (a0 : Int) (a1 : Nat) (a2 : (List Int)) (a3 : Nat) (a4 : (List Int)) : Bool := (Q_z04 a0 a1 a2 a3 a4).isSome
noncomputable def q_z04 (a0 : Int) (a1 : Nat) (a2 : (List Int)) (a3 : Nat) (a4 : (List Int)) : RS ro_z04 rh_z04 := RS.get (Q_z04 a0 a1 a2 a3 a4)
/-! z05: graph_to -/
abbrev ro_z05 : List EK := [.ty .bool]
abbrev rh_z05 : List HK := []
noncomputable def M_z05 (n : Nat) (a0 : Int) : Option Res :=
 cond (decide (a0 ≥ (0 : Int)))
 (some (encRes ro_z05 rh_z05 (((decide (a0 ≤ (65535 : Int))), ()), ())))
 (some (encRes ro_z05 rh_z05 ((false, ()), ())))
noncomputable def Q_z05 (a0 : Int) : Option (RS ro_z05 rh_z05) := decRes ro_z05 rh_z05 (M_z05 FUEL a0)
noncomputable def ok_z05 (a0 : Int) : Bool := (Q_z05 a0).isSome
noncomputable def q_z05 (a0 : Int) : RS ro_z05 rh_z05 := RS.get (Q_z05 a0)
/-! z06: graph_span_may -/
abbrev ro_z06 : List EK := [.ty .bool]
abbrev rh_z06 : List HK := []
noncomputable def M_z06 (n : Nat) (a0 : SpanS) : Option Res :=
 cond (a0.2.1 == (0 : Int))
 (some (encRes ro_z06 rh_z06 (((a0.1 == (0 : Int)), ()), ())))
 (cond (decide (a0.2.1 > (0 : Int)))
 (cond (decide (a0.2.1 ≤ a0.2.2.1))
 (cond (decide (a0.1 ≥ (0 : Int)))
 (some (encRes ro_z06 rh_z06 (((decide (a0.1 ≤ (2048 : Int))), ()), ())))
 (some (encRes ro_z06 rh_z06 ((false, ()), ()))))
 (some (encRes ro_z06 rh_z06 ((false, ()), ()))))
 (some (encRes ro_z06 rh_z06 ((false, ()), ()))))
noncomputable def Q_z06 (a0 : SpanS) : Option (RS ro_z06 rh_z06) := decRes ro_z06 rh_z06 (M_z06 FUEL a0)
noncomputable def ok_z06 (a0 : SpanS) : Bool := (Q_z06 a0).isSome
noncomputable def q_z06 (a0 : SpanS) : RS ro_z06 rh_z06 := RS.get (Q_z06 a0)
/-! z07: graph_unit -/
abbrev ro_z07 : List EK := [.ty .bool]
abbrev rh_z07 : List HK := []
noncomputable def M_z07 (n : Nat) (a0 : NodeS) : Option Res :=
 cond (a0.2.2.2.1 == (0 : Int))
 (some (encRes ro_z07 rh_z07 (((a0.2.2.2.2.1 == (0 : Int)), ()), ())))
 (cond (decide (a0.2.2.2.2.1 ≥ (1 : Int)))
 (some (encRes ro_z07 rh_z07 (((decide (a0.2.2.2.2.1 ≤ (256 : Int))), ()), ())))
 (some (encRes ro_z07 rh_z07 ((false, ()), ()))))
noncomputable def Q_z07 (a0 : NodeS) : Option (RS ro_z07 rh_z07) := decRes ro_z07 rh_z07 (M_z07 FUEL a0)
noncomputable def ok_z07 (a0 : NodeS) : Bool := (Q_z07 a0).isSome
noncomputable def q_z07 (a0 : NodeS) : RS ro_z07 rh_z07 := RS.get (Q_z07 a0)
/-! z08: graph_Form -/
abbrev ro_z08 : List EK := [.ty .bool]
abbrev rh_z08 : List HK := []
noncomputable def F_z08_0 (n : Nat) (k_r : Bool → Option Res) (k_t0 : Unit → Option Res) (x0_0 : (List ArmS)) (x0_1 : Int) (x0_3 : NodeS) (rec : Int → Option Res) (x0_2 : Int) : Option Res :=
 cond (decide (x0_2 < x0_1))
 (cond (decide ((0 : Int) ≤ x0_2 ∧ x0_2 < (((List.length x0_0) : Nat) : Int)))
 (cond (decide ((0 : Int) ≤ x0_3.2.2.2.2.2.2.1))
 (let y5 : Int := (Int.fdiv (IntKind.wrap .u64 (rdd zArmS x0_0 (Int.toNat x0_2)).1) (2 ^ (min (Int.toNat x0_3.2.2.2.2.2.2.1) (IntKind.bits .u64))))
 cond (decide (y5 > (0 : Int)))
 (k_r false)
 (cond (x0_3.2.2.2.2.2.2.1 == (0 : Int))
 (k_r false)
 (cond (decide (x0_2 > (0 : Int)))
 (cond (decide ((0 : Int) ≤ (IntKind.wrap .i64 (x0_2 - (1 : Int))) ∧ (IntKind.wrap .i64 (x0_2 - (1 : Int))) < (((List.length x0_3.2.2.2.2.2.2.2.1) : Nat) : Int)))
 (cond (decide ((rdd zArmS x0_0 (Int.toNat x0_2)).1 ≤ (rdd zArmS x0_3.2.2.2.2.2.2.2.1 (Int.toNat (IntKind.wrap .i64 (x0_2 - (1 : Int))))).1))
 (k_r false)
 (let y6 : ((Bool × Unit) × Unit) := (q_z05 ((rdd zArmS x0_0 (Int.toNat x0_2)).2.1))
 cond (ok_z05 ((rdd zArmS x0_0 (Int.toNat x0_2)).2.1))
 (cond (!y6.1.1)
 (k_r false)
 (rec (IntKind.wrap .i64 (x0_2 + (1 : Int)))))
 (none)))
 (none))
 (let y7 : ((Bool × Unit) × Unit) := (q_z05 ((rdd zArmS x0_0 (Int.toNat x0_2)).2.1))
 cond (ok_z05 ((rdd zArmS x0_0 (Int.toNat x0_2)).2.1))
 (cond (!y7.1.1)
 (k_r false)
 (rec (IntKind.wrap .i64 (x0_2 + (1 : Int)))))
 (none)))))
 (none))
 (none))
 (k_t0 ())
noncomputable def L_z08_0 (n : Nat) (k_r : Bool → Option Res) (k_t0 : Unit → Option Res) (x0_0 : (List ArmS)) (x0_1 : Int) (x0_3 : NodeS) : Nat → Int → Option Res
  | 0, _ => none
  | m + 1, x0_2 => F_z08_0 n k_r k_t0 x0_0 x0_1 x0_3 (L_z08_0 n k_r k_t0 x0_0 x0_1 x0_3 m) x0_2
noncomputable def M_z08 (n : Nat) (a0 : NodeS) : Option Res :=
 cond (decide (a0.1 < (1 : Int)))
 (some (encRes ro_z08 rh_z08 ((false, ()), ())))
 (cond (decide (a0.1 > (65534 : Int)))
 (some (encRes ro_z08 rh_z08 ((false, ()), ())))
 (cond (decide (a0.2.1 < (0 : Int)))
 (some (encRes ro_z08 rh_z08 ((false, ()), ())))
 (cond (decide (a0.2.1 > (256 : Int)))
 (some (encRes ro_z08 rh_z08 ((false, ()), ())))
 (let y1 : ((Bool × Unit) × Unit) := (q_z05 a0.2.2.2.2.2.2.2.2.1)
 cond (ok_z05 a0.2.2.2.2.2.2.2.2.1)
 (cond (!y1.1.1)
 (some (encRes ro_z08 rh_z08 ((false, ()), ())))
 (cond (decide ((((List.length a0.2.2.2.2.2.2.2.1) : Nat) : Int) > (32 : Int)))
 (some (encRes ro_z08 rh_z08 ((false, ()), ())))
 (let y2 : ((Bool × Unit) × Unit) := (q_z06 (a0.2.2.1, (a0.2.2.2.1, ((16 : Int), ()))))
 cond (ok_z06 (a0.2.2.1, (a0.2.2.2.1, ((16 : Int), ()))))
 (cond (!y2.1.1)
 (some (encRes ro_z08 rh_z08 ((false, ()), ())))
 (let y3 : ((Bool × Unit) × Unit) := (q_z07 a0)
 cond (ok_z07 a0)
 (cond (!y3.1.1)
 (some (encRes ro_z08 rh_z08 ((false, ()), ())))
 (let y4 : ((Bool × Unit) × Unit) := (q_z06 (a0.2.2.2.2.2.1, (a0.2.2.2.2.2.2.1, ((32 : Int), ()))))
 cond (ok_z06 (a0.2.2.2.2.2.1, (a0.2.2.2.2.2.2.1, ((32 : Int), ()))))
 (cond (!y4.1.1)
 (some (encRes ro_z08 rh_z08 ((false, ()), ())))
 (L_z08_0 n
  (fun y8 => some (encRes ro_z08 rh_z08 ((y8, ()), ())))
  (fun _ => some (encRes ro_z08 rh_z08 ((true, ()), ())))
  a0.2.2.2.2.2.2.2.1
  (((List.length a0.2.2.2.2.2.2.2.1) : Nat) : Int)
  a0
  n
  (0 : Int)))
 (none)))
 (none)))
 (none))))
 (none)))))
noncomputable def Q_z08 (a0 : NodeS) : Option (RS ro_z08 rh_z08) := decRes ro_z08 rh_z08 (M_z08 FUEL a0)
noncomputable def ok_z08 (a0 : NodeS) : Bool := (Q_z08 a0).isSome
noncomputable def q_z08 (a0 : NodeS) : RS ro_z08 rh_z08 := RS.get (Q_z08 a0)
/-! z09: graph_form -/
abbrev ro_z09 : List EK := [.ty .bool]
abbrev rh_z09 : List HK := []
noncomputable def F_z09_0 (n : Nat) (k_r : Bool → Option Res) (k_t0 : Unit → Option Res) (x0_0 : (List NodeS)) (x0_1 : (List NodeS)) (x0_2 : Int) (rec : Int → Option Res) (x0_3 : Int) : Option Res :=
 cond (decide (x0_3 < x0_2))
 (cond (decide ((0 : Int) ≤ x0_3 ∧ x0_3 < (((List.length x0_1) : Nat) : Int)))
 (let y1 : ((Bool × Unit) × Unit) := (q_z08 (rdd zNodeS x0_1 (Int.toNat x0_3)))
 cond (ok_z08 (rdd zNodeS x0_1 (Int.toNat x0_3)))
 (cond (!y1.1.1)
 (k_r false)
 (cond (decide (x0_3 > (0 : Int)))
 (cond (decide ((0 : Int) ≤ (IntKind.wrap .i64 (x0_3 - (1 : Int))) ∧ (IntKind.wrap .i64 (x0_3 - (1 : Int))) < (((List.length x0_0) : Nat) : Int)))
 (cond (decide ((rdd zNodeS x0_1 (Int.toNat x0_3)).1 ≤ (rdd zNodeS x0_0 (Int.toNat (IntKind.wrap .i64 (x0_3 - (1 : Int))))).1))
 (k_r false)
 (rec (IntKind.wrap .i64 (x0_3 + (1 : Int)))))
 (none))
 (rec (IntKind.wrap .i64 (x0_3 + (1 : Int))))))
 (none))
 (none))
 (k_t0 ())
noncomputable def L_z09_0 (n : Nat) (k_r : Bool → Option Res) (k_t0 : Unit → Option Res) (x0_0 : (List NodeS)) (x0_1 : (List NodeS)) (x0_2 : Int) : Nat → Int → Option Res
  | 0, _ => none
  | m + 1, x0_3 => F_z09_0 n k_r k_t0 x0_0 x0_1 x0_2 (L_z09_0 n k_r k_t0 x0_0 x0_1 x0_2 m) x0_3
noncomputable def M_z09 (n : Nat) (a0 : (List NodeS)) : Option Res :=
 L_z09_0 n
  (fun y2 => some (encRes ro_z09 rh_z09 ((y2, ()), ())))
  (fun _ => some (encRes ro_z09 rh_z09 ((true, ()), ())))
  a0
  a0
  (((List.length a0) : Nat) : Int)
  n
  (0 : Int)
noncomputable def Q_z09 (a0 : (List NodeS)) : Option (RS ro_z09 rh_z09) := decRes ro_z09 rh_z09 (M_z09 FUEL a0)
noncomputable def ok_z09 (a0 : (List NodeS)) : Bool := (Q_z09 a0).isSome
noncomputable def q_z09 (a0 : (List NodeS)) : RS ro_z09 rh_z09 := RS.get (Q_z09 a0)
/-! z0a: graph_goes -/
abbrev ro_z0a : List EK := [.hs 0 0]
abbrev rh_z0a : List HK := [.row (.int .i64)]
noncomputable def F_z0a_0 (n : Nat) (k_t0 : Nat → (List Int) → Option Res) (x0_1 : (List ArmS)) (x0_2 : Int) (rec : Nat → Int → (List Int) → Option Res) (x0_0 : Nat) (x0_3 : Int) (x0_4 : (List Int)) : Option Res :=
 cond (decide (x0_3 < x0_2))
 (cond (decide ((0 : Int) ≤ x0_3 ∧ x0_3 < (((List.length x0_1) : Nat) : Int)))
 (cond (decide (((List.length (cutL (0 : Int) x0_4 0 x0_0)) + 1) * 8 ≤ 2 ^ 46 ∧ ((List.length (cutL (0 : Int) x0_4 0 x0_0)) + 1) ≤ 2 ^ 46))
 (rec ((List.length (cutL (0 : Int) x0_4 0 x0_0)) + 1) (IntKind.wrap .i64 (x0_3 + (1 : Int))) ((cutL (0 : Int) x0_4 0 x0_0) ++ [(rdd zArmS x0_1 (Int.toNat x0_3)).2.1]))
 (none))
 (none))
 (k_t0 x0_0 x0_4)
noncomputable def L_z0a_0 (n : Nat) (k_t0 : Nat → (List Int) → Option Res) (x0_1 : (List ArmS)) (x0_2 : Int) : Nat → Nat → Int → (List Int) → Option Res
  | 0, _, _, _ => none
  | m + 1, x0_0, x0_3, x0_4 => F_z0a_0 n k_t0 x0_1 x0_2 (L_z0a_0 n k_t0 x0_1 x0_2 m) x0_0 x0_3 x0_4
noncomputable def M_z0a (n : Nat) (a0 : NodeS) : Option Res :=
 L_z0a_0 n
  (fun y1 y2 => some (encRes ro_z0a rh_z0a ((y1, ()), (y2, ()))))
  a0.2.2.2.2.2.2.2.1
  (((List.length a0.2.2.2.2.2.2.2.1) : Nat) : Int)
  n
  1
  (0 : Int)
  ([a0.2.2.2.2.2.2.2.2.1])
noncomputable def Q_z0a (a0 : NodeS) : Option (RS ro_z0a rh_z0a) := decRes ro_z0a rh_z0a (M_z0a FUEL a0)
noncomputable def ok_z0a (a0 : NodeS) : Bool := (Q_z0a a0).isSome
noncomputable def q_z0a (a0 : NodeS) : RS ro_z0a rh_z0a := RS.get (Q_z0a a0)
/-! z0b: graph_Find -/
abbrev ro_z0b : List EK := [.agg NodeT, .ty .bool]
abbrev rh_z0b : List HK := []
noncomputable def F_z0b_0 (n : Nat) (k_r : Bool → NodeS → Option Res) (k_t0 : Unit → Option Res) (x0_0 : Int) (x0_1 : (List NodeS)) (x0_2 : Int) (x0_4 : NodeS) (rec : Int → Option Res) (x0_3 : Int) : Option Res :=
 cond (decide (x0_3 < x0_2))
 (cond (decide ((0 : Int) ≤ x0_3 ∧ x0_3 < (((List.length x0_1) : Nat) : Int)))
 (cond ((rdd zNodeS x0_1 (Int.toNat x0_3)).1 == x0_0)
 (k_r true (rdd zNodeS x0_1 (Int.toNat x0_3)))
 (rec (IntKind.wrap .i64 (x0_3 + (1 : Int)))))
 (none))
 (k_t0 ())
noncomputable def L_z0b_0 (n : Nat) (k_r : Bool → NodeS → Option Res) (k_t0 : Unit → Option Res) (x0_0 : Int) (x0_1 : (List NodeS)) (x0_2 : Int) (x0_4 : NodeS) : Nat → Int → Option Res
  | 0, _ => none
  | m + 1, x0_3 => F_z0b_0 n k_r k_t0 x0_0 x0_1 x0_2 x0_4 (L_z0b_0 n k_r k_t0 x0_0 x0_1 x0_2 x0_4 m) x0_3
noncomputable def M_z0b (n : Nat) (a0 : (List NodeS)) (a1 : Int) : Option Res :=
 L_z0b_0 n
  (fun y1 y2 => some (encRes ro_z0b rh_z0b ((y2, (y1, ())), ())))
  (fun _ => some (encRes ro_z0b rh_z0b ((((0 : Int), ((0 : Int), ((0 : Int), ((0 : Int), ((0 : Int), ((0 : Int), ((0 : Int), ([], ((0 : Int), ()))))))))), (false, ())), ())))
  a1
  a0
  (((List.length a0) : Nat) : Int)
  ((0 : Int), ((0 : Int), ((0 : Int), ((0 : Int), ((0 : Int), ((0 : Int), ((0 : Int), ([], ((0 : Int), ())))))))))
  n
  (0 : Int)
noncomputable def Q_z0b (a0 : (List NodeS)) (a1 : Int) : Option (RS ro_z0b rh_z0b) := decRes ro_z0b rh_z0b (M_z0b FUEL a0 a1)
noncomputable def ok_z0b (a0 : (List NodeS)) (a1 : Int) : Bool := (Q_z0b a0 a1).isSome
noncomputable def q_z0b (a0 : (List NodeS)) (a1 : Int) : RS ro_z0b rh_z0b := RS.get (Q_z0b a0 a1)
/-! z0c: graph_refs -/
abbrev ro_z0c : List EK := [.ty .bool]
abbrev rh_z0c : List HK := []
noncomputable def F_z0c_2 (n : Nat) (k_r : Bool → Option Res) (k_t2 : Unit → Option Res) (x2_0 : (List NodeS)) (x2_1 : (List NodeS)) (x2_2 : Int) (x2_3 : Int) (x2_4 : Nat) (x2_5 : Int) (x2_7 : (List Int)) (rec : Int → Option Res) (x2_6 : Int) : Option Res :=
 cond (decide (x2_6 < x2_5))
 (cond (decide ((0 : Int) ≤ x2_6 ∧ x2_6 < ((x2_4 : Nat) : Int)))
 (let y2 : ((NodeS × (Bool × Unit)) × Unit) := (q_z0b x2_0 (rdd (0 : Int) x2_7 (Int.toNat x2_6)))
 cond (ok_z0b x2_0 (rdd (0 : Int) x2_7 (Int.toNat x2_6)))
 (cond (!y2.1.2.1)
 (cond ((rdd (0 : Int) x2_7 (Int.toNat x2_6)) != (0 : Int))
 (cond ((rdd (0 : Int) x2_7 (Int.toNat x2_6)) != (65535 : Int))
 (k_r false)
 (rec (IntKind.wrap .i64 (x2_6 + (1 : Int)))))
 (rec (IntKind.wrap .i64 (x2_6 + (1 : Int)))))
 (rec (IntKind.wrap .i64 (x2_6 + (1 : Int)))))
 (none))
 (none))
 (k_t2 ())
noncomputable def L_z0c_2 (n : Nat) (k_r : Bool → Option Res) (k_t2 : Unit → Option Res) (x2_0 : (List NodeS)) (x2_1 : (List NodeS)) (x2_2 : Int) (x2_3 : Int) (x2_4 : Nat) (x2_5 : Int) (x2_7 : (List Int)) : Nat → Int → Option Res
  | 0, _ => none
  | m + 1, x2_6 => F_z0c_2 n k_r k_t2 x2_0 x2_1 x2_2 x2_3 x2_4 x2_5 x2_7 (L_z0c_2 n k_r k_t2 x2_0 x2_1 x2_2 x2_3 x2_4 x2_5 x2_7 m) x2_6
noncomputable def F_z0c_0 (n : Nat) (k_r : Bool → Option Res) (k_t0 : Unit → Option Res) (x0_0 : (List NodeS)) (x0_1 : (List NodeS)) (x0_2 : Int) (rec : Int → Option Res) (x0_3 : Int) : Option Res :=
 cond (decide (x0_3 < x0_2))
 (cond (decide ((0 : Int) ≤ x0_3 ∧ x0_3 < (((List.length x0_1) : Nat) : Int)))
 (let y1 : ((Nat × Unit) × ((List Int) × Unit)) := (q_z0a (rdd zNodeS x0_1 (Int.toNat x0_3)))
 cond (ok_z0a (rdd zNodeS x0_1 (Int.toNat x0_3)))
 (L_z0c_2 n
  (fun y3 => k_r y3)
  (fun _ => rec (IntKind.wrap .i64 (x0_3 + (1 : Int))))
  x0_0
  x0_1
  x0_2
  x0_3
  y1.1.1
  ((y1.1.1 : Nat) : Int)
  y1.2.1
  n
  (0 : Int))
 (none))
 (none))
 (k_t0 ())
noncomputable def L_z0c_0 (n : Nat) (k_r : Bool → Option Res) (k_t0 : Unit → Option Res) (x0_0 : (List NodeS)) (x0_1 : (List NodeS)) (x0_2 : Int) : Nat → Int → Option Res
  | 0, _ => none
  | m + 1, x0_3 => F_z0c_0 n k_r k_t0 x0_0 x0_1 x0_2 (L_z0c_0 n k_r k_t0 x0_0 x0_1 x0_2 m) x0_3
noncomputable def M_z0c (n : Nat) (a0 : (List NodeS)) : Option Res :=
 L_z0c_0 n
  (fun y4 => some (encRes ro_z0c rh_z0c ((y4, ()), ())))
  (fun _ => some (encRes ro_z0c rh_z0c ((true, ()), ())))
  a0
  a0
  (((List.length a0) : Nat) : Int)
  n
  (0 : Int)
noncomputable def Q_z0c (a0 : (List NodeS)) : Option (RS ro_z0c rh_z0c) := decRes ro_z0c rh_z0c (M_z0c FUEL a0)
noncomputable def ok_z0c (a0 : (List NodeS)) : Bool := (Q_z0c a0).isSome
noncomputable def q_z0c (a0 : (List NodeS)) : RS ro_z0c rh_z0c := RS.get (Q_z0c a0)
/-! z0d: graph_longest_walk -/
abbrev ro_z0d : List EK := [.ty (.int .i64)]
abbrev rh_z0d : List HK := [.one true [.ty (.slice NodeT)], .one false [.mp 2], .mf (.int .i64) (.int .i64), .one true [.ty .bool], .one false [.mp 5], .mf (.int .i64) (.int .i64), .one false [.fn 81 [(0, 0, 0), (1, 0, 0), (3, 0, 0), (4, 0, 0), (6, 0, 0)]]]
noncomputable def F_z0d_1 (n : Nat) (qr_z0d : Int → (List NodeS) → (Int → Option (Int)) → Bool → (Int → Option (Int)) → Option (RS ro_z0d rh_z0d)) (k_t1 : Int → (List NodeS) → (Int → Option (Int)) → Bool → (Int → Option (Int)) → Option Res) (x1_0 : Int) (x1_2 : Nat) (x1_3 : Int) (x1_9 : (List Int)) (rec : Int → Int → (List NodeS) → (Int → Option (Int)) → Bool → (Int → Option (Int)) → Option Res) (x1_1 : Int) (x1_4 : Int) (x1_5 : (List NodeS)) (x1_6 : (Int → Option (Int))) (x1_7 : Bool) (x1_8 : (Int → Option (Int))) : Option Res :=
 cond (decide (x1_4 < x1_3))
 (cond (decide ((0 : Int) ≤ x1_4 ∧ x1_4 < ((x1_2 : Nat) : Int)))
 (let y3 : ((Int × Unit) × (((List NodeS) × Unit) × ((Unit × Unit) × ((Int → Option (Int)) × ((Bool × Unit) × ((Unit × Unit) × ((Int → Option (Int)) × ((Unit × Unit) × Unit)))))))) := (RS.get (qr_z0d (rdd (0 : Int) x1_9 (Int.toNat x1_4)) x1_5 x1_6 x1_7 x1_8))
 cond (Option.isSome (qr_z0d (rdd (0 : Int) x1_9 (Int.toNat x1_4)) x1_5 x1_6 x1_7 x1_8))
 (rec (if y3.1.1 > x1_1 then y3.1.1 else x1_1) (IntKind.wrap .i64 (x1_4 + (1 : Int))) y3.2.1.1 y3.2.2.2.1 y3.2.2.2.2.1.1 y3.2.2.2.2.2.2.1)
 (none))
 (none))
 (k_t1 x1_1 x1_5 x1_6 x1_7 x1_8)
noncomputable def L_z0d_1 (n : Nat) (qr_z0d : Int → (List NodeS) → (Int → Option (Int)) → Bool → (Int → Option (Int)) → Option (RS ro_z0d rh_z0d)) (k_t1 : Int → (List NodeS) → (Int → Option (Int)) → Bool → (Int → Option (Int)) → Option Res) (x1_0 : Int) (x1_2 : Nat) (x1_3 : Int) (x1_9 : (List Int)) : Nat → Int → Int → (List NodeS) → (Int → Option (Int)) → Bool → (Int → Option (Int)) → Option Res
  | 0, _, _, _, _, _, _ => none
  | m + 1, x1_1, x1_4, x1_5, x1_6, x1_7, x1_8 => F_z0d_1 n qr_z0d k_t1 x1_0 x1_2 x1_3 x1_9 (L_z0d_1 n qr_z0d k_t1 x1_0 x1_2 x1_3 x1_9 m) x1_1 x1_4 x1_5 x1_6 x1_7 x1_8
noncomputable def M_z0d (n : Nat) (qr_z0d : Int → (List NodeS) → (Int → Option (Int)) → Bool → (Int → Option (Int)) → Option (RS ro_z0d rh_z0d)) (a0 : Int) (a1 : (List NodeS)) (a2 : (Int → Option (Int))) (a3 : Bool) (a4 : (Int → Option (Int))) : Option Res :=
 let y1 : ((NodeS × (Bool × Unit)) × Unit) := (q_z0b a1 a0)
 cond (ok_z0b a1 a0)
 (cond (!y1.1.2.1)
 (some (encRes ro_z0d rh_z0d (((0 : Int), ()), ((a1, ()), (((), ()), (a2, ((a3, ()), (((), ()), (a4, (((), ()), ()))))))))))
 (cond (decide ((Option.getD (a2 a0) (0 : Int)) > (0 : Int)))
 (some (encRes ro_z0d rh_z0d (((0 : Int), ()), ((a1, ()), (((), ()), (a2, ((false, ()), (((), ()), (a4, (((), ()), ()))))))))))
 (cond (decide ((Option.getD (a4 a0) (0 : Int)) > (0 : Int)))
 (some (encRes ro_z0d rh_z0d (((Option.getD (a4 a0) (0 : Int)), ()), ((a1, ()), (((), ()), (a2, ((a3, ()), (((), ()), (a4, (((), ()), ()))))))))))
 (let y2 : ((Nat × Unit) × ((List Int) × Unit)) := (q_z0a y1.1.1)
 cond (ok_z0a y1.1.1)
 (L_z0d_1 n qr_z0d
  (fun y4 y5 y6 y7 y8 => some (encRes ro_z0d rh_z0d (((IntKind.wrap .i64 (y4 + (1 : Int))), ()), ((y5, ()), (((), ()), ((fun i => cond (decide (i = a0)) (some (IntKind.wrap .i64 ((Option.getD (y6 a0) (0 : Int)) - (1 : Int)))) (y6 i)), ((y7, ()), (((), ()), ((fun i => cond (decide (i = a0)) (some (IntKind.wrap .i64 (y4 + (1 : Int)))) (y8 i)), (((), ()), ()))))))))))
  a0
  y2.1.1
  ((y2.1.1 : Nat) : Int)
  y2.2.1
  n
  (0 : Int)
  (0 : Int)
  a1
  (fun i => cond (decide (i = a0)) (some (IntKind.wrap .i64 ((Option.getD (a2 a0) (0 : Int)) + (1 : Int)))) (a2 i))
  a3
  a4)
 (none)))))
 (none)
noncomputable def Qd_z0d : Nat → Int → (List NodeS) → (Int → Option (Int)) → Bool → (Int → Option (Int)) → Option (RS ro_z0d rh_z0d)
  | 0, _, _, _, _, _ => none
  | dp + 1, a0, a1, a2, a3, a4 => decRes ro_z0d rh_z0d (M_z0d FUEL (Qd_z0d dp) a0 a1 a2 a3 a4)
noncomputable def Q_z0d (a0 : Int) (a1 : (List NodeS)) (a2 : (Int → Option (Int))) (a3 : Bool) (a4 : (Int → Option (Int))) : Option (RS ro_z0d rh_z0d) := Qd_z0d FUEL a0 a1 a2 a3 a4
noncomputable def ok_z0d (a0 : Int) (a1 : (List NodeS)) (a2 : (Int → Option (Int))) (a3 : Bool) (a4 : (Int → Option (Int))) : Bool := (Q_z0d a0 a1 a2 a3 a4).isSome
noncomputable def q_z0d (a0 : Int) (a1 : (List NodeS)) (a2 : (Int → Option (Int))) (a3 : Bool) (a4 : (Int → Option (Int))) : RS ro_z0d rh_z0d := RS.get (Q_z0d a0 a1 a2 a3 a4)
/-! z0e: graph_longest -/
abbrev ro_z0e : List EK := [.fn 81 [(0, 0, 0), (1, 0, 0), (3, 0, 0), (4, 0, 0), (6, 0, 0)], .ty .bool]
abbrev rh_z0e : List HK := [.one true [.ty (.slice NodeT)], .one false [.mp 2], .mf (.int .i64) (.int .i64), .one true [.ty .bool], .one false [.mp 5], .mf (.int .i64) (.int .i64), .one false [.fn 81 [(0, 0, 0), (1, 0, 0), (3, 0, 0), (4, 0, 0), (6, 0, 0)]]]
noncomputable def F_z0e_0 (n : Nat) (k_t0 : Bool → (List NodeS) → (Int → Option (Int)) → (Int → Option (Int)) → Option Res) (x0_0 : (List NodeS)) (x0_1 : Int) (rec : Int → Bool → (List NodeS) → (Int → Option (Int)) → (Int → Option (Int)) → Option Res) (x0_2 : Int) (x0_3 : Bool) (x0_4 : (List NodeS)) (x0_5 : (Int → Option (Int))) (x0_6 : (Int → Option (Int))) : Option Res :=
 cond (decide (x0_2 < x0_1))
 (cond (decide ((0 : Int) ≤ x0_2 ∧ x0_2 < (((List.length x0_0) : Nat) : Int)))
 (let y1 : ((Int × Unit) × (((List NodeS) × Unit) × ((Unit × Unit) × ((Int → Option (Int)) × ((Bool × Unit) × ((Unit × Unit) × ((Int → Option (Int)) × ((Unit × Unit) × Unit)))))))) := (q_z0d ((rdd zNodeS x0_0 (Int.toNat x0_2)).1) x0_4 x0_5 x0_3 x0_6)
 cond (ok_z0d ((rdd zNodeS x0_0 (Int.toNat x0_2)).1) x0_4 x0_5 x0_3 x0_6)
 (rec (IntKind.wrap .i64 (x0_2 + (1 : Int))) y1.2.2.2.2.1.1 y1.2.1.1 y1.2.2.2.1 y1.2.2.2.2.2.2.1)
 (none))
 (none))
 (k_t0 x0_3 x0_4 x0_5 x0_6)
noncomputable def L_z0e_0 (n : Nat) (k_t0 : Bool → (List NodeS) → (Int → Option (Int)) → (Int → Option (Int)) → Option Res) (x0_0 : (List NodeS)) (x0_1 : Int) : Nat → Int → Bool → (List NodeS) → (Int → Option (Int)) → (Int → Option (Int)) → Option Res
  | 0, _, _, _, _, _ => none
  | m + 1, x0_2, x0_3, x0_4, x0_5, x0_6 => F_z0e_0 n k_t0 x0_0 x0_1 (L_z0e_0 n k_t0 x0_0 x0_1 m) x0_2 x0_3 x0_4 x0_5 x0_6
noncomputable def M_z0e (n : Nat) (a0 : (List NodeS)) : Option Res :=
 L_z0e_0 n
  (fun y2 y3 y4 y5 => some (encRes ro_z0e rh_z0e (((), (y2, ())), ((y3, ()), (((), ()), (y4, ((y2, ()), (((), ()), (y5, (((), ()), ()))))))))))
  a0
  (((List.length a0) : Nat) : Int)
  n
  (0 : Int)
  true
  a0
  (fun _ => none)
  (fun _ => none)
noncomputable def Q_z0e (a0 : (List NodeS)) : Option (RS ro_z0e rh_z0e) := decRes ro_z0e rh_z0e (M_z0e FUEL a0)
noncomputable def ok_z0e (a0 : (List NodeS)) : Bool := (Q_z0e a0).isSome
noncomputable def q_z0e (a0 : (List NodeS)) : RS ro_z0e rh_z0e := RS.get (Q_z0e a0)
/-! z0f: graph_May -/
abbrev ro_z0f : List EK := [.ty (.int .i64)]
abbrev rh_z0f : List HK := []
noncomputable def M_z0f (n : Nat) (a0 : (List NodeS)) : Option Res :=
 let y1 : ((Bool × Unit) × Unit) := (q_z09 a0)
 cond (ok_z09 a0)
 (cond (!y1.1.1)
 (some (encRes ro_z0f rh_z0f (((3 : Int), ()), ())))
 (cond (decide ((((List.length a0) : Nat) : Int) > (32 : Int)))
 (some (encRes ro_z0f rh_z0f (((12 : Int), ()), ())))
 (let y2 : ((Bool × Unit) × Unit) := (q_z0c a0)
 cond (ok_z0c a0)
 (cond (!y2.1.1)
 (some (encRes ro_z0f rh_z0f (((8 : Int), ()), ())))
 (let y3 : ((Unit × (Bool × Unit)) × (((List NodeS) × Unit) × ((Unit × Unit) × ((Int → Option (Int)) × ((Bool × Unit) × ((Unit × Unit) × ((Int → Option (Int)) × ((Unit × Unit) × Unit)))))))) := (q_z0e a0)
 cond (ok_z0e a0)
 (cond (!y3.1.2.1)
 (some (encRes ro_z0f rh_z0f (((10 : Int), ()), ())))
 (some (encRes ro_z0f rh_z0f (((0 : Int), ()), ()))))
 (none)))
 (none))))
 (none)
noncomputable def Q_z0f (a0 : (List NodeS)) : Option (RS ro_z0f rh_z0f) := decRes ro_z0f rh_z0f (M_z0f FUEL a0)
noncomputable def ok_z0f (a0 : (List NodeS)) : Bool := (Q_z0f a0).isSome
noncomputable def q_z0f (a0 : (List NodeS)) : RS ro_z0f rh_z0f := RS.get (Q_z0f a0)
/-! z0g: walk_steps -/
abbrev ro_z0g : List EK := [.fn 75 [(0, 0, 0), (1, 0, 0)]]
abbrev rh_z0g : List HK := [.one true [.ty (.slice NodeT)], .one true [.ty .str]]
noncomputable def M_z0g (n : Nat) (a0 : (List NodeS)) (a1 : ByteArray) : Option Res :=
 some (encRes ro_z0g rh_z0g (((), ()), ((a0, ()), ((a1, ()), ()))))
noncomputable def Q_z0g (a0 : (List NodeS)) (a1 : ByteArray) : Option (RS ro_z0g rh_z0g) := decRes ro_z0g rh_z0g (M_z0g FUEL a0 a1)
noncomputable def ok_z0g (a0 : (List NodeS)) (a1 : ByteArray) : Bool := (Q_z0g a0 a1).isSome
noncomputable def q_z0g (a0 : (List NodeS)) (a1 : ByteArray) : RS ro_z0g rh_z0g := RS.get (Q_z0g a0 a1)
/-! z0h: walk_may -/
abbrev ro_z0h : List EK := [.ty .bool]
abbrev rh_z0h : List HK := []
noncomputable def M_z0h (n : Nat) (a0 : NodeS) : Option Res :=
 cond (decide (a0.2.1 < (0 : Int)))
 (some (encRes ro_z0h rh_z0h ((false, ()), ())))
 (cond (decide (a0.2.1 > (256 : Int)))
 (some (encRes ro_z0h rh_z0h ((false, ()), ())))
 (cond (decide (a0.2.2.1 < (0 : Int)))
 (some (encRes ro_z0h rh_z0h ((false, ()), ())))
 (cond (decide (a0.2.2.1 > (2048 : Int)))
 (some (encRes ro_z0h rh_z0h ((false, ()), ())))
 (cond (decide (a0.2.2.2.1 < (0 : Int)))
 (some (encRes ro_z0h rh_z0h ((false, ()), ())))
 (cond (decide (a0.2.2.2.1 > (16 : Int)))
 (some (encRes ro_z0h rh_z0h ((false, ()), ())))
 (cond (a0.2.2.2.1 == (0 : Int))
 (cond (a0.2.2.1 == (0 : Int))
 (some (encRes ro_z0h rh_z0h (((a0.2.2.2.2.1 == (0 : Int)), ()), ())))
 (some (encRes ro_z0h rh_z0h ((false, ()), ()))))
 (cond (decide (a0.2.2.2.2.1 ≥ (1 : Int)))
 (some (encRes ro_z0h rh_z0h (((decide (a0.2.2.2.2.1 ≤ (256 : Int))), ()), ())))
 (some (encRes ro_z0h rh_z0h ((false, ()), ()))))))))))
noncomputable def Q_z0h (a0 : NodeS) : Option (RS ro_z0h rh_z0h) := decRes ro_z0h rh_z0h (M_z0h FUEL a0)
noncomputable def ok_z0h (a0 : NodeS) : Bool := (Q_z0h a0).isSome
noncomputable def q_z0h (a0 : NodeS) : RS ro_z0h rh_z0h := RS.get (Q_z0h a0)
/-! z0i: field_may -/
abbrev ro_z0i : List EK := [.ty (.int .i64)]
abbrev rh_z0i : List HK := []
noncomputable def M_z0i (n : Nat) (a0 : ByteArray) (a1 : Int) (a2 : Int) : Option Res :=
 cond (decide (a2 < (1 : Int)))
 (some (encRes ro_z0i rh_z0i (((1 : Int), ()), ())))
 (cond (decide (a2 > (128 : Int)))
 (some (encRes ro_z0i rh_z0i (((1 : Int), ()), ())))
 (cond (decide (a1 < (0 : Int)))
 (some (encRes ro_z0i rh_z0i (((1 : Int), ()), ())))
 (let y1 : Int := (IntKind.wrap .i64 ((IntKind.wrap .i64 ((8 : Int) * ((ByteArray.size a0 : Nat) : Int))) - a2))
 cond (decide (a1 > y1))
 (some (encRes ro_z0i rh_z0i (((4 : Int), ()), ())))
 (some (encRes ro_z0i rh_z0i (((0 : Int), ()), ()))))))
noncomputable def Q_z0i (a0 : ByteArray) (a1 : Int) (a2 : Int) : Option (RS ro_z0i rh_z0i) := decRes ro_z0i rh_z0i (M_z0i FUEL a0 a1 a2)
noncomputable def ok_z0i (a0 : ByteArray) (a1 : Int) (a2 : Int) : Bool := (Q_z0i a0 a1 a2).isSome
noncomputable def q_z0i (a0 : ByteArray) (a1 : Int) (a2 : Int) : RS ro_z0i rh_z0i := RS.get (Q_z0i a0 a1 a2)
/-! z0j: word_Left -/
abbrev ro_z0j : List EK := [.agg WordT]
abbrev rh_z0j : List HK := []
noncomputable def M_z0j (n : Nat) (a0 : WordS) (a1 : Int) : Option Res :=
 cond (decide (a1 ≤ (0 : Int)))
 (some (encRes ro_z0j rh_z0j ((a0, ()), ())))
 (cond (decide (a1 ≥ (64 : Int)))
 (cond (decide ((0 : Int) ≤ (IntKind.wrap .i64 (a1 - (64 : Int)))))
 (let y1 : Int := (IntKind.wrap .u64 (a0.2.1 * 2 ^ (min (Int.toNat (IntKind.wrap .i64 (a1 - (64 : Int)))) (IntKind.bits .u64))))
 some (encRes ro_z0j rh_z0j (((y1, ((0 : Int), ())), ()), ())))
 (none))
 (cond (decide ((0 : Int) ≤ a1))
 (cond (decide ((0 : Int) ≤ (IntKind.wrap .i64 ((64 : Int) - a1))))
 (let y2 : Int := (Int.fdiv a0.2.1 (2 ^ (min (Int.toNat (IntKind.wrap .i64 ((64 : Int) - a1))) (IntKind.bits .u64))))
 let y3 : Int := (IntKind.wrap .u64 (BitVec.toNat (BitVec.ofInt (IntKind.bits .u64) (IntKind.wrap .u64 (a0.1 * 2 ^ (min (Int.toNat a1) (IntKind.bits .u64)))) ||| BitVec.ofInt (IntKind.bits .u64) y2) : Nat))
 cond (decide ((0 : Int) ≤ a1))
 (some (encRes ro_z0j rh_z0j (((y3, ((IntKind.wrap .u64 (a0.2.1 * 2 ^ (min (Int.toNat a1) (IntKind.bits .u64)))), ())), ()), ())))
 (none))
 (none))
 (none)))
noncomputable def Q_z0j (a0 : WordS) (a1 : Int) : Option (RS ro_z0j rh_z0j) := decRes ro_z0j rh_z0j (M_z0j FUEL a0 a1)
noncomputable def ok_z0j (a0 : WordS) (a1 : Int) : Bool := (Q_z0j a0 a1).isSome
noncomputable def q_z0j (a0 : WordS) (a1 : Int) : RS ro_z0j rh_z0j := RS.get (Q_z0j a0 a1)
/-! z0k: word_New -/
abbrev ro_z0k : List EK := [.agg WordT]
abbrev rh_z0k : List HK := []
noncomputable def M_z0k (n : Nat) (a0 : Int) : Option Res :=
 some (encRes ro_z0k rh_z0k ((((0 : Int), (a0, ())), ()), ()))
noncomputable def Q_z0k (a0 : Int) : Option (RS ro_z0k rh_z0k) := decRes ro_z0k rh_z0k (M_z0k FUEL a0)
noncomputable def ok_z0k (a0 : Int) : Bool := (Q_z0k a0).isSome
noncomputable def q_z0k (a0 : Int) : RS ro_z0k rh_z0k := RS.get (Q_z0k a0)
/-! z0l: word_Or -/
abbrev ro_z0l : List EK := [.agg WordT]
abbrev rh_z0l : List HK := []
noncomputable def M_z0l (n : Nat) (a0 : WordS) (a1 : WordS) : Option Res :=
 let y1 : Int := (IntKind.wrap .u64 (BitVec.toNat (BitVec.ofInt (IntKind.bits .u64) a0.1 ||| BitVec.ofInt (IntKind.bits .u64) a1.1) : Nat))
 let y2 : Int := (IntKind.wrap .u64 (BitVec.toNat (BitVec.ofInt (IntKind.bits .u64) a0.2.1 ||| BitVec.ofInt (IntKind.bits .u64) a1.2.1) : Nat))
 some (encRes ro_z0l rh_z0l (((y1, (y2, ())), ()), ()))
noncomputable def Q_z0l (a0 : WordS) (a1 : WordS) : Option (RS ro_z0l rh_z0l) := decRes ro_z0l rh_z0l (M_z0l FUEL a0 a1)
noncomputable def ok_z0l (a0 : WordS) (a1 : WordS) : Bool := (Q_z0l a0 a1).isSome
noncomputable def q_z0l (a0 : WordS) (a1 : WordS) : RS ro_z0l rh_z0l := RS.get (Q_z0l a0 a1)
/-! z0m: word_Not -/
abbrev ro_z0m : List EK := [.agg WordT]
abbrev rh_z0m : List HK := []
noncomputable def M_z0m (n : Nat) (a0 : WordS) : Option Res :=
 let y1 : Int := (IntKind.wrap .u64 (BitVec.toNat (BitVec.ofInt (IntKind.bits .u64) (IntKind.max .u64) ^^^ BitVec.ofInt (IntKind.bits .u64) a0.1) : Nat))
 let y2 : Int := (IntKind.wrap .u64 (BitVec.toNat (BitVec.ofInt (IntKind.bits .u64) (IntKind.max .u64) ^^^ BitVec.ofInt (IntKind.bits .u64) a0.2.1) : Nat))
 some (encRes ro_z0m rh_z0m (((y1, (y2, ())), ()), ()))
noncomputable def Q_z0m (a0 : WordS) : Option (RS ro_z0m rh_z0m) := decRes ro_z0m rh_z0m (M_z0m FUEL a0)
noncomputable def ok_z0m (a0 : WordS) : Bool := (Q_z0m a0).isSome
noncomputable def q_z0m (a0 : WordS) : RS ro_z0m rh_z0m := RS.get (Q_z0m a0)
/-! z0n: word_Right -/
abbrev ro_z0n : List EK := [.agg WordT]
abbrev rh_z0n : List HK := []
noncomputable def M_z0n (n : Nat) (a0 : WordS) (a1 : Int) : Option Res :=
 cond (decide (a1 ≤ (0 : Int)))
 (some (encRes ro_z0n rh_z0n ((a0, ()), ())))
 (cond (decide (a1 ≥ (64 : Int)))
 (cond (decide ((0 : Int) ≤ (IntKind.wrap .i64 (a1 - (64 : Int)))))
 (let y1 : Int := (Int.fdiv a0.1 (2 ^ (min (Int.toNat (IntKind.wrap .i64 (a1 - (64 : Int)))) (IntKind.bits .u64))))
 some (encRes ro_z0n rh_z0n ((((0 : Int), (y1, ())), ()), ())))
 (none))
 (cond (decide ((0 : Int) ≤ a1))
 (cond (decide ((0 : Int) ≤ a1))
 (cond (decide ((0 : Int) ≤ (IntKind.wrap .i64 ((64 : Int) - a1))))
 (let y2 : Int := (IntKind.wrap .u64 (a0.1 * 2 ^ (min (Int.toNat (IntKind.wrap .i64 ((64 : Int) - a1))) (IntKind.bits .u64))))
 let y3 : Int := (IntKind.wrap .u64 (BitVec.toNat (BitVec.ofInt (IntKind.bits .u64) (Int.fdiv a0.2.1 (2 ^ (min (Int.toNat a1) (IntKind.bits .u64)))) ||| BitVec.ofInt (IntKind.bits .u64) y2) : Nat))
 some (encRes ro_z0n rh_z0n ((((Int.fdiv a0.1 (2 ^ (min (Int.toNat a1) (IntKind.bits .u64)))), (y3, ())), ()), ())))
 (none))
 (none))
 (none)))
noncomputable def Q_z0n (a0 : WordS) (a1 : Int) : Option (RS ro_z0n rh_z0n) := decRes ro_z0n rh_z0n (M_z0n FUEL a0 a1)
noncomputable def ok_z0n (a0 : WordS) (a1 : Int) : Bool := (Q_z0n a0 a1).isSome
noncomputable def q_z0n (a0 : WordS) (a1 : Int) : RS ro_z0n rh_z0n := RS.get (Q_z0n a0 a1)
/-! z0o: word_Mask -/
abbrev ro_z0o : List EK := [.agg WordT]
abbrev rh_z0o : List HK := []
noncomputable def M_z0o (n : Nat) (a0 : Int) : Option Res :=
 let y1 : ((WordS × Unit) × Unit) := (q_z0m ((0 : Int), ((0 : Int), ())))
 cond (ok_z0m ((0 : Int), ((0 : Int), ())))
 (let y2 : Int := (if (128 : Int) < (if (0 : Int) > a0 then (0 : Int) else a0) then (128 : Int) else (if (0 : Int) > a0 then (0 : Int) else a0))
 let y3 : ((WordS × Unit) × Unit) := (q_z0n y1.1.1 (IntKind.wrap .i64 ((128 : Int) - y2)))
 cond (ok_z0n y1.1.1 (IntKind.wrap .i64 ((128 : Int) - y2)))
 (some (encRes ro_z0o rh_z0o ((y3.1.1, ()), ())))
 (none))
 (none)
noncomputable def Q_z0o (a0 : Int) : Option (RS ro_z0o rh_z0o) := decRes ro_z0o rh_z0o (M_z0o FUEL a0)
noncomputable def ok_z0o (a0 : Int) : Bool := (Q_z0o a0).isSome
noncomputable def q_z0o (a0 : Int) : RS ro_z0o rh_z0o := RS.get (Q_z0o a0)
/-! z0p: word_And -/
abbrev ro_z0p : List EK := [.agg WordT]
abbrev rh_z0p : List HK := []
noncomputable def M_z0p (n : Nat) (a0 : WordS) (a1 : WordS) : Option Res :=
 let y1 : Int := (IntKind.wrap .u64 (BitVec.toNat (BitVec.ofInt (IntKind.bits .u64) a0.1 &&& BitVec.ofInt (IntKind.bits .u64) a1.1) : Nat))
 let y2 : Int := (IntKind.wrap .u64 (BitVec.toNat (BitVec.ofInt (IntKind.bits .u64) a0.2.1 &&& BitVec.ofInt (IntKind.bits .u64) a1.2.1) : Nat))
 some (encRes ro_z0p rh_z0p (((y1, (y2, ())), ()), ()))
noncomputable def Q_z0p (a0 : WordS) (a1 : WordS) : Option (RS ro_z0p rh_z0p) := decRes ro_z0p rh_z0p (M_z0p FUEL a0 a1)
noncomputable def ok_z0p (a0 : WordS) (a1 : WordS) : Bool := (Q_z0p a0 a1).isSome
noncomputable def q_z0p (a0 : WordS) (a1 : WordS) : RS ro_z0p rh_z0p := RS.get (Q_z0p a0 a1)
/-! z0q: word_Cut -/
abbrev ro_z0q : List EK := [.agg WordT]
abbrev rh_z0q : List HK := []
noncomputable def M_z0q (n : Nat) (a0 : WordS) (a1 : Int) : Option Res :=
 let y1 : ((WordS × Unit) × Unit) := (q_z0o a1)
 cond (ok_z0o a1)
 (let y2 : ((WordS × Unit) × Unit) := (q_z0p a0 y1.1.1)
 cond (ok_z0p a0 y1.1.1)
 (some (encRes ro_z0q rh_z0q ((y2.1.1, ()), ())))
 (none))
 (none)
noncomputable def Q_z0q (a0 : WordS) (a1 : Int) : Option (RS ro_z0q rh_z0q) := decRes ro_z0q rh_z0q (M_z0q FUEL a0 a1)
noncomputable def ok_z0q (a0 : WordS) (a1 : Int) : Bool := (Q_z0q a0 a1).isSome
noncomputable def q_z0q (a0 : WordS) (a1 : Int) : RS ro_z0q rh_z0q := RS.get (Q_z0q a0 a1)
/-! z0r: field_Get -/
abbrev ro_z0r : List EK := [.agg WordT, .ty (.int .i64)]
abbrev rh_z0r : List HK := []
noncomputable def F_z0r_0 (n : Nat) (k_t0 : WordS → Option Res) (x0_0 : ByteArray) (x0_1 : Int) (x0_2 : Int) (x0_3 : Int) (x0_4 : Int) (x0_5 : Int) (x0_7 : WordS) (rec : Int → WordS → Option Res) (x0_6 : Int) (x0_8 : WordS) : Option Res :=
 cond (decide (x0_6 < x0_5))
 (let y4 : ((WordS × Unit) × Unit) := (q_z0j x0_8 (8 : Int))
 cond (ok_z0j x0_8 (8 : Int))
 (cond (decide ((0 : Int) ≤ (IntKind.wrap .i64 (x0_3 + x0_6)) ∧ (IntKind.wrap .i64 (x0_3 + x0_6)) < ((ByteArray.size x0_0 : Nat) : Int)))
 (let y5 : ((WordS × Unit) × Unit) := (q_z0k (IntKind.wrap .u64 (byteAt x0_0 (Int.toNat (IntKind.wrap .i64 (x0_3 + x0_6))))))
 cond (ok_z0k (IntKind.wrap .u64 (byteAt x0_0 (Int.toNat (IntKind.wrap .i64 (x0_3 + x0_6))))))
 (let y6 : ((WordS × Unit) × Unit) := (q_z0l y4.1.1 y5.1.1)
 cond (ok_z0l y4.1.1 y5.1.1)
 (rec (IntKind.wrap .i64 (x0_6 + (1 : Int))) y6.1.1)
 (none))
 (none))
 (none))
 (none))
 (k_t0 x0_8)
noncomputable def L_z0r_0 (n : Nat) (k_t0 : WordS → Option Res) (x0_0 : ByteArray) (x0_1 : Int) (x0_2 : Int) (x0_3 : Int) (x0_4 : Int) (x0_5 : Int) (x0_7 : WordS) : Nat → Int → WordS → Option Res
  | 0, _, _ => none
  | m + 1, x0_6, x0_8 => F_z0r_0 n k_t0 x0_0 x0_1 x0_2 x0_3 x0_4 x0_5 x0_7 (L_z0r_0 n k_t0 x0_0 x0_1 x0_2 x0_3 x0_4 x0_5 x0_7 m) x0_6 x0_8
noncomputable def M_z0r (n : Nat) (a0 : ByteArray) (a1 : Int) (a2 : Int) : Option Res :=
 let y1 : ((Int × Unit) × Unit) := (q_z0i a0 a1 a2)
 cond (ok_z0i a0 a1 a2)
 (cond (y1.1.1 != (0 : Int))
 (some (encRes ro_z0r rh_z0r ((((0 : Int), ((0 : Int), ())), (y1.1.1, ())), ())))
 (cond ((8 : Int) != 0)
 (let y2 : Int := (IntKind.wrap .i64 ((IntKind.wrap .i64 ((IntKind.wrap .i64 (a1 + a2)) + (8 : Int))) - (1 : Int)))
 cond ((8 : Int) != 0)
 (let y3 : Int := (IntKind.wrap .i64 ((IntKind.wrap .i64 (Int.tdiv y2 (8 : Int))) - (IntKind.wrap .i64 (Int.tdiv a1 (8 : Int)))))
 L_z0r_0 n
  (fun y7 => let y8 : Int := (IntKind.wrap .i64 ((IntKind.wrap .i64 ((IntKind.wrap .i64 (Int.tdiv y2 (8 : Int))) * (8 : Int))) - a1))
 let y9 : ((WordS × Unit) × Unit) := (q_z0j y7 (IntKind.wrap .i64 ((8 : Int) - (IntKind.wrap .i64 (y8 - a2)))))
 cond (ok_z0j y7 (IntKind.wrap .i64 ((8 : Int) - (IntKind.wrap .i64 (y8 - a2)))))
 (cond (decide ((0 : Int) ≤ (IntKind.wrap .i64 ((IntKind.wrap .i64 (Int.tdiv y2 (8 : Int))) - (1 : Int))) ∧ (IntKind.wrap .i64 ((IntKind.wrap .i64 (Int.tdiv y2 (8 : Int))) - (1 : Int))) < ((ByteArray.size a0 : Nat) : Int)))
 (let y10 : Int := (byteAt a0 (Int.toNat (IntKind.wrap .i64 ((IntKind.wrap .i64 (Int.tdiv y2 (8 : Int))) - (1 : Int)))))
 cond (decide ((0 : Int) ≤ (IntKind.wrap .i64 (y8 - a2))))
 (let y11 : Int := (IntKind.wrap .u64 (Int.fdiv y10 (2 ^ (min (Int.toNat (IntKind.wrap .i64 (y8 - a2))) (IntKind.bits .u8)))))
 let y12 : ((WordS × Unit) × Unit) := (q_z0k y11)
 cond (ok_z0k y11)
 (let y13 : ((WordS × Unit) × Unit) := (q_z0l y9.1.1 y12.1.1)
 cond (ok_z0l y9.1.1 y12.1.1)
 (let y14 : ((WordS × Unit) × Unit) := (q_z0q y13.1.1 a2)
 cond (ok_z0q y13.1.1 a2)
 (some (encRes ro_z0r rh_z0r ((y14.1.1, ((0 : Int), ())), ())))
 (none))
 (none))
 (none))
 (none))
 (none))
 (none))
  a0
  a1
  a2
  (IntKind.wrap .i64 (Int.tdiv a1 (8 : Int)))
  (IntKind.wrap .i64 (Int.tdiv y2 (8 : Int)))
  (IntKind.wrap .i64 (y3 - (1 : Int)))
  ((0 : Int), ((0 : Int), ()))
  n
  (0 : Int)
  ((0 : Int), ((0 : Int), ())))
 (none))
 (none)))
 (none)
noncomputable def Q_z0r (a0 : ByteArray) (a1 : Int) (a2 : Int) : Option (RS ro_z0r rh_z0r) := decRes ro_z0r rh_z0r (M_z0r FUEL a0 a1 a2)
noncomputable def ok_z0r (a0 : ByteArray) (a1 : Int) (a2 : Int) : Bool := (Q_z0r a0 a1 a2).isSome
noncomputable def q_z0r (a0 : ByteArray) (a1 : Int) (a2 : Int) : RS ro_z0r rh_z0r := RS.get (Q_z0r a0 a1 a2)
/-! z0s: walk_number -/
abbrev ro_z0s : List EK := [.ty (.int .i64), .ty .bool]
abbrev rh_z0s : List HK := []
noncomputable def M_z0s (n : Nat) (a0 : ByteArray) (a1 : Int) (a2 : Int) (a3 : Int) : Option Res :=
 cond (decide (a1 < (0 : Int)))
 (some (encRes ro_z0s rh_z0s (((0 : Int), (false, ())), ())))
 (cond (decide (a1 > ((ByteArray.size a0 : Nat) : Int)))
 (some (encRes ro_z0s rh_z0s (((0 : Int), (false, ())), ())))
 (cond (decide ((0 : Int) ≤ a1 ∧ a1 ≤ ((ByteArray.size a0 : Nat) : Int) ∧ ((ByteArray.size a0 : Nat) : Int) ≤ ((ByteArray.size a0 : Nat) : Int)))
 (let y1 : ByteArray := (ByteArray.extract a0 (Int.toNat a1) (Int.toNat ((ByteArray.size a0 : Nat) : Int)))
 let y2 : ((WordS × (Int × Unit)) × Unit) := (q_z0r y1 a2 a3)
 cond (ok_z0r y1 a2 a3)
 (some (encRes ro_z0s rh_z0s (((IntKind.wrap .i64 y2.1.1.2.1), ((y2.1.2.1 == (0 : Int)), ())), ())))
 (none))
 (none)))
noncomputable def Q_z0s (a0 : ByteArray) (a1 : Int) (a2 : Int) (a3 : Int) : Option (RS ro_z0s rh_z0s) := decRes ro_z0s rh_z0s (M_z0s FUEL a0 a1 a2 a3)
noncomputable def ok_z0s (a0 : ByteArray) (a1 : Int) (a2 : Int) (a3 : Int) : Bool := (Q_z0s a0 a1 a2 a3).isSome
noncomputable def q_z0s (a0 : ByteArray) (a1 : Int) (a2 : Int) (a3 : Int) : RS ro_z0s rh_z0s := RS.get (Q_z0s a0 a1 a2 a3)
/-! z0t: walk_Size -/
abbrev ro_z0t : List EK := [.ty (.int .i64), .ty (.int .i64)]
abbrev rh_z0t : List HK := []
noncomputable def M_z0t (n : Nat) (a0 : NodeS) (a1 : ByteArray) (a2 : Int) : Option Res :=
 let y1 : ((Bool × Unit) × Unit) := (q_z0h a0)
 cond (ok_z0h a0)
 (cond (!y1.1.1)
 (some (encRes ro_z0t rh_z0t (((0 : Int), ((4 : Int), ())), ())))
 (cond (decide (a0.2.2.2.1 > (0 : Int)))
 (let y2 : ((Int × (Bool × Unit)) × Unit) := (q_z0s a1 a2 a0.2.2.1 a0.2.2.2.1)
 cond (ok_z0s a1 a2 a0.2.2.1 a0.2.2.2.1)
 (cond (!y2.1.2.1)
 (some (encRes ro_z0t rh_z0t (((0 : Int), ((1 : Int), ())), ())))
 (cond (decide ((IntKind.wrap .i64 (a0.2.1 + (IntKind.wrap .i64 (a0.2.2.2.2.1 * y2.1.1)))) > (256 : Int)))
 (some (encRes ro_z0t rh_z0t (((0 : Int), ((2 : Int), ())), ())))
 (cond (decide (a2 < (0 : Int)))
 (some (encRes ro_z0t rh_z0t (((0 : Int), ((1 : Int), ())), ())))
 (cond (decide (a2 > ((ByteArray.size a1 : Nat) : Int)))
 (some (encRes ro_z0t rh_z0t (((0 : Int), ((1 : Int), ())), ())))
 (cond (decide ((IntKind.wrap .i64 (a0.2.1 + (IntKind.wrap .i64 (a0.2.2.2.2.1 * y2.1.1)))) > (IntKind.wrap .i64 (((ByteArray.size a1 : Nat) : Int) - a2))))
 (some (encRes ro_z0t rh_z0t (((0 : Int), ((1 : Int), ())), ())))
 (some (encRes ro_z0t rh_z0t (((IntKind.wrap .i64 (a0.2.1 + (IntKind.wrap .i64 (a0.2.2.2.2.1 * y2.1.1)))), ((0 : Int), ())), ()))))))))
 (none))
 (cond (decide (a0.2.1 > (256 : Int)))
 (some (encRes ro_z0t rh_z0t (((0 : Int), ((2 : Int), ())), ())))
 (cond (decide (a2 < (0 : Int)))
 (some (encRes ro_z0t rh_z0t (((0 : Int), ((1 : Int), ())), ())))
 (cond (decide (a2 > ((ByteArray.size a1 : Nat) : Int)))
 (some (encRes ro_z0t rh_z0t (((0 : Int), ((1 : Int), ())), ())))
 (cond (decide (a0.2.1 > (IntKind.wrap .i64 (((ByteArray.size a1 : Nat) : Int) - a2))))
 (some (encRes ro_z0t rh_z0t (((0 : Int), ((1 : Int), ())), ())))
 (some (encRes ro_z0t rh_z0t ((a0.2.1, ((0 : Int), ())), ())))))))))
 (none)
noncomputable def Q_z0t (a0 : NodeS) (a1 : ByteArray) (a2 : Int) : Option (RS ro_z0t rh_z0t) := decRes ro_z0t rh_z0t (M_z0t FUEL a0 a1 a2)
noncomputable def ok_z0t (a0 : NodeS) (a1 : ByteArray) (a2 : Int) : Bool := (Q_z0t a0 a1 a2).isSome
noncomputable def q_z0t (a0 : NodeS) (a1 : ByteArray) (a2 : Int) : RS ro_z0t rh_z0t := RS.get (Q_z0t a0 a1 a2)
/-! z0u: graph_Next -/
abbrev ro_z0u : List EK := [.ty (.int .i64)]
abbrev rh_z0u : List HK := []
noncomputable def F_z0u_0 (n : Nat) (k_r : Int → Option Res) (k_t0 : Unit → Option Res) (x0_0 : Int) (x0_1 : (List ArmS)) (x0_2 : Int) (x0_4 : NodeS) (rec : Int → Option Res) (x0_3 : Int) : Option Res :=
 cond (decide (x0_3 < x0_2))
 (cond (decide ((0 : Int) ≤ x0_3 ∧ x0_3 < (((List.length x0_1) : Nat) : Int)))
 (cond ((rdd zArmS x0_1 (Int.toNat x0_3)).1 == x0_0)
 (k_r ((rdd zArmS x0_1 (Int.toNat x0_3)).2.1))
 (rec (IntKind.wrap .i64 (x0_3 + (1 : Int)))))
 (none))
 (k_t0 ())
noncomputable def L_z0u_0 (n : Nat) (k_r : Int → Option Res) (k_t0 : Unit → Option Res) (x0_0 : Int) (x0_1 : (List ArmS)) (x0_2 : Int) (x0_4 : NodeS) : Nat → Int → Option Res
  | 0, _ => none
  | m + 1, x0_3 => F_z0u_0 n k_r k_t0 x0_0 x0_1 x0_2 x0_4 (L_z0u_0 n k_r k_t0 x0_0 x0_1 x0_2 x0_4 m) x0_3
noncomputable def M_z0u (n : Nat) (a0 : (List NodeS)) (a1 : Int) (a2 : Int) : Option Res :=
 let y1 : ((NodeS × (Bool × Unit)) × Unit) := (q_z0b a0 a1)
 cond (ok_z0b a0 a1)
 (L_z0u_0 n
  (fun y2 => some (encRes ro_z0u rh_z0u ((y2, ()), ())))
  (fun _ => some (encRes ro_z0u rh_z0u ((y1.1.1.2.2.2.2.2.2.2.2.1, ()), ())))
  a2
  y1.1.1.2.2.2.2.2.2.2.1
  (((List.length y1.1.1.2.2.2.2.2.2.2.1) : Nat) : Int)
  y1.1.1
  n
  (0 : Int))
 (none)
noncomputable def Q_z0u (a0 : (List NodeS)) (a1 : Int) (a2 : Int) : Option (RS ro_z0u rh_z0u) := decRes ro_z0u rh_z0u (M_z0u FUEL a0 a1 a2)
noncomputable def ok_z0u (a0 : (List NodeS)) (a1 : Int) (a2 : Int) : Bool := (Q_z0u a0 a1 a2).isSome
noncomputable def q_z0u (a0 : (List NodeS)) (a1 : Int) (a2 : Int) : RS ro_z0u rh_z0u := RS.get (Q_z0u a0 a1 a2)
/-! z0v: walk_next -/
abbrev ro_z0v : List EK := [.ty (.int .i64), .ty (.int .i64)]
abbrev rh_z0v : List HK := []
noncomputable def M_z0v (n : Nat) (a0 : (List NodeS)) (a1 : NodeS) (a2 : ByteArray) (a3 : Int) : Option Res :=
 cond (decide (a1.2.2.2.2.2.2.1 > (0 : Int)))
 (let y1 : ((Int × (Bool × Unit)) × Unit) := (q_z0s a2 a3 a1.2.2.2.2.2.1 a1.2.2.2.2.2.2.1)
 cond (ok_z0s a2 a3 a1.2.2.2.2.2.1 a1.2.2.2.2.2.2.1)
 (cond (!y1.1.2.1)
 (some (encRes ro_z0v rh_z0v (((0 : Int), ((1 : Int), ())), ())))
 (let y2 : ((Int × Unit) × Unit) := (q_z0u a0 a1.1 (IntKind.wrap .u32 y1.1.1))
 cond (ok_z0u a0 a1.1 (IntKind.wrap .u32 y1.1.1))
 (cond (y2.1.1 == (65535 : Int))
 (some (encRes ro_z0v rh_z0v (((0 : Int), ((4 : Int), ())), ())))
 (some (encRes ro_z0v rh_z0v ((y2.1.1, ((0 : Int), ())), ()))))
 (none)))
 (none))
 (let y3 : ((Int × Unit) × Unit) := (q_z0u a0 a1.1 (IntKind.wrap .u32 (0 : Int)))
 cond (ok_z0u a0 a1.1 (IntKind.wrap .u32 (0 : Int)))
 (cond (y3.1.1 == (65535 : Int))
 (some (encRes ro_z0v rh_z0v (((0 : Int), ((4 : Int), ())), ())))
 (some (encRes ro_z0v rh_z0v ((y3.1.1, ((0 : Int), ())), ()))))
 (none))
noncomputable def Q_z0v (a0 : (List NodeS)) (a1 : NodeS) (a2 : ByteArray) (a3 : Int) : Option (RS ro_z0v rh_z0v) := decRes ro_z0v rh_z0v (M_z0v FUEL a0 a1 a2 a3)
noncomputable def ok_z0v (a0 : (List NodeS)) (a1 : NodeS) (a2 : ByteArray) (a3 : Int) : Bool := (Q_z0v a0 a1 a2 a3).isSome
noncomputable def q_z0v (a0 : (List NodeS)) (a1 : NodeS) (a2 : ByteArray) (a3 : Int) : RS ro_z0v rh_z0v := RS.get (Q_z0v a0 a1 a2 a3)
/-! z0w: walk_steps_1 -/
abbrev ro_z0w : List EK := []
abbrev rh_z0w : List HK := [.lp 0 [.junk, .junk, .junk, .junk, .junk, .junk, .junk, .ptr 1 0 0, .ptr 3 0 0, .ptr 4 0 0, .junk, .junk, .junk, .junk, .junk, .junk, .junk, .junk, .junk, .junk, .junk, .junk, .junk, .junk, .junk, .junk, .junk, .junk, .junk, .junk, .junk, .junk], .one false [.hs 7 0], .gone, .one true [.ty (.int .i64)], .one true [.ty (.int .i64)], .one true [.ty (.slice NodeT)], .one true [.ty .str], .row HeadT]
noncomputable def F_z0w_0 (n : Nat) (k_r : Nat → Int → Int → (List HeadS) → Option Res) (k_t0 : Nat → Int → Int → (List HeadS) → Option Res) (x0_5 : (List NodeS)) (x0_6 : ByteArray) (rec : Int → Bool → Nat → Int → Int → (List HeadS) → NodeS → Option Res) (x0_0 : Int) (x0_1 : Bool) (x0_2 : Nat) (x0_3 : Int) (x0_4 : Int) (x0_7 : (List HeadS)) (x0_8 : NodeS) : Option Res :=
 cond x0_1
 (let y2 : ((Int × (Int × Unit)) × Unit) := (q_z0t x0_8 x0_6 x0_0)
 cond (ok_z0t x0_8 x0_6 x0_0)
 (cond (y2.1.2.1 != (0 : Int))
 (k_r x0_2 (IntKind.wrap .i64 (x0_3 + (1 : Int))) y2.1.2.1 x0_7)
 (let y3 : ((Int × (Int × Unit)) × Unit) := (q_z0v x0_5 x0_8 x0_6 x0_0)
 cond (ok_z0v x0_5 x0_8 x0_6 x0_0)
 (cond (decide (((List.length (cutL zHeadS x0_7 0 x0_2)) + 1) * 16 ≤ 2 ^ 46 ∧ ((List.length (cutL zHeadS x0_7 0 x0_2)) + 1) ≤ 2 ^ 46))
 (cond (!true)
 (k_r ((List.length (cutL zHeadS x0_7 0 x0_2)) + 1) (IntKind.wrap .i64 (x0_3 + (1 : Int))) y3.1.2.1 ((cutL zHeadS x0_7 0 x0_2) ++ [(x0_8.1, (x0_0, ()))]))
 (cond (y3.1.2.1 != (0 : Int))
 (k_r ((List.length (cutL zHeadS x0_7 0 x0_2)) + 1) (IntKind.wrap .i64 (x0_3 + (1 : Int))) y3.1.2.1 ((cutL zHeadS x0_7 0 x0_2) ++ [(x0_8.1, (x0_0, ()))]))
 (let y4 : ((NodeS × (Bool × Unit)) × Unit) := (q_z0b x0_5 y3.1.1)
 cond (ok_z0b x0_5 y3.1.1)
 (rec (IntKind.wrap .i64 (x0_0 + y2.1.1)) y4.1.2.1 ((List.length (cutL zHeadS x0_7 0 x0_2)) + 1) (IntKind.wrap .i64 (x0_3 + (1 : Int))) y3.1.2.1 ((cutL zHeadS x0_7 0 x0_2) ++ [(x0_8.1, (x0_0, ()))]) y4.1.1)
 (none))))
 (none))
 (none)))
 (none))
 (k_t0 x0_2 x0_3 x0_4 x0_7)
noncomputable def L_z0w_0 (n : Nat) (k_r : Nat → Int → Int → (List HeadS) → Option Res) (k_t0 : Nat → Int → Int → (List HeadS) → Option Res) (x0_5 : (List NodeS)) (x0_6 : ByteArray) : Nat → Int → Bool → Nat → Int → Int → (List HeadS) → NodeS → Option Res
  | 0, _, _, _, _, _, _, _ => none
  | m + 1, x0_0, x0_1, x0_2, x0_3, x0_4, x0_7, x0_8 => F_z0w_0 n k_r k_t0 x0_5 x0_6 (L_z0w_0 n k_r k_t0 x0_5 x0_6 m) x0_0 x0_1 x0_2 x0_3 x0_4 x0_7 x0_8
noncomputable def M_z0w (n : Nat) (a0 : Nat) (a1 : (List HeadS)) (a2 : Int) (a3 : Int) (a4 : (List NodeS)) (a5 : ByteArray) : Option Res :=
 let y1 : ((NodeS × (Bool × Unit)) × Unit) := (q_z0b a4 (1 : Int))
 cond (ok_z0b a4 (1 : Int))
 (L_z0w_0 n
  (fun y5 y6 y7 y8 => some (encRes ro_z0w rh_z0w ((), (((), ((), ((), ((), ((), ((), ((), ((), ((), ((), ((), ((), ((), ((), ((), ((), ((), ((), ((), ((), ((), ((), ((), ((), ((), ((), ((), ((), ((), ((), ((), ((), ())))))))))))))))))))))))))))))))), ((y5, ()), ((), ((y6, ()), ((y7, ()), ((a4, ()), ((a5, ()), (y8, ())))))))))))
  (fun y9 y10 y11 y12 => some (encRes ro_z0w rh_z0w ((), (((), ((), ((), ((), ((), ((), ((), ((), ((), ((), ((), ((), ((), ((), ((), ((), ((), ((), ((), ((), ((), ((), ((), ((), ((), ((), ((), ((), ((), ((), ((), ((), ())))))))))))))))))))))))))))))))), ((y9, ()), ((), ((y10, ()), ((y11, ()), ((a4, ()), ((a5, ()), (y12, ())))))))))))
  a4
  a5
  n
  (0 : Int)
  y1.1.2.1
  a0
  a2
  a3
  a1
  y1.1.1)
 (none)
noncomputable def Q_z0w (a0 : Nat) (a1 : (List HeadS)) (a2 : Int) (a3 : Int) (a4 : (List NodeS)) (a5 : ByteArray) : Option (RS ro_z0w rh_z0w) := decRes ro_z0w rh_z0w (M_z0w FUEL a0 a1 a2 a3 a4 a5)
noncomputable def ok_z0w (a0 : Nat) (a1 : (List HeadS)) (a2 : Int) (a3 : Int) (a4 : (List NodeS)) (a5 : ByteArray) : Bool := (Q_z0w a0 a1 a2 a3 a4 a5).isSome
noncomputable def q_z0w (a0 : Nat) (a1 : (List HeadS)) (a2 : Int) (a3 : Int) (a4 : (List NodeS)) (a5 : ByteArray) : RS ro_z0w rh_z0w := RS.get (Q_z0w a0 a1 a2 a3 a4 a5)
/-! z0x: walk_Walk -/
abbrev ro_z0x : List EK := [.hs 0 0, .ty (.int .i64), .ty (.int .i64)]
abbrev rh_z0x : List HK := [.row HeadT]
noncomputable def M_z0x (n : Nat) (a0 : (List NodeS)) (a1 : ByteArray) : Option Res :=
 let y1 : ((Int × Unit) × Unit) := (q_z0f a0)
 cond (ok_z0f a0)
 (cond (y1.1.1 != (0 : Int))
 (some (encRes ro_z0x rh_z0x ((0, ((0 : Int), ((0 : Int), ()))), ([], ()))))
 (let y2 : ((Unit × Unit) × (((List NodeS) × Unit) × ((ByteArray × Unit) × Unit))) := (q_z0g a0 a1)
 cond (ok_z0g a0 a1)
 (let y3 : (Unit × ((Unit × (Unit × (Unit × (Unit × (Unit × (Unit × (Unit × (Unit × (Unit × (Unit × (Unit × (Unit × (Unit × (Unit × (Unit × (Unit × (Unit × (Unit × (Unit × (Unit × (Unit × (Unit × (Unit × (Unit × (Unit × (Unit × (Unit × (Unit × (Unit × (Unit × (Unit × (Unit × Unit)))))))))))))))))))))))))))))))) × ((Nat × Unit) × (Unit × ((Int × Unit) × ((Int × Unit) × (((List NodeS) × Unit) × ((ByteArray × Unit) × ((List HeadS) × Unit))))))))) := (q_z0w 0 ([]) (0 : Int) (0 : Int) y2.2.1.1 y2.2.2.1.1)
 cond (ok_z0w 0 ([]) (0 : Int) (0 : Int) y2.2.1.1 y2.2.2.1.1)
 (some (encRes ro_z0x rh_z0x ((y3.2.2.1.1, (y3.2.2.2.2.1.1, (y3.2.2.2.2.2.1.1, ()))), (y3.2.2.2.2.2.2.2.2.1, ()))))
 (none))
 (none)))
 (none)
noncomputable def Q_z0x (a0 : (List NodeS)) (a1 : ByteArray) : Option (RS ro_z0x rh_z0x) := decRes ro_z0x rh_z0x (M_z0x FUEL a0 a1)
noncomputable def ok_z0x (a0 : (List NodeS)) (a1 : ByteArray) : Bool := (Q_z0x a0 a1).isSome
noncomputable def q_z0x (a0 : (List NodeS)) (a1 : ByteArray) : RS ro_z0x rh_z0x := RS.get (Q_z0x a0 a1)
/-! z0y: pack_Packet_Walkx81b -/
abbrev ro_z0y : List EK := [.ty (.int .i64), .ty (.int .i64)]
abbrev rh_z0y : List HK := [.one false [.ptr 1 0 0, .hs 5 0, .ptr 3 0 0, .ty (.int .i64)], .one false [.hs 2 0], .row (.int .u8), .one false [.hs 4 0], .row (.int .u8), .row HeadT]
noncomputable def M_z0y (n : Nat) (a0 : (List NodeS)) (a1 : Int) (a2 : Nat) (a3 : (List Int)) (a4 : Nat) (a5 : (List Int)) : Option Res :=
 let y1 : ((ByteArray × Unit) × ((Unit × (Unit × (Unit × (Int × Unit)))) × ((Nat × Unit) × ((List Int) × ((Nat × Unit) × ((List Int) × Unit)))))) := (q_z04 a1 a2 a3 a4 a5)
 cond (ok_z04 a1 a2 a3 a4 a5)
 (let y2 : ((Nat × (Int × (Int × Unit))) × ((List HeadS) × Unit)) := (q_z0x a0 y1.1.1)
 cond (ok_z0x a0 y1.1.1)
 (some (encRes ro_z0y rh_z0y ((y2.1.2.1, (y2.1.2.2.1, ())), (((), (y2.1.1, ((), (y1.2.1.2.2.2.1, ())))), ((y1.2.2.1.1, ()), (y1.2.2.2.1, ((y1.2.2.2.2.1.1, ()), (y1.2.2.2.2.2.1, (y2.2.1, ())))))))))
 (none))
 (none)
noncomputable def Q_z0y (a0 : (List NodeS)) (a1 : Int) (a2 : Nat) (a3 : (List Int)) (a4 : Nat) (a5 : (List Int)) : Option (RS ro_z0y rh_z0y) := decRes ro_z0y rh_z0y (M_z0y FUEL a0 a1 a2 a3 a4 a5)
noncomputable def ok_z0y (a0 : (List NodeS)) (a1 : Int) (a2 : Nat) (a3 : (List Int)) (a4 : Nat) (a5 : (List Int)) : Bool := (Q_z0y a0 a1 a2 a3 a4 a5).isSome
noncomputable def q_z0y (a0 : (List NodeS)) (a1 : Int) (a2 : Nat) (a3 : (List Int)) (a4 : Nat) (a5 : (List Int)) : RS ro_z0y rh_z0y := RS.get (Q_z0y a0 a1 a2 a3 a4 a5)
/-! z0z: turnoutlaw17_of -/
abbrev ro_z0z : List EK := [.nul 0]
abbrev rh_z0z : List HK := []
abbrev ro_z0z_1 : List EK := [.ptr 0 0 0]
abbrev rh_z0z_1 : List HK := [.one false [.ptr 1 0 0, .hs 3 0, .ptr 4 0 0, .ty (.int .i64)], .one false [.hs 2 0], .row (.int .u8), .row HeadT, .one false [.hs 5 0], .row (.int .u8)]
noncomputable def M_z0z (n : Nat) (a0 : ByteArray) (a1 : (List NodeS)) : Option Res :=
 cond (decide (((ByteArray.size a0 : Nat) : Int) > (4000 : Int)))
 (some (encRes ro_z0z rh_z0z (((), ()), ())))
 (let y1 : ((Bool × Unit) × Unit) := (q_z00 a1)
 cond (ok_z00 a1)
 (cond y1.1.1
 (some (encRes ro_z0z rh_z0z (((), ()), ())))
 (let y3 : ((Unit × (Unit × Unit)) × ((Unit × (Unit × (Unit × (Int × Unit)))) × ((Nat × Unit) × ((List Int) × ((Nat × Unit) × ((List Int) × Unit)))))) := (q_z02 (1 : Int) a0)
 cond (ok_z02 (1 : Int) a0)
 (let y4 : ((Int × (Int × Unit)) × ((Unit × (Nat × (Unit × (Int × Unit)))) × ((Nat × Unit) × ((List Int) × ((Nat × Unit) × ((List Int) × ((List HeadS) × Unit))))))) := (q_z0y a1 y3.2.1.2.2.2.1 y3.2.2.1.1 y3.2.2.2.1 y3.2.2.2.2.1.1 y3.2.2.2.2.2.1)
 cond (ok_z0y a1 y3.2.1.2.2.2.1 y3.2.2.1.1 y3.2.2.2.1 y3.2.2.2.2.1.1 y3.2.2.2.2.2.1)
 (some (encRes ro_z0z_1 rh_z0z_1 (((), ()), (((), (y4.2.1.2.1, ((), (y4.2.1.2.2.2.1, ())))), ((y4.2.2.1.1, ()), (y4.2.2.2.1, (y4.2.2.2.2.2.2.1, ((y4.2.2.2.2.1.1, ()), (y4.2.2.2.2.2.1, ())))))))))
 (none))
 (let y2 : ((Unit × (Unit × Unit)) × Unit) := (q_z02_2 (1 : Int) a0)
 cond (ok_z02_2 (1 : Int) a0)
 (some (encRes ro_z0z rh_z0z (((), ()), ())))
 (none))))
 (none))
noncomputable def Q_z0z (a0 : ByteArray) (a1 : (List NodeS)) : Option (RS ro_z0z rh_z0z) := decRes ro_z0z rh_z0z (M_z0z FUEL a0 a1)
noncomputable def Q_z0z_1 (a0 : ByteArray) (a1 : (List NodeS)) : Option (RS ro_z0z_1 rh_z0z_1) := decRes ro_z0z_1 rh_z0z_1 (M_z0z FUEL a0 a1)
noncomputable def ok_z0z_1 (a0 : ByteArray) (a1 : (List NodeS)) : Bool := (Q_z0z_1 a0 a1).isSome
noncomputable def q_z0z_1 (a0 : ByteArray) (a1 : (List NodeS)) : RS ro_z0z_1 rh_z0z_1 := RS.get (Q_z0z_1 a0 a1)
noncomputable def ok_z0z (a0 : ByteArray) (a1 : (List NodeS)) : Bool := (Q_z0z a0 a1).isSome
noncomputable def q_z0z (a0 : ByteArray) (a1 : (List NodeS)) : RS ro_z0z rh_z0z := RS.get (Q_z0z a0 a1)
/-! z10: turnoutlaw17_nodes -/
abbrev ro_z10 : List EK := [.hs 0 0]
abbrev rh_z10 : List HK := [.row NodeT]
noncomputable def M_z10 (n : Nat) : Option Res :=
 some (encRes ro_z10 rh_z10 ((2, ()), ([((1 : Int), ((2 : Int), ((0 : Int), ((0 : Int), ((0 : Int), ((8 : Int), ((8 : Int), ([((5 : Int), ((2 : Int), ()))], ((65535 : Int), ()))))))))), ((2 : Int), ((1 : Int), ((0 : Int), ((8 : Int), ((1 : Int), ((0 : Int), ((0 : Int), ([], ((0 : Int), ())))))))))], ())))
noncomputable def Q_z10 : Option (RS ro_z10 rh_z10) := decRes ro_z10 rh_z10 (M_z10 FUEL)
noncomputable def ok_z10 : Bool := (Q_z10).isSome
noncomputable def q_z10 : RS ro_z10 rh_z10 := RS.get (Q_z10)
/-! z11: turnoutlaw17_walked -/
abbrev ro_z11 : List EK := [.nul 0]
abbrev rh_z11 : List HK := []
abbrev ro_z11_1 : List EK := [.ptr 0 0 0]
abbrev rh_z11_1 : List HK := [.one false [.ptr 1 0 0, .hs 3 0, .ptr 4 0 0, .ty (.int .i64)], .one false [.hs 2 0], .row (.int .u8), .row HeadT, .one false [.hs 5 0], .row (.int .u8)]
noncomputable def M_z11 (n : Nat) : Option Res :=
 let y2 : ((Unit × (Unit × Unit)) × ((Unit × (Unit × (Unit × (Int × Unit)))) × ((Nat × Unit) × ((List Int) × ((Nat × Unit) × ((List Int) × Unit)))))) := (q_z02 (3 : Int) (ByteArray.mk #[0, 5, 2, 255, 255, 255]))
 cond (ok_z02 (3 : Int) (ByteArray.mk #[0, 5, 2, 255, 255, 255]))
 (let y3 : ((Nat × Unit) × ((List NodeS) × Unit)) := q_z10
 cond ok_z10
 (let y4 : ((Int × (Int × Unit)) × ((Unit × (Nat × (Unit × (Int × Unit)))) × ((Nat × Unit) × ((List Int) × ((Nat × Unit) × ((List Int) × ((List HeadS) × Unit))))))) := (q_z0y (cutL zNodeS y3.2.1 0 y3.1.1) y2.2.1.2.2.2.1 y2.2.2.1.1 y2.2.2.2.1 y2.2.2.2.2.1.1 y2.2.2.2.2.2.1)
 cond (ok_z0y (cutL zNodeS y3.2.1 0 y3.1.1) y2.2.1.2.2.2.1 y2.2.2.1.1 y2.2.2.2.1 y2.2.2.2.2.1.1 y2.2.2.2.2.2.1)
 (cond (y4.1.1 != (2 : Int))
 (some (encRes ro_z11 rh_z11 (((), ()), ())))
 (cond (y4.1.2.1 != (0 : Int))
 (some (encRes ro_z11 rh_z11 (((), ()), ())))
 (some (encRes ro_z11_1 rh_z11_1 (((), ()), (((), (y4.2.1.2.1, ((), (y4.2.1.2.2.2.1, ())))), ((y4.2.2.1.1, ()), (y4.2.2.2.1, (y4.2.2.2.2.2.2.1, ((y4.2.2.2.2.1.1, ()), (y4.2.2.2.2.2.1, ())))))))))))
 (none))
 (none))
 (let y1 : ((Unit × (Unit × Unit)) × Unit) := (q_z02_2 (3 : Int) (ByteArray.mk #[0, 5, 2, 255, 255, 255]))
 cond (ok_z02_2 (3 : Int) (ByteArray.mk #[0, 5, 2, 255, 255, 255]))
 (some (encRes ro_z11 rh_z11 (((), ()), ())))
 (none))
noncomputable def Q_z11 : Option (RS ro_z11 rh_z11) := decRes ro_z11 rh_z11 (M_z11 FUEL)
noncomputable def Q_z11_1 : Option (RS ro_z11_1 rh_z11_1) := decRes ro_z11_1 rh_z11_1 (M_z11 FUEL)
noncomputable def ok_z11_1 : Bool := (Q_z11_1).isSome
noncomputable def q_z11_1 : RS ro_z11_1 rh_z11_1 := RS.get (Q_z11_1)
noncomputable def ok_z11 : Bool := (Q_z11).isSome
noncomputable def q_z11 : RS ro_z11 rh_z11 := RS.get (Q_z11)
/-! z12: slices_Clone -/
abbrev ro_z12 : List EK := [.hs 0 0]
abbrev rh_z12 : List HK := [.row HeadT]
noncomputable def Q_z12 (a0 : List HeadS) : Option (RS ro_z12 rh_z12) := cloneQ a0
noncomputable def ok_z12 (a0 : List HeadS) : Bool := (Q_z12 a0).isSome
noncomputable def q_z12 (a0 : List HeadS) : RS ro_z12 rh_z12 := RS.get (Q_z12 a0)
/-! z13: pack_Packet_Headsx135 -/
abbrev ro_z13 : List EK := [.hs 6 0]
abbrev rh_z13 : List HK := [.one false [.ptr 1 0 0, .hs 3 0, .ptr 4 0 0, .ty (.int .i64)], .one false [.hs 2 0], .row (.int .u8), .row HeadT, .one false [.hs 5 0], .row (.int .u8), .row HeadT]
noncomputable def M_z13 (n : Nat) (a0 : Nat) (a1 : Int) (a2 : Nat) (a3 : (List Int)) (a4 : (List HeadS)) (a5 : Nat) (a6 : (List Int)) : Option Res :=
 let y1 : ((Nat × Unit) × ((List HeadS) × Unit)) := (q_z12 (cutL zHeadS a4 0 a0))
 cond (ok_z12 (cutL zHeadS a4 0 a0))
 (some (encRes ro_z13 rh_z13 ((y1.1.1, ()), (((), (a0, ((), (a1, ())))), ((a2, ()), (a3, (a4, ((a5, ()), (a6, (y1.2.1, ()))))))))))
 (none)
noncomputable def Q_z13 (a0 : Nat) (a1 : Int) (a2 : Nat) (a3 : (List Int)) (a4 : (List HeadS)) (a5 : Nat) (a6 : (List Int)) : Option (RS ro_z13 rh_z13) := decRes ro_z13 rh_z13 (M_z13 FUEL a0 a1 a2 a3 a4 a5 a6)
noncomputable def ok_z13 (a0 : Nat) (a1 : Int) (a2 : Nat) (a3 : (List Int)) (a4 : (List HeadS)) (a5 : Nat) (a6 : (List Int)) : Bool := (Q_z13 a0 a1 a2 a3 a4 a5 a6).isSome
noncomputable def q_z13 (a0 : Nat) (a1 : Int) (a2 : Nat) (a3 : (List Int)) (a4 : (List HeadS)) (a5 : Nat) (a6 : (List Int)) : RS ro_z13 rh_z13 := RS.get (Q_z13 a0 a1 a2 a3 a4 a5 a6)
/-! z14: turnoutref17_Heads -/
abbrev ro_z14 : List EK := [.ty .bool]
abbrev rh_z14 : List HK := []
noncomputable def F_z14_0 (n : Nat) (k_r : Bool → Option Res) (k_t0 : Unit → Option Res) (x0_0 : (List HeadS)) (x0_1 : (List HeadS)) (rec : Int → Option Res) (x0_2 : Int) : Option Res :=
 cond (decide (x0_2 < (((List.length x0_0) : Nat) : Int)))
 (cond (decide ((0 : Int) ≤ x0_2 ∧ x0_2 < (((List.length x0_0) : Nat) : Int)))
 (cond (decide ((0 : Int) ≤ x0_2 ∧ x0_2 < (((List.length x0_1) : Nat) : Int)))
 (cond (!(((rdd zHeadS x0_0 (Int.toNat x0_2)).1 == (rdd zHeadS x0_1 (Int.toNat x0_2)).1) && (((rdd zHeadS x0_0 (Int.toNat x0_2)).2.1 == (rdd zHeadS x0_1 (Int.toNat x0_2)).2.1) && true)))
 (k_r false)
 (rec (IntKind.wrap .i64 (x0_2 + (1 : Int)))))
 (none))
 (none))
 (k_t0 ())
noncomputable def L_z14_0 (n : Nat) (k_r : Bool → Option Res) (k_t0 : Unit → Option Res) (x0_0 : (List HeadS)) (x0_1 : (List HeadS)) : Nat → Int → Option Res
  | 0, _ => none
  | m + 1, x0_2 => F_z14_0 n k_r k_t0 x0_0 x0_1 (L_z14_0 n k_r k_t0 x0_0 x0_1 m) x0_2
noncomputable def M_z14 (n : Nat) (a0 : (List HeadS)) (a1 : (List HeadS)) : Option Res :=
 cond ((((List.length a0) : Nat) : Int) != (((List.length a1) : Nat) : Int))
 (some (encRes ro_z14 rh_z14 ((false, ()), ())))
 (L_z14_0 n
  (fun y1 => some (encRes ro_z14 rh_z14 ((y1, ()), ())))
  (fun _ => some (encRes ro_z14 rh_z14 ((true, ()), ())))
  a0
  a1
  n
  (0 : Int))
noncomputable def Q_z14 (a0 : (List HeadS)) (a1 : (List HeadS)) : Option (RS ro_z14 rh_z14) := decRes ro_z14 rh_z14 (M_z14 FUEL a0 a1)
noncomputable def ok_z14 (a0 : (List HeadS)) (a1 : (List HeadS)) : Bool := (Q_z14 a0 a1).isSome
noncomputable def q_z14 (a0 : (List HeadS)) (a1 : (List HeadS)) : RS ro_z14 rh_z14 := RS.get (Q_z14 a0 a1)
/-! z15: pack_Packet_Portx135 -/
abbrev ro_z15 : List EK := [.ty (.int .i64)]
abbrev rh_z15 : List HK := [.one false [.ptr 1 0 0, .hs 3 0, .ptr 4 0 0, .ty (.int .i64)], .one false [.hs 2 0], .row (.int .u8), .row HeadT, .one false [.hs 5 0], .row (.int .u8)]
noncomputable def M_z15 (n : Nat) (a0 : Nat) (a1 : Int) (a2 : Nat) (a3 : (List Int)) (a4 : (List HeadS)) (a5 : Nat) (a6 : (List Int)) : Option Res :=
 some (encRes ro_z15 rh_z15 ((a1, ()), (((), (a0, ((), (a1, ())))), ((a2, ()), (a3, (a4, ((a5, ()), (a6, ()))))))))
noncomputable def Q_z15 (a0 : Nat) (a1 : Int) (a2 : Nat) (a3 : (List Int)) (a4 : (List HeadS)) (a5 : Nat) (a6 : (List Int)) : Option (RS ro_z15 rh_z15) := decRes ro_z15 rh_z15 (M_z15 FUEL a0 a1 a2 a3 a4 a5 a6)
noncomputable def ok_z15 (a0 : Nat) (a1 : Int) (a2 : Nat) (a3 : (List Int)) (a4 : (List HeadS)) (a5 : Nat) (a6 : (List Int)) : Bool := (Q_z15 a0 a1 a2 a3 a4 a5 a6).isSome
noncomputable def q_z15 (a0 : Nat) (a1 : Int) (a2 : Nat) (a3 : (List Int)) (a4 : (List HeadS)) (a5 : Nat) (a6 : (List Int)) : RS ro_z15 rh_z15 := RS.get (Q_z15 a0 a1 a2 a3 a4 a5 a6)
/-! z16: turnoutlaw17_inHeader -/
abbrev ro_z16 : List EK := [.agg FieldT]
abbrev rh_z16 : List HK := []
noncomputable def M_z16 (n : Nat) (a0 : Int) (a1 : Int) (a2 : Int) : Option Res :=
 some (encRes ro_z16 rh_z16 ((((0 : Int), ((2 : Int), (a0, (a1, (a2, ()))))), ()), ()))
noncomputable def Q_z16 (a0 : Int) (a1 : Int) (a2 : Int) : Option (RS ro_z16 rh_z16) := decRes ro_z16 rh_z16 (M_z16 FUEL a0 a1 a2)
noncomputable def ok_z16 (a0 : Int) (a1 : Int) (a2 : Int) : Bool := (Q_z16 a0 a1 a2).isSome
noncomputable def q_z16 (a0 : Int) (a1 : Int) (a2 : Int) : RS ro_z16 rh_z16 := RS.get (Q_z16 a0 a1 a2)
/-! z17: pack_Packet_placexc4b -/
abbrev ro_z17 : List EK := [.ptr 1 0 0, .ty (.int .i64), .ty (.int .i64)]
abbrev rh_z17 : List HK := [.one false [.ptr 1 0 0, .hs 3 0, .ptr 4 0 0, .ty (.int .i64)], .one false [.hs 2 0], .row (.int .u8), .row HeadT, .one false [.hs 5 0], .row (.int .u8)]
abbrev ro_z17_1 : List EK := [.ptr 4 0 0, .ty (.int .i64), .ty (.int .i64)]
abbrev rh_z17_1 : List HK := [.one false [.ptr 1 0 0, .hs 3 0, .ptr 4 0 0, .ty (.int .i64)], .one false [.hs 2 0], .row (.int .u8), .row HeadT, .one false [.hs 5 0], .row (.int .u8)]
abbrev ro_z17_2 : List EK := [.nul 0, .ty (.int .i64), .ty (.int .i64)]
abbrev rh_z17_2 : List HK := [.one false [.ptr 1 0 0, .hs 3 0, .ptr 4 0 0, .ty (.int .i64)], .one false [.hs 2 0], .row (.int .u8), .row HeadT, .one false [.hs 5 0], .row (.int .u8)]
noncomputable def F_z17_1 (n : Nat) (k_r : Int → Int → Option Res) (k_t1 : Unit → Option Res) (x1_0 : Nat) (x1_1 : Int) (x1_7 : (List HeadS)) (x1_10 : FieldS) (rec : Int → Option Res) (x1_2 : Int) : Option Res :=
 cond (decide (x1_2 < x1_1))
 (cond (decide ((0 : Int) ≤ x1_2 ∧ x1_2 < ((x1_0 : Nat) : Int)))
 (cond ((rdd zHeadS x1_7 (Int.toNat x1_2)).1 == x1_10.2.2.1)
 (k_r ((rdd zHeadS x1_7 (Int.toNat x1_2)).2.1) (0 : Int))
 (rec (IntKind.wrap .i64 (x1_2 + (1 : Int)))))
 (none))
 (k_t1 ())
noncomputable def L_z17_1 (n : Nat) (k_r : Int → Int → Option Res) (k_t1 : Unit → Option Res) (x1_0 : Nat) (x1_1 : Int) (x1_7 : (List HeadS)) (x1_10 : FieldS) : Nat → Int → Option Res
  | 0, _ => none
  | m + 1, x1_2 => F_z17_1 n k_r k_t1 x1_0 x1_1 x1_7 x1_10 (L_z17_1 n k_r k_t1 x1_0 x1_1 x1_7 x1_10 m) x1_2
noncomputable def M_z17 (n : Nat) (a0 : FieldS) (a1 : Nat) (a2 : Int) (a3 : Nat) (a4 : (List Int)) (a5 : (List HeadS)) (a6 : Nat) (a7 : (List Int)) : Option Res :=
 cond (a0.2.1 == (1 : Int))
 (some (encRes ro_z17 rh_z17 (((), ((0 : Int), ((0 : Int), ()))), (((), (a1, ((), (a2, ())))), ((a3, ()), (a4, (a5, ((a6, ()), (a7, ())))))))))
 (cond (a0.2.1 == (3 : Int))
 (some (encRes ro_z17_1 rh_z17_1 (((), ((0 : Int), ((0 : Int), ()))), (((), (a1, ((), (a2, ())))), ((a3, ()), (a4, (a5, ((a6, ()), (a7, ())))))))))
 (cond (a0.2.1 == (2 : Int))
 (L_z17_1 n
  (fun y1 y2 => some (encRes ro_z17 rh_z17 (((), (y1, (y2, ()))), (((), (a1, ((), (a2, ())))), ((a3, ()), (a4, (a5, ((a6, ()), (a7, ())))))))))
  (fun _ => some (encRes ro_z17_2 rh_z17_2 (((), ((0 : Int), ((3 : Int), ()))), (((), (a1, ((), (a2, ())))), ((a3, ()), (a4, (a5, ((a6, ()), (a7, ())))))))))
  a1
  ((a1 : Nat) : Int)
  a5
  a0
  n
  (0 : Int))
 (some (encRes ro_z17_2 rh_z17_2 (((), ((0 : Int), ((3 : Int), ()))), (((), (a1, ((), (a2, ())))), ((a3, ()), (a4, (a5, ((a6, ()), (a7, ())))))))))))
noncomputable def Q_z17 (a0 : FieldS) (a1 : Nat) (a2 : Int) (a3 : Nat) (a4 : (List Int)) (a5 : (List HeadS)) (a6 : Nat) (a7 : (List Int)) : Option (RS ro_z17 rh_z17) := decRes ro_z17 rh_z17 (M_z17 FUEL a0 a1 a2 a3 a4 a5 a6 a7)
noncomputable def Q_z17_1 (a0 : FieldS) (a1 : Nat) (a2 : Int) (a3 : Nat) (a4 : (List Int)) (a5 : (List HeadS)) (a6 : Nat) (a7 : (List Int)) : Option (RS ro_z17_1 rh_z17_1) := decRes ro_z17_1 rh_z17_1 (M_z17 FUEL a0 a1 a2 a3 a4 a5 a6 a7)
noncomputable def ok_z17_1 (a0 : FieldS) (a1 : Nat) (a2 : Int) (a3 : Nat) (a4 : (List Int)) (a5 : (List HeadS)) (a6 : Nat) (a7 : (List Int)) : Bool := (Q_z17_1 a0 a1 a2 a3 a4 a5 a6 a7).isSome
noncomputable def q_z17_1 (a0 : FieldS) (a1 : Nat) (a2 : Int) (a3 : Nat) (a4 : (List Int)) (a5 : (List HeadS)) (a6 : Nat) (a7 : (List Int)) : RS ro_z17_1 rh_z17_1 := RS.get (Q_z17_1 a0 a1 a2 a3 a4 a5 a6 a7)
noncomputable def Q_z17_2 (a0 : FieldS) (a1 : Nat) (a2 : Int) (a3 : Nat) (a4 : (List Int)) (a5 : (List HeadS)) (a6 : Nat) (a7 : (List Int)) : Option (RS ro_z17_2 rh_z17_2) := decRes ro_z17_2 rh_z17_2 (M_z17 FUEL a0 a1 a2 a3 a4 a5 a6 a7)
noncomputable def ok_z17_2 (a0 : FieldS) (a1 : Nat) (a2 : Int) (a3 : Nat) (a4 : (List Int)) (a5 : (List HeadS)) (a6 : Nat) (a7 : (List Int)) : Bool := (Q_z17_2 a0 a1 a2 a3 a4 a5 a6 a7).isSome
noncomputable def q_z17_2 (a0 : FieldS) (a1 : Nat) (a2 : Int) (a3 : Nat) (a4 : (List Int)) (a5 : (List HeadS)) (a6 : Nat) (a7 : (List Int)) : RS ro_z17_2 rh_z17_2 := RS.get (Q_z17_2 a0 a1 a2 a3 a4 a5 a6 a7)
noncomputable def ok_z17 (a0 : FieldS) (a1 : Nat) (a2 : Int) (a3 : Nat) (a4 : (List Int)) (a5 : (List HeadS)) (a6 : Nat) (a7 : (List Int)) : Bool := (Q_z17 a0 a1 a2 a3 a4 a5 a6 a7).isSome
noncomputable def q_z17 (a0 : FieldS) (a1 : Nat) (a2 : Int) (a3 : Nat) (a4 : (List Int)) (a5 : (List HeadS)) (a6 : Nat) (a7 : (List Int)) : RS ro_z17 rh_z17 := RS.get (Q_z17 a0 a1 a2 a3 a4 a5 a6 a7)
/-! z18: pack_bit -/
abbrev ro_z18 : List EK := [.ty (.int .i64)]
abbrev rh_z18 : List HK := []
noncomputable def M_z18 (n : Nat) (a0 : Int) (a1 : Int) : Option Res :=
 cond (decide (a1 < (0 : Int)))
 (some (encRes ro_z18 rh_z18 (((-1 : Int), ()), ())))
 (let y1 : Int := (IntKind.wrap .i64 ((IntKind.wrap .i64 ((8 : Int) * a0)) + (if (147456 : Int) < a1 then (147456 : Int) else a1)))
 some (encRes ro_z18 rh_z18 ((y1, ()), ())))
noncomputable def Q_z18 (a0 : Int) (a1 : Int) : Option (RS ro_z18 rh_z18) := decRes ro_z18 rh_z18 (M_z18 FUEL a0 a1)
noncomputable def ok_z18 (a0 : Int) (a1 : Int) : Bool := (Q_z18 a0 a1).isSome
noncomputable def q_z18 (a0 : Int) (a1 : Int) : RS ro_z18 rh_z18 := RS.get (Q_z18 a0 a1)
/-! z19: buf_Buf_Getx845 -/
abbrev ro_z19 : List EK := [.agg WordT, .ty (.int .i64)]
abbrev rh_z19 : List HK := []
noncomputable def M_z19 (n : Nat) (a0 : Int) (a1 : Int) : Option Res :=
 some (encRes ro_z19 rh_z19 ((((0 : Int), ((0 : Int), ())), ((2 : Int), ())), ()))
noncomputable def Q_z19 (a0 : Int) (a1 : Int) : Option (RS ro_z19 rh_z19) := decRes ro_z19 rh_z19 (M_z19 FUEL a0 a1)
noncomputable def ok_z19 (a0 : Int) (a1 : Int) : Bool := (Q_z19 a0 a1).isSome
noncomputable def q_z19 (a0 : Int) (a1 : Int) : RS ro_z19 rh_z19 := RS.get (Q_z19 a0 a1)
/-! z1a: buf_Buf_windowx37e -/
abbrev ro_z1a : List EK := [.hs 1 0, .ty (.int .i64)]
abbrev rh_z1a : List HK := [.one false [.hs 1 0], .row (.int .u8)]
abbrev ro_z1a_1 : List EK := [.hv 1, .ty (.int .i64)]
abbrev rh_z1a_1 : List HK := [.one false [.hs 1 0], .row (.int .u8)]
noncomputable def M_z1a (n : Nat) (a0 : Int) (a1 : Int) (a2 : Nat) (a3 : (List Int)) : Option Res :=
 cond (decide (a0 < (0 : Int)))
 (some (encRes ro_z1a rh_z1a ((a2, ((0 : Int), ())), ((a2, ()), (a3, ())))))
 (cond (decide (a1 < (1 : Int)))
 (some (encRes ro_z1a rh_z1a ((a2, ((0 : Int), ())), ((a2, ()), (a3, ())))))
 (cond (decide (a1 > (128 : Int)))
 (some (encRes ro_z1a rh_z1a ((a2, ((0 : Int), ())), ((a2, ()), (a3, ())))))
 (cond (decide (a0 > (IntKind.wrap .i64 ((IntKind.wrap .i64 ((8 : Int) * ((a2 : Nat) : Int))) - a1))))
 (some (encRes ro_z1a rh_z1a ((a2, ((0 : Int), ())), ((a2, ()), (a3, ())))))
 (cond ((8 : Int) != 0)
 (cond ((8 : Int) != 0)
 (let y1 : Int := (IntKind.wrap .i64 (Int.tdiv (IntKind.wrap .i64 ((IntKind.wrap .i64 (a0 + a1)) + (7 : Int))) (8 : Int)))
 cond (decide ((0 : Int) ≤ (IntKind.wrap .i64 (Int.tdiv a0 (8 : Int))) ∧ (IntKind.wrap .i64 (Int.tdiv a0 (8 : Int))) ≤ y1 ∧ y1 ≤ ((a2 : Nat) : Int) ∧ ((a2 : Nat) : Int) ≤ ((a2 : Nat) : Int)))
 (some (encRes ro_z1a_1 rh_z1a_1 (((((0 + Int.toNat (IntKind.wrap .i64 (Int.tdiv a0 (8 : Int)))), (Int.toNat y1 - Int.toNat (IntKind.wrap .i64 (Int.tdiv a0 (8 : Int))))).1, ((0 + Int.toNat (IntKind.wrap .i64 (Int.tdiv a0 (8 : Int)))), (Int.toNat y1 - Int.toNat (IntKind.wrap .i64 (Int.tdiv a0 (8 : Int))))).2), ((IntKind.wrap .i64 (Int.tdiv a0 (8 : Int))), ())), ((a2, ()), (a3, ())))))
 (none))
 (none))
 (none)))))
noncomputable def Q_z1a (a0 : Int) (a1 : Int) (a2 : Nat) (a3 : (List Int)) : Option (RS ro_z1a rh_z1a) := decRes ro_z1a rh_z1a (M_z1a FUEL a0 a1 a2 a3)
noncomputable def Q_z1a_1 (a0 : Int) (a1 : Int) (a2 : Nat) (a3 : (List Int)) : Option (RS ro_z1a_1 rh_z1a_1) := decRes ro_z1a_1 rh_z1a_1 (M_z1a FUEL a0 a1 a2 a3)
noncomputable def ok_z1a_1 (a0 : Int) (a1 : Int) (a2 : Nat) (a3 : (List Int)) : Bool := (Q_z1a_1 a0 a1 a2 a3).isSome
noncomputable def q_z1a_1 (a0 : Int) (a1 : Int) (a2 : Nat) (a3 : (List Int)) : RS ro_z1a_1 rh_z1a_1 := RS.get (Q_z1a_1 a0 a1 a2 a3)
noncomputable def ok_z1a (a0 : Int) (a1 : Int) (a2 : Nat) (a3 : (List Int)) : Bool := (Q_z1a a0 a1 a2 a3).isSome
noncomputable def q_z1a (a0 : Int) (a1 : Int) (a2 : Nat) (a3 : (List Int)) : RS ro_z1a rh_z1a := RS.get (Q_z1a a0 a1 a2 a3)
/-! z1b: buf_Buf_Getx37e -/
abbrev ro_z1b : List EK := [.agg WordT, .ty (.int .i64)]
abbrev rh_z1b : List HK := [.one false [.hs 1 0], .row (.int .u8)]
noncomputable def M_z1b (n : Nat) (a0 : Int) (a1 : Int) (a2 : Nat) (a3 : (List Int)) : Option Res :=
 let y3 : ((Nat × (Int × Unit)) × ((Nat × Unit) × ((List Int) × Unit))) := (q_z1a a0 a1 a2 a3)
 cond (ok_z1a a0 a1 a2 a3)
 (let y4 : ((WordS × (Int × Unit)) × Unit) := (q_z0r (bytesOf (cutL (0 : Int) y3.2.2.1 0 y3.1.1)) (IntKind.wrap .i64 (a0 - (IntKind.wrap .i64 ((8 : Int) * y3.1.2.1)))) a1)
 cond (ok_z0r (bytesOf (cutL (0 : Int) y3.2.2.1 0 y3.1.1)) (IntKind.wrap .i64 (a0 - (IntKind.wrap .i64 ((8 : Int) * y3.1.2.1)))) a1)
 (some (encRes ro_z1b rh_z1b ((y4.1.1, (y4.1.2.1, ())), ((y3.2.1.1, ()), (y3.2.2.1, ())))))
 (none))
 (let y1 : (((Nat × Nat) × (Int × Unit)) × ((Nat × Unit) × ((List Int) × Unit))) := (q_z1a_1 a0 a1 a2 a3)
 cond (ok_z1a_1 a0 a1 a2 a3)
 (let y2 : ((WordS × (Int × Unit)) × Unit) := (q_z0r (bytesOf (cutL (0 : Int) y1.2.2.1 y1.1.1.1 y1.1.1.2)) (IntKind.wrap .i64 (a0 - (IntKind.wrap .i64 ((8 : Int) * y1.1.2.1)))) a1)
 cond (ok_z0r (bytesOf (cutL (0 : Int) y1.2.2.1 y1.1.1.1 y1.1.1.2)) (IntKind.wrap .i64 (a0 - (IntKind.wrap .i64 ((8 : Int) * y1.1.2.1)))) a1)
 (some (encRes ro_z1b rh_z1b ((y2.1.1, (y2.1.2.1, ())), ((y1.2.1.1, ()), (y1.2.2.1, ())))))
 (none))
 (none))
noncomputable def Q_z1b (a0 : Int) (a1 : Int) (a2 : Nat) (a3 : (List Int)) : Option (RS ro_z1b rh_z1b) := decRes ro_z1b rh_z1b (M_z1b FUEL a0 a1 a2 a3)
noncomputable def ok_z1b (a0 : Int) (a1 : Int) (a2 : Nat) (a3 : (List Int)) : Bool := (Q_z1b a0 a1 a2 a3).isSome
noncomputable def q_z1b (a0 : Int) (a1 : Int) (a2 : Nat) (a3 : (List Int)) : RS ro_z1b rh_z1b := RS.get (Q_z1b a0 a1 a2 a3)
/-! z1c: pack_Packet_Getxc4b -/
abbrev ro_z1c : List EK := [.agg WordT, .ty (.int .i64)]
abbrev rh_z1c : List HK := [.one false [.ptr 1 0 0, .hs 3 0, .ptr 4 0 0, .ty (.int .i64)], .one false [.hs 2 0], .row (.int .u8), .row HeadT, .one false [.hs 5 0], .row (.int .u8)]
noncomputable def M_z1c (n : Nat) (a0 : FieldS) (a1 : Nat) (a2 : Int) (a3 : Nat) (a4 : (List Int)) (a5 : (List HeadS)) (a6 : Nat) (a7 : (List Int)) : Option Res :=
 let y7 : ((Unit × (Int × (Int × Unit))) × ((Unit × (Nat × (Unit × (Int × Unit)))) × ((Nat × Unit) × ((List Int) × ((List HeadS) × ((Nat × Unit) × ((List Int) × Unit))))))) := (q_z17 a0 a1 a2 a3 a4 a5 a6 a7)
 cond (ok_z17 a0 a1 a2 a3 a4 a5 a6 a7)
 (cond (y7.1.2.2.1 != (0 : Int))
 (some (encRes ro_z1c rh_z1c ((((0 : Int), ((0 : Int), ())), (y7.1.2.2.1, ())), (((), (y7.2.1.2.1, ((), (y7.2.1.2.2.2.1, ())))), ((y7.2.2.1.1, ()), (y7.2.2.2.1, (y7.2.2.2.2.1, ((y7.2.2.2.2.2.1.1, ()), (y7.2.2.2.2.2.2.1, ())))))))))
 (let y8 : ((Int × Unit) × Unit) := (q_z18 y7.1.2.1 a0.2.2.2.1)
 cond (ok_z18 y7.1.2.1 a0.2.2.2.1)
 (let y9 : ((WordS × (Int × Unit)) × ((Nat × Unit) × ((List Int) × Unit))) := (q_z1b y8.1.1 a0.2.2.2.2.1 y7.2.2.1.1 y7.2.2.2.1)
 cond (ok_z1b y8.1.1 a0.2.2.2.2.1 y7.2.2.1.1 y7.2.2.2.1)
 (cond (y9.1.2.1 != (0 : Int))
 (some (encRes ro_z1c rh_z1c ((((0 : Int), ((0 : Int), ())), ((1 : Int), ())), (((), (y7.2.1.2.1, ((), (y7.2.1.2.2.2.1, ())))), ((y9.2.1.1, ()), (y9.2.2.1, (y7.2.2.2.2.1, ((y7.2.2.2.2.2.1.1, ()), (y7.2.2.2.2.2.2.1, ())))))))))
 (some (encRes ro_z1c rh_z1c ((y9.1.1, ((0 : Int), ())), (((), (y7.2.1.2.1, ((), (y7.2.1.2.2.2.1, ())))), ((y9.2.1.1, ()), (y9.2.2.1, (y7.2.2.2.2.1, ((y7.2.2.2.2.2.1.1, ()), (y7.2.2.2.2.2.2.1, ()))))))))))
 (none))
 (none)))
 (let y4 : ((Unit × (Int × (Int × Unit))) × ((Unit × (Nat × (Unit × (Int × Unit)))) × ((Nat × Unit) × ((List Int) × ((List HeadS) × ((Nat × Unit) × ((List Int) × Unit))))))) := (q_z17_1 a0 a1 a2 a3 a4 a5 a6 a7)
 cond (ok_z17_1 a0 a1 a2 a3 a4 a5 a6 a7)
 (cond (y4.1.2.2.1 != (0 : Int))
 (some (encRes ro_z1c rh_z1c ((((0 : Int), ((0 : Int), ())), (y4.1.2.2.1, ())), (((), (y4.2.1.2.1, ((), (y4.2.1.2.2.2.1, ())))), ((y4.2.2.1.1, ()), (y4.2.2.2.1, (y4.2.2.2.2.1, ((y4.2.2.2.2.2.1.1, ()), (y4.2.2.2.2.2.2.1, ())))))))))
 (let y5 : ((Int × Unit) × Unit) := (q_z18 y4.1.2.1 a0.2.2.2.1)
 cond (ok_z18 y4.1.2.1 a0.2.2.2.1)
 (let y6 : ((WordS × (Int × Unit)) × ((Nat × Unit) × ((List Int) × Unit))) := (q_z1b y5.1.1 a0.2.2.2.2.1 y4.2.2.2.2.2.1.1 y4.2.2.2.2.2.2.1)
 cond (ok_z1b y5.1.1 a0.2.2.2.2.1 y4.2.2.2.2.2.1.1 y4.2.2.2.2.2.2.1)
 (cond (y6.1.2.1 != (0 : Int))
 (some (encRes ro_z1c rh_z1c ((((0 : Int), ((0 : Int), ())), ((1 : Int), ())), (((), (y4.2.1.2.1, ((), (y4.2.1.2.2.2.1, ())))), ((y4.2.2.1.1, ()), (y4.2.2.2.1, (y4.2.2.2.2.1, ((y6.2.1.1, ()), (y6.2.2.1, ())))))))))
 (some (encRes ro_z1c rh_z1c ((y6.1.1, ((0 : Int), ())), (((), (y4.2.1.2.1, ((), (y4.2.1.2.2.2.1, ())))), ((y4.2.2.1.1, ()), (y4.2.2.2.1, (y4.2.2.2.2.1, ((y6.2.1.1, ()), (y6.2.2.1, ()))))))))))
 (none))
 (none)))
 (let y1 : ((Unit × (Int × (Int × Unit))) × ((Unit × (Nat × (Unit × (Int × Unit)))) × ((Nat × Unit) × ((List Int) × ((List HeadS) × ((Nat × Unit) × ((List Int) × Unit))))))) := (q_z17_2 a0 a1 a2 a3 a4 a5 a6 a7)
 cond (ok_z17_2 a0 a1 a2 a3 a4 a5 a6 a7)
 (cond (y1.1.2.2.1 != (0 : Int))
 (some (encRes ro_z1c rh_z1c ((((0 : Int), ((0 : Int), ())), (y1.1.2.2.1, ())), (((), (y1.2.1.2.1, ((), (y1.2.1.2.2.2.1, ())))), ((y1.2.2.1.1, ()), (y1.2.2.2.1, (y1.2.2.2.2.1, ((y1.2.2.2.2.2.1.1, ()), (y1.2.2.2.2.2.2.1, ())))))))))
 (let y2 : ((Int × Unit) × Unit) := (q_z18 y1.1.2.1 a0.2.2.2.1)
 cond (ok_z18 y1.1.2.1 a0.2.2.2.1)
 (let y3 : ((WordS × (Int × Unit)) × Unit) := (q_z19 y2.1.1 a0.2.2.2.2.1)
 cond (ok_z19 y2.1.1 a0.2.2.2.2.1)
 (cond (y3.1.2.1 != (0 : Int))
 (some (encRes ro_z1c rh_z1c ((((0 : Int), ((0 : Int), ())), ((1 : Int), ())), (((), (y1.2.1.2.1, ((), (y1.2.1.2.2.2.1, ())))), ((y1.2.2.1.1, ()), (y1.2.2.2.1, (y1.2.2.2.2.1, ((y1.2.2.2.2.2.1.1, ()), (y1.2.2.2.2.2.2.1, ())))))))))
 (some (encRes ro_z1c rh_z1c ((y3.1.1, ((0 : Int), ())), (((), (y1.2.1.2.1, ((), (y1.2.1.2.2.2.1, ())))), ((y1.2.2.1.1, ()), (y1.2.2.2.1, (y1.2.2.2.2.1, ((y1.2.2.2.2.2.1.1, ()), (y1.2.2.2.2.2.2.1, ()))))))))))
 (none))
 (none)))
 (none)))
noncomputable def Q_z1c (a0 : FieldS) (a1 : Nat) (a2 : Int) (a3 : Nat) (a4 : (List Int)) (a5 : (List HeadS)) (a6 : Nat) (a7 : (List Int)) : Option (RS ro_z1c rh_z1c) := decRes ro_z1c rh_z1c (M_z1c FUEL a0 a1 a2 a3 a4 a5 a6 a7)
noncomputable def ok_z1c (a0 : FieldS) (a1 : Nat) (a2 : Int) (a3 : Nat) (a4 : (List Int)) (a5 : (List HeadS)) (a6 : Nat) (a7 : (List Int)) : Bool := (Q_z1c a0 a1 a2 a3 a4 a5 a6 a7).isSome
noncomputable def q_z1c (a0 : FieldS) (a1 : Nat) (a2 : Int) (a3 : Nat) (a4 : (List Int)) (a5 : (List HeadS)) (a6 : Nat) (a7 : (List Int)) : RS ro_z1c rh_z1c := RS.get (Q_z1c a0 a1 a2 a3 a4 a5 a6 a7)
/-! z1d: buf_Buf_Lenxd13 -/
abbrev ro_z1d : List EK := [.ty (.int .i64)]
abbrev rh_z1d : List HK := []
noncomputable def M_z1d (n : Nat) : Option Res :=
 some (encRes ro_z1d rh_z1d (((0 : Int), ()), ()))
noncomputable def Q_z1d : Option (RS ro_z1d rh_z1d) := decRes ro_z1d rh_z1d (M_z1d FUEL)
noncomputable def ok_z1d : Bool := (Q_z1d).isSome
noncomputable def q_z1d : RS ro_z1d rh_z1d := RS.get (Q_z1d)
/-! z1e: pack_atx5f6 -/
abbrev ro_z1e : List EK := [.ty (.int .i64), .ty (.int .i64)]
abbrev rh_z1e : List HK := []
noncomputable def M_z1e (n : Nat) (a0 : Int) (a1 : FieldS) : Option Res :=
 cond (decide (a1.2.2.2.1 < (0 : Int)))
 (some (encRes ro_z1e rh_z1e (((0 : Int), ((1 : Int), ())), ())))
 (cond ((8 : Int) != 0)
 (let y1 : ((Int × Unit) × Unit) := q_z1d
 cond ok_z1d
 (cond (decide ((IntKind.wrap .i64 (Int.tdiv a1.2.2.2.1 (8 : Int))) > (IntKind.wrap .i64 (y1.1.1 - a0))))
 (some (encRes ro_z1e rh_z1e (((0 : Int), ((1 : Int), ())), ())))
 (cond ((8 : Int) != 0)
 (some (encRes ro_z1e rh_z1e (((IntKind.wrap .i64 (a0 + (IntKind.wrap .i64 (Int.tdiv a1.2.2.2.1 (8 : Int))))), ((0 : Int), ())), ())))
 (none)))
 (none))
 (none))
noncomputable def Q_z1e (a0 : Int) (a1 : FieldS) : Option (RS ro_z1e rh_z1e) := decRes ro_z1e rh_z1e (M_z1e FUEL a0 a1)
noncomputable def ok_z1e (a0 : Int) (a1 : FieldS) : Bool := (Q_z1e a0 a1).isSome
noncomputable def q_z1e (a0 : Int) (a1 : FieldS) : RS ro_z1e rh_z1e := RS.get (Q_z1e a0 a1)
/-! z1f: buf_Buf_Lenx455 -/
abbrev ro_z1f : List EK := [.ty (.int .i64)]
abbrev rh_z1f : List HK := [.one false [.hs 1 0], .row (.int .u8)]
noncomputable def M_z1f (n : Nat) (a0 : Nat) (a1 : (List Int)) : Option Res :=
 some (encRes ro_z1f rh_z1f ((((a0 : Nat) : Int), ()), ((a0, ()), (a1, ()))))
noncomputable def Q_z1f (a0 : Nat) (a1 : (List Int)) : Option (RS ro_z1f rh_z1f) := decRes ro_z1f rh_z1f (M_z1f FUEL a0 a1)
noncomputable def ok_z1f (a0 : Nat) (a1 : (List Int)) : Bool := (Q_z1f a0 a1).isSome
noncomputable def q_z1f (a0 : Nat) (a1 : (List Int)) : RS ro_z1f rh_z1f := RS.get (Q_z1f a0 a1)
/-! z1g: pack_atxd47 -/
abbrev ro_z1g : List EK := [.ty (.int .i64), .ty (.int .i64)]
abbrev rh_z1g : List HK := [.one false [.hs 1 0], .row (.int .u8)]
noncomputable def M_z1g (n : Nat) (a0 : Int) (a1 : FieldS) (a2 : Nat) (a3 : (List Int)) : Option Res :=
 cond (decide (a1.2.2.2.1 < (0 : Int)))
 (some (encRes ro_z1g rh_z1g (((0 : Int), ((1 : Int), ())), ((a2, ()), (a3, ())))))
 (cond ((8 : Int) != 0)
 (let y1 : ((Int × Unit) × ((Nat × Unit) × ((List Int) × Unit))) := (q_z1f a2 a3)
 cond (ok_z1f a2 a3)
 (cond (decide ((IntKind.wrap .i64 (Int.tdiv a1.2.2.2.1 (8 : Int))) > (IntKind.wrap .i64 (y1.1.1 - a0))))
 (some (encRes ro_z1g rh_z1g (((0 : Int), ((1 : Int), ())), ((y1.2.1.1, ()), (y1.2.2.1, ())))))
 (cond ((8 : Int) != 0)
 (some (encRes ro_z1g rh_z1g (((IntKind.wrap .i64 (a0 + (IntKind.wrap .i64 (Int.tdiv a1.2.2.2.1 (8 : Int))))), ((0 : Int), ())), ((y1.2.1.1, ()), (y1.2.2.1, ())))))
 (none)))
 (none))
 (none))
noncomputable def Q_z1g (a0 : Int) (a1 : FieldS) (a2 : Nat) (a3 : (List Int)) : Option (RS ro_z1g rh_z1g) := decRes ro_z1g rh_z1g (M_z1g FUEL a0 a1 a2 a3)
noncomputable def ok_z1g (a0 : Int) (a1 : FieldS) (a2 : Nat) (a3 : (List Int)) : Bool := (Q_z1g a0 a1 a2 a3).isSome
noncomputable def q_z1g (a0 : Int) (a1 : FieldS) (a2 : Nat) (a3 : (List Int)) : RS ro_z1g rh_z1g := RS.get (Q_z1g a0 a1 a2 a3)
/-! z1h: pack_Packet_Atxc4b -/
abbrev ro_z1h : List EK := [.ty (.int .i64), .ty (.int .i64)]
abbrev rh_z1h : List HK := [.one false [.ptr 1 0 0, .hs 3 0, .ptr 4 0 0, .ty (.int .i64)], .one false [.hs 2 0], .row (.int .u8), .row HeadT, .one false [.hs 5 0], .row (.int .u8)]
noncomputable def M_z1h (n : Nat) (a0 : FieldS) (a1 : Nat) (a2 : Int) (a3 : Nat) (a4 : (List Int)) (a5 : (List HeadS)) (a6 : Nat) (a7 : (List Int)) : Option Res :=
 let y5 : ((Unit × (Int × (Int × Unit))) × ((Unit × (Nat × (Unit × (Int × Unit)))) × ((Nat × Unit) × ((List Int) × ((List HeadS) × ((Nat × Unit) × ((List Int) × Unit))))))) := (q_z17 a0 a1 a2 a3 a4 a5 a6 a7)
 cond (ok_z17 a0 a1 a2 a3 a4 a5 a6 a7)
 (cond (y5.1.2.2.1 != (0 : Int))
 (some (encRes ro_z1h rh_z1h (((0 : Int), (y5.1.2.2.1, ())), (((), (y5.2.1.2.1, ((), (y5.2.1.2.2.2.1, ())))), ((y5.2.2.1.1, ()), (y5.2.2.2.1, (y5.2.2.2.2.1, ((y5.2.2.2.2.2.1.1, ()), (y5.2.2.2.2.2.2.1, ())))))))))
 (let y6 : ((Int × (Int × Unit)) × ((Nat × Unit) × ((List Int) × Unit))) := (q_z1g y5.1.2.1 a0 y5.2.2.1.1 y5.2.2.2.1)
 cond (ok_z1g y5.1.2.1 a0 y5.2.2.1.1 y5.2.2.2.1)
 (some (encRes ro_z1h rh_z1h ((y6.1.1, (y6.1.2.1, ())), (((), (y5.2.1.2.1, ((), (y5.2.1.2.2.2.1, ())))), ((y6.2.1.1, ()), (y6.2.2.1, (y5.2.2.2.2.1, ((y5.2.2.2.2.2.1.1, ()), (y5.2.2.2.2.2.2.1, ())))))))))
 (none)))
 (let y3 : ((Unit × (Int × (Int × Unit))) × ((Unit × (Nat × (Unit × (Int × Unit)))) × ((Nat × Unit) × ((List Int) × ((List HeadS) × ((Nat × Unit) × ((List Int) × Unit))))))) := (q_z17_1 a0 a1 a2 a3 a4 a5 a6 a7)
 cond (ok_z17_1 a0 a1 a2 a3 a4 a5 a6 a7)
 (cond (y3.1.2.2.1 != (0 : Int))
 (some (encRes ro_z1h rh_z1h (((0 : Int), (y3.1.2.2.1, ())), (((), (y3.2.1.2.1, ((), (y3.2.1.2.2.2.1, ())))), ((y3.2.2.1.1, ()), (y3.2.2.2.1, (y3.2.2.2.2.1, ((y3.2.2.2.2.2.1.1, ()), (y3.2.2.2.2.2.2.1, ())))))))))
 (let y4 : ((Int × (Int × Unit)) × ((Nat × Unit) × ((List Int) × Unit))) := (q_z1g y3.1.2.1 a0 y3.2.2.2.2.2.1.1 y3.2.2.2.2.2.2.1)
 cond (ok_z1g y3.1.2.1 a0 y3.2.2.2.2.2.1.1 y3.2.2.2.2.2.2.1)
 (some (encRes ro_z1h rh_z1h ((y4.1.1, (y4.1.2.1, ())), (((), (y3.2.1.2.1, ((), (y3.2.1.2.2.2.1, ())))), ((y3.2.2.1.1, ()), (y3.2.2.2.1, (y3.2.2.2.2.1, ((y4.2.1.1, ()), (y4.2.2.1, ())))))))))
 (none)))
 (let y1 : ((Unit × (Int × (Int × Unit))) × ((Unit × (Nat × (Unit × (Int × Unit)))) × ((Nat × Unit) × ((List Int) × ((List HeadS) × ((Nat × Unit) × ((List Int) × Unit))))))) := (q_z17_2 a0 a1 a2 a3 a4 a5 a6 a7)
 cond (ok_z17_2 a0 a1 a2 a3 a4 a5 a6 a7)
 (cond (y1.1.2.2.1 != (0 : Int))
 (some (encRes ro_z1h rh_z1h (((0 : Int), (y1.1.2.2.1, ())), (((), (y1.2.1.2.1, ((), (y1.2.1.2.2.2.1, ())))), ((y1.2.2.1.1, ()), (y1.2.2.2.1, (y1.2.2.2.2.1, ((y1.2.2.2.2.2.1.1, ()), (y1.2.2.2.2.2.2.1, ())))))))))
 (let y2 : ((Int × (Int × Unit)) × Unit) := (q_z1e y1.1.2.1 a0)
 cond (ok_z1e y1.1.2.1 a0)
 (some (encRes ro_z1h rh_z1h ((y2.1.1, (y2.1.2.1, ())), (((), (y1.2.1.2.1, ((), (y1.2.1.2.2.2.1, ())))), ((y1.2.2.1.1, ()), (y1.2.2.2.1, (y1.2.2.2.2.1, ((y1.2.2.2.2.2.1.1, ()), (y1.2.2.2.2.2.2.1, ())))))))))
 (none)))
 (none)))
noncomputable def Q_z1h (a0 : FieldS) (a1 : Nat) (a2 : Int) (a3 : Nat) (a4 : (List Int)) (a5 : (List HeadS)) (a6 : Nat) (a7 : (List Int)) : Option (RS ro_z1h rh_z1h) := decRes ro_z1h rh_z1h (M_z1h FUEL a0 a1 a2 a3 a4 a5 a6 a7)
noncomputable def ok_z1h (a0 : FieldS) (a1 : Nat) (a2 : Int) (a3 : Nat) (a4 : (List Int)) (a5 : (List HeadS)) (a6 : Nat) (a7 : (List Int)) : Bool := (Q_z1h a0 a1 a2 a3 a4 a5 a6 a7).isSome
noncomputable def q_z1h (a0 : FieldS) (a1 : Nat) (a2 : Int) (a3 : Nat) (a4 : (List Int)) (a5 : (List HeadS)) (a6 : Nat) (a7 : (List Int)) : RS ro_z1h rh_z1h := RS.get (Q_z1h a0 a1 a2 a3 a4 a5 a6 a7)
/-! z1i: pack_Packet_spotxc4b -/
abbrev ro_z1i : List EK := [.ty (.int .i64), .ty (.int .i64)]
abbrev rh_z1i : List HK := [.one false [.ptr 1 0 0, .hs 3 0, .ptr 4 0 0, .ty (.int .i64)], .one false [.hs 2 0], .row (.int .u8), .row HeadT, .one false [.hs 5 0], .row (.int .u8)]
noncomputable def M_z1i (n : Nat) (a0 : FieldS) (a1 : Nat) (a2 : Int) (a3 : Nat) (a4 : (List Int)) (a5 : (List HeadS)) (a6 : Nat) (a7 : (List Int)) : Option Res :=
 cond (a0.2.1 == (3 : Int))
 (some (encRes ro_z1i rh_z1i (((0 : Int), ((3 : Int), ())), (((), (a1, ((), (a2, ())))), ((a3, ()), (a4, (a5, ((a6, ()), (a7, ())))))))))
 (let y1 : ((Int × (Int × Unit)) × ((Unit × (Nat × (Unit × (Int × Unit)))) × ((Nat × Unit) × ((List Int) × ((List HeadS) × ((Nat × Unit) × ((List Int) × Unit))))))) := (q_z1h a0 a1 a2 a3 a4 a5 a6 a7)
 cond (ok_z1h a0 a1 a2 a3 a4 a5 a6 a7)
 (some (encRes ro_z1i rh_z1i ((y1.1.1, (y1.1.2.1, ())), (((), (y1.2.1.2.1, ((), (y1.2.1.2.2.2.1, ())))), ((y1.2.2.1.1, ()), (y1.2.2.2.1, (y1.2.2.2.2.1, ((y1.2.2.2.2.2.1.1, ()), (y1.2.2.2.2.2.2.1, ())))))))))
 (none))
noncomputable def Q_z1i (a0 : FieldS) (a1 : Nat) (a2 : Int) (a3 : Nat) (a4 : (List Int)) (a5 : (List HeadS)) (a6 : Nat) (a7 : (List Int)) : Option (RS ro_z1i rh_z1i) := decRes ro_z1i rh_z1i (M_z1i FUEL a0 a1 a2 a3 a4 a5 a6 a7)
noncomputable def ok_z1i (a0 : FieldS) (a1 : Nat) (a2 : Int) (a3 : Nat) (a4 : (List Int)) (a5 : (List HeadS)) (a6 : Nat) (a7 : (List Int)) : Bool := (Q_z1i a0 a1 a2 a3 a4 a5 a6 a7).isSome
noncomputable def q_z1i (a0 : FieldS) (a1 : Nat) (a2 : Int) (a3 : Nat) (a4 : (List Int)) (a5 : (List HeadS)) (a6 : Nat) (a7 : (List Int)) : RS ro_z1i rh_z1i := RS.get (Q_z1i a0 a1 a2 a3 a4 a5 a6 a7)
/-! z1j: buf_Buf_offx37e -/
abbrev ro_z1j : List EK := [.ty (.int .i64)]
abbrev rh_z1j : List HK := [.one false [.hs 1 0], .row (.int .u8)]
noncomputable def M_z1j (n : Nat) (a0 : Int) (a1 : Int) (a2 : Nat) (a3 : (List Int)) : Option Res :=
 cond (decide (a0 < (0 : Int)))
 (some (encRes ro_z1j rh_z1j (((1 : Int), ()), ((a2, ()), (a3, ())))))
 (cond (decide (a1 < (0 : Int)))
 (some (encRes ro_z1j rh_z1j (((1 : Int), ()), ((a2, ()), (a3, ())))))
 (cond (decide (a0 > ((a2 : Nat) : Int)))
 (some (encRes ro_z1j rh_z1j (((4 : Int), ()), ((a2, ()), (a3, ())))))
 (cond (decide (a1 > (IntKind.wrap .i64 (((a2 : Nat) : Int) - a0))))
 (some (encRes ro_z1j rh_z1j (((4 : Int), ()), ((a2, ()), (a3, ())))))
 (some (encRes ro_z1j rh_z1j (((0 : Int), ()), ((a2, ()), (a3, ()))))))))
noncomputable def Q_z1j (a0 : Int) (a1 : Int) (a2 : Nat) (a3 : (List Int)) : Option (RS ro_z1j rh_z1j) := decRes ro_z1j rh_z1j (M_z1j FUEL a0 a1 a2 a3)
noncomputable def ok_z1j (a0 : Int) (a1 : Int) (a2 : Nat) (a3 : (List Int)) : Bool := (Q_z1j a0 a1 a2 a3).isSome
noncomputable def q_z1j (a0 : Int) (a1 : Int) (a2 : Nat) (a3 : (List Int)) : RS ro_z1j rh_z1j := RS.get (Q_z1j a0 a1 a2 a3)
/-! z1k: buf_Buf_Insertx37e -/
abbrev ro_z1k : List EK := [.ty (.int .i64)]
abbrev rh_z1k : List HK := [.one false [.hs 1 0], .row (.int .u8)]
abbrev ro_z1k_1 : List EK := [.ty (.int .i64)]
abbrev rh_z1k_1 : List HK := [.one false [.hs 2 0], .row (.int .u8), .row (.int .u8)]
noncomputable def M_z1k (n : Nat) (a0 : Int) (a1 : Int) (a2 : Nat) (a3 : (List Int)) : Option Res :=
 let y1 : ((Int × Unit) × ((Nat × Unit) × ((List Int) × Unit))) := (q_z1j a0 (if (0 : Int) < a1 then (0 : Int) else a1) a2 a3)
 cond (ok_z1j a0 (if (0 : Int) < a1 then (0 : Int) else a1) a2 a3)
 (cond (y1.1.1 != (0 : Int))
 (some (encRes ro_z1k rh_z1k ((y1.1.1, ()), ((y1.2.1.1, ()), (y1.2.2.1, ())))))
 (cond (decide (a1 > (IntKind.wrap .i64 ((9216 : Int) - ((y1.2.1.1 : Nat) : Int)))))
 (some (encRes ro_z1k rh_z1k (((5 : Int), ()), ((y1.2.1.1, ()), (y1.2.2.1, ())))))
 (cond (decide ((0 : Int) ≤ (0 : Int) ∧ (0 : Int) ≤ a0 ∧ a0 ≤ a0 ∧ a0 ≤ ((y1.2.1.1 : Nat) : Int)))
 (cond (a0 == a0)
 (cond (decide ((0 : Int) ≤ a0 ∧ a0 ≤ ((y1.2.1.1 : Nat) : Int) ∧ ((y1.2.1.1 : Nat) : Int) ≤ ((y1.2.1.1 : Nat) : Int) ∧ ((y1.2.1.1 : Nat) : Int) ≤ ((y1.2.1.1 : Nat) : Int)))
 (cond (decide ((0 : Int) ≤ a1))
 (cond ((Int.toNat a0 - Int.toNat (0 : Int)) == 0)
 (cond (decide ((0 + (List.length (mkL (Int.toNat a1) (fun _ => (0 : Int))))) * 1 ≤ 2 ^ 46 ∧ (0 + (List.length (mkL (Int.toNat a1) (fun _ => (0 : Int))))) ≤ 2 ^ 46))
 (cond (decide (((List.length (cutL (0 : Int) (mkL (Int.toNat a1) (fun _ => (0 : Int))) 0 (0 + (List.length (mkL (Int.toNat a1) (fun _ => (0 : Int))))))) + (List.length (cutL (0 : Int) y1.2.2.1 (0 + Int.toNat a0) (Int.toNat ((y1.2.1.1 : Nat) : Int) - Int.toNat a0)))) * 1 ≤ 2 ^ 46 ∧ ((List.length (cutL (0 : Int) (mkL (Int.toNat a1) (fun _ => (0 : Int))) 0 (0 + (List.length (mkL (Int.toNat a1) (fun _ => (0 : Int))))))) + (List.length (cutL (0 : Int) y1.2.2.1 (0 + Int.toNat a0) (Int.toNat ((y1.2.1.1 : Nat) : Int) - Int.toNat a0)))) ≤ 2 ^ 46))
 (some (encRes ro_z1k_1 rh_z1k_1 (((0 : Int), ()), ((((List.length (cutL (0 : Int) (mkL (Int.toNat a1) (fun _ => (0 : Int))) 0 (0 + (List.length (mkL (Int.toNat a1) (fun _ => (0 : Int))))))) + (List.length (cutL (0 : Int) y1.2.2.1 (0 + Int.toNat a0) (Int.toNat ((y1.2.1.1 : Nat) : Int) - Int.toNat a0)))), ()), (y1.2.2.1, (((cutL (0 : Int) (mkL (Int.toNat a1) (fun _ => (0 : Int))) 0 (0 + (List.length (mkL (Int.toNat a1) (fun _ => (0 : Int)))))) ++ (cutL (0 : Int) y1.2.2.1 (0 + Int.toNat a0) (Int.toNat ((y1.2.1.1 : Nat) : Int) - Int.toNat a0))), ()))))))
 (none))
 (none))
 (cond ((List.length (mkL (Int.toNat a1) (fun _ => (0 : Int)))) == 0)
 (cond ((Int.toNat a0 - Int.toNat (0 : Int)) == 0)
 (cond (decide ((0 + (List.length (cutL (0 : Int) y1.2.2.1 (0 + Int.toNat a0) (Int.toNat ((y1.2.1.1 : Nat) : Int) - Int.toNat a0)))) * 1 ≤ 2 ^ 46 ∧ (0 + (List.length (cutL (0 : Int) y1.2.2.1 (0 + Int.toNat a0) (Int.toNat ((y1.2.1.1 : Nat) : Int) - Int.toNat a0)))) ≤ 2 ^ 46))
 (some (encRes ro_z1k_1 rh_z1k_1 (((0 : Int), ()), (((0 + (List.length (cutL (0 : Int) y1.2.2.1 (0 + Int.toNat a0) (Int.toNat ((y1.2.1.1 : Nat) : Int) - Int.toNat a0)))), ()), (y1.2.2.1, ((cutL (0 : Int) y1.2.2.1 (0 + Int.toNat a0) (Int.toNat ((y1.2.1.1 : Nat) : Int) - Int.toNat a0)), ()))))))
 (none))
 (cond ((List.length (cutL (0 : Int) y1.2.2.1 (0 + Int.toNat a0) (Int.toNat ((y1.2.1.1 : Nat) : Int) - Int.toNat a0))) == 0)
 (some (encRes ro_z1k rh_z1k (((0 : Int), ()), (((Int.toNat a0 - Int.toNat (0 : Int)), ()), (y1.2.2.1, ())))))
 (cond (decide (((List.length (cutL (0 : Int) y1.2.2.1 0 (Int.toNat a0 - Int.toNat (0 : Int)))) + (List.length (cutL (0 : Int) y1.2.2.1 (0 + Int.toNat a0) (Int.toNat ((y1.2.1.1 : Nat) : Int) - Int.toNat a0)))) * 1 ≤ 2 ^ 46 ∧ ((List.length (cutL (0 : Int) y1.2.2.1 0 (Int.toNat a0 - Int.toNat (0 : Int)))) + (List.length (cutL (0 : Int) y1.2.2.1 (0 + Int.toNat a0) (Int.toNat ((y1.2.1.1 : Nat) : Int) - Int.toNat a0)))) ≤ 2 ^ 46))
 (some (encRes ro_z1k_1 rh_z1k_1 (((0 : Int), ()), ((((List.length (cutL (0 : Int) y1.2.2.1 0 (Int.toNat a0 - Int.toNat (0 : Int)))) + (List.length (cutL (0 : Int) y1.2.2.1 (0 + Int.toNat a0) (Int.toNat ((y1.2.1.1 : Nat) : Int) - Int.toNat a0)))), ()), (y1.2.2.1, (((cutL (0 : Int) y1.2.2.1 0 (Int.toNat a0 - Int.toNat (0 : Int))) ++ (cutL (0 : Int) y1.2.2.1 (0 + Int.toNat a0) (Int.toNat ((y1.2.1.1 : Nat) : Int) - Int.toNat a0))), ()))))))
 (none))))
 (cond (decide (((List.length (cutL (0 : Int) y1.2.2.1 0 (Int.toNat a0 - Int.toNat (0 : Int)))) + (List.length (mkL (Int.toNat a1) (fun _ => (0 : Int))))) * 1 ≤ 2 ^ 46 ∧ ((List.length (cutL (0 : Int) y1.2.2.1 0 (Int.toNat a0 - Int.toNat (0 : Int)))) + (List.length (mkL (Int.toNat a1) (fun _ => (0 : Int))))) ≤ 2 ^ 46))
 (cond (decide (((List.length (cutL (0 : Int) ((cutL (0 : Int) y1.2.2.1 0 (Int.toNat a0 - Int.toNat (0 : Int))) ++ (mkL (Int.toNat a1) (fun _ => (0 : Int)))) 0 ((List.length (cutL (0 : Int) y1.2.2.1 0 (Int.toNat a0 - Int.toNat (0 : Int)))) + (List.length (mkL (Int.toNat a1) (fun _ => (0 : Int))))))) + (List.length (cutL (0 : Int) y1.2.2.1 (0 + Int.toNat a0) (Int.toNat ((y1.2.1.1 : Nat) : Int) - Int.toNat a0)))) * 1 ≤ 2 ^ 46 ∧ ((List.length (cutL (0 : Int) ((cutL (0 : Int) y1.2.2.1 0 (Int.toNat a0 - Int.toNat (0 : Int))) ++ (mkL (Int.toNat a1) (fun _ => (0 : Int)))) 0 ((List.length (cutL (0 : Int) y1.2.2.1 0 (Int.toNat a0 - Int.toNat (0 : Int)))) + (List.length (mkL (Int.toNat a1) (fun _ => (0 : Int))))))) + (List.length (cutL (0 : Int) y1.2.2.1 (0 + Int.toNat a0) (Int.toNat ((y1.2.1.1 : Nat) : Int) - Int.toNat a0)))) ≤ 2 ^ 46))
 (some (encRes ro_z1k_1 rh_z1k_1 (((0 : Int), ()), ((((List.length (cutL (0 : Int) ((cutL (0 : Int) y1.2.2.1 0 (Int.toNat a0 - Int.toNat (0 : Int))) ++ (mkL (Int.toNat a1) (fun _ => (0 : Int)))) 0 ((List.length (cutL (0 : Int) y1.2.2.1 0 (Int.toNat a0 - Int.toNat (0 : Int)))) + (List.length (mkL (Int.toNat a1) (fun _ => (0 : Int))))))) + (List.length (cutL (0 : Int) y1.2.2.1 (0 + Int.toNat a0) (Int.toNat ((y1.2.1.1 : Nat) : Int) - Int.toNat a0)))), ()), (y1.2.2.1, (((cutL (0 : Int) ((cutL (0 : Int) y1.2.2.1 0 (Int.toNat a0 - Int.toNat (0 : Int))) ++ (mkL (Int.toNat a1) (fun _ => (0 : Int)))) 0 ((List.length (cutL (0 : Int) y1.2.2.1 0 (Int.toNat a0 - Int.toNat (0 : Int)))) + (List.length (mkL (Int.toNat a1) (fun _ => (0 : Int)))))) ++ (cutL (0 : Int) y1.2.2.1 (0 + Int.toNat a0) (Int.toNat ((y1.2.1.1 : Nat) : Int) - Int.toNat a0))), ()))))))
 (none))
 (none))))
 (none))
 (none))
 (cond (decide ((0 : Int) ≤ a0 ∧ a0 ≤ ((y1.2.1.1 : Nat) : Int) ∧ ((y1.2.1.1 : Nat) : Int) ≤ ((y1.2.1.1 : Nat) : Int) ∧ ((y1.2.1.1 : Nat) : Int) ≤ ((y1.2.1.1 : Nat) : Int)))
 (none)
 (none)))
 (none))))
 (none)
noncomputable def Q_z1k (a0 : Int) (a1 : Int) (a2 : Nat) (a3 : (List Int)) : Option (RS ro_z1k rh_z1k) := decRes ro_z1k rh_z1k (M_z1k FUEL a0 a1 a2 a3)
noncomputable def Q_z1k_1 (a0 : Int) (a1 : Int) (a2 : Nat) (a3 : (List Int)) : Option (RS ro_z1k_1 rh_z1k_1) := decRes ro_z1k_1 rh_z1k_1 (M_z1k FUEL a0 a1 a2 a3)
noncomputable def ok_z1k_1 (a0 : Int) (a1 : Int) (a2 : Nat) (a3 : (List Int)) : Bool := (Q_z1k_1 a0 a1 a2 a3).isSome
noncomputable def q_z1k_1 (a0 : Int) (a1 : Int) (a2 : Nat) (a3 : (List Int)) : RS ro_z1k_1 rh_z1k_1 := RS.get (Q_z1k_1 a0 a1 a2 a3)
noncomputable def ok_z1k (a0 : Int) (a1 : Int) (a2 : Nat) (a3 : (List Int)) : Bool := (Q_z1k a0 a1 a2 a3).isSome
noncomputable def q_z1k (a0 : Int) (a1 : Int) (a2 : Nat) (a3 : (List Int)) : RS ro_z1k rh_z1k := RS.get (Q_z1k a0 a1 a2 a3)
/-! z1l: pack_body_movex3a1 -/
abbrev ro_z1l : List EK := []
abbrev rh_z1l : List HK := [.one false [.ptr 1 0 0, .hs 3 0, .ptr 4 0 0, .ty (.int .i64)], .one false [.hs 2 0], .row (.int .u8), .row HeadT, .one false [.hs 5 0], .row (.int .u8)]
noncomputable def F_z1l_0 (n : Nat) (k_t0 : (List HeadS) → Option Res) (x0_0 : Int) (x0_1 : Int) (x0_2 : Nat) (x0_3 : Int) (x0_5 : Nat) (rec : Int → (List HeadS) → Option Res) (x0_4 : Int) (x0_9 : (List HeadS)) : Option Res :=
 cond (decide (x0_4 < x0_3))
 (cond (decide ((0 : Int) ≤ x0_4 ∧ x0_4 < ((x0_2 : Nat) : Int)))
 (cond (decide ((rdd zHeadS x0_9 (Int.toNat x0_4)).2.1 ≥ x0_0))
 (cond (decide ((0 : Int) ≤ x0_4 ∧ x0_4 < ((x0_5 : Nat) : Int)))
 (cond (decide ((0 : Int) ≤ x0_4 ∧ x0_4 < ((x0_5 : Nat) : Int)))
 (rec (IntKind.wrap .i64 (x0_4 + (1 : Int))) (List.set x0_9 (Int.toNat x0_4) ((rdd zHeadS x0_9 (Int.toNat x0_4)).1, ((IntKind.wrap .i64 ((rdd zHeadS x0_9 (Int.toNat x0_4)).2.1 + x0_1)), ()))))
 (none))
 (none))
 (rec (IntKind.wrap .i64 (x0_4 + (1 : Int))) x0_9))
 (none))
 (k_t0 x0_9)
noncomputable def L_z1l_0 (n : Nat) (k_t0 : (List HeadS) → Option Res) (x0_0 : Int) (x0_1 : Int) (x0_2 : Nat) (x0_3 : Int) (x0_5 : Nat) : Nat → Int → (List HeadS) → Option Res
  | 0, _, _ => none
  | m + 1, x0_4, x0_9 => F_z1l_0 n k_t0 x0_0 x0_1 x0_2 x0_3 x0_5 (L_z1l_0 n k_t0 x0_0 x0_1 x0_2 x0_3 x0_5 m) x0_4 x0_9
noncomputable def M_z1l (n : Nat) (a0 : Int) (a1 : Int) (a2 : Nat) (a3 : Int) (a4 : Nat) (a5 : (List Int)) (a6 : (List HeadS)) (a7 : Nat) (a8 : (List Int)) : Option Res :=
 L_z1l_0 n
  (fun y1 => some (encRes ro_z1l rh_z1l ((), (((), (a2, ((), (a3, ())))), ((a4, ()), (a5, (y1, ((a7, ()), (a8, ())))))))))
  a0
  a1
  a2
  ((a2 : Nat) : Int)
  a2
  n
  (0 : Int)
  a6
noncomputable def Q_z1l (a0 : Int) (a1 : Int) (a2 : Nat) (a3 : Int) (a4 : Nat) (a5 : (List Int)) (a6 : (List HeadS)) (a7 : Nat) (a8 : (List Int)) : Option (RS ro_z1l rh_z1l) := decRes ro_z1l rh_z1l (M_z1l FUEL a0 a1 a2 a3 a4 a5 a6 a7 a8)
noncomputable def ok_z1l (a0 : Int) (a1 : Int) (a2 : Nat) (a3 : Int) (a4 : Nat) (a5 : (List Int)) (a6 : (List HeadS)) (a7 : Nat) (a8 : (List Int)) : Bool := (Q_z1l a0 a1 a2 a3 a4 a5 a6 a7 a8).isSome
noncomputable def q_z1l (a0 : Int) (a1 : Int) (a2 : Nat) (a3 : Int) (a4 : Nat) (a5 : (List Int)) (a6 : (List HeadS)) (a7 : Nat) (a8 : (List Int)) : RS ro_z1l rh_z1l := RS.get (Q_z1l a0 a1 a2 a3 a4 a5 a6 a7 a8)
/-! z1m: pack_Packet_Insertxe10 -/
abbrev ro_z1m : List EK := [.ty (.int .i64)]
abbrev rh_z1m : List HK := [.one false [.ptr 1 0 0, .hs 3 0, .ptr 4 0 0, .ty (.int .i64)], .one false [.hs 2 0], .row (.int .u8), .row HeadT, .one false [.hs 5 0], .row (.int .u8)]
abbrev ro_z1m_1 : List EK := [.ty (.int .i64)]
abbrev rh_z1m_1 : List HK := [.one false [.ptr 1 0 0, .hs 3 0, .ptr 4 0 0, .ty (.int .i64)], .one false [.hs 6 0], .row (.int .u8), .row HeadT, .one false [.hs 5 0], .row (.int .u8), .row (.int .u8)]
noncomputable def M_z1m (n : Nat) (a0 : FieldS) (a1 : Int) (a2 : Nat) (a3 : Int) (a4 : Nat) (a5 : (List Int)) (a6 : (List HeadS)) (a7 : Nat) (a8 : (List Int)) : Option Res :=
 let y1 : ((Int × (Int × Unit)) × ((Unit × (Nat × (Unit × (Int × Unit)))) × ((Nat × Unit) × ((List Int) × ((List HeadS) × ((Nat × Unit) × ((List Int) × Unit))))))) := (q_z1i a0 a2 a3 a4 a5 a6 a7 a8)
 cond (ok_z1i a0 a2 a3 a4 a5 a6 a7 a8)
 (cond (y1.1.2.1 != (0 : Int))
 (some (encRes ro_z1m rh_z1m ((y1.1.2.1, ()), (((), (y1.2.1.2.1, ((), (y1.2.1.2.2.2.1, ())))), ((y1.2.2.1.1, ()), (y1.2.2.2.1, (y1.2.2.2.2.1, ((y1.2.2.2.2.2.1.1, ()), (y1.2.2.2.2.2.2.1, ())))))))))
 (cond (decide (a1 < (0 : Int)))
 (some (encRes ro_z1m rh_z1m (((1 : Int), ()), (((), (y1.2.1.2.1, ((), (y1.2.1.2.2.2.1, ())))), ((y1.2.2.1.1, ()), (y1.2.2.2.1, (y1.2.2.2.2.1, ((y1.2.2.2.2.2.1.1, ()), (y1.2.2.2.2.2.2.1, ())))))))))
 (let y4 : ((Int × Unit) × ((Nat × Unit) × ((List Int) × Unit))) := (q_z1k y1.1.1 a1 y1.2.2.1.1 y1.2.2.2.1)
 cond (ok_z1k y1.1.1 a1 y1.2.2.1.1 y1.2.2.2.1)
 (cond (y4.1.1 != (0 : Int))
 (some (encRes ro_z1m rh_z1m (((2 : Int), ()), (((), (y1.2.1.2.1, ((), (y1.2.1.2.2.2.1, ())))), ((y4.2.1.1, ()), (y4.2.2.1, (y1.2.2.2.2.1, ((y1.2.2.2.2.2.1.1, ()), (y1.2.2.2.2.2.2.1, ())))))))))
 (let y5 : (Unit × ((Unit × (Nat × (Unit × (Int × Unit)))) × ((Nat × Unit) × ((List Int) × ((List HeadS) × ((Nat × Unit) × ((List Int) × Unit))))))) := (q_z1l y1.1.1 a1 y1.2.1.2.1 y1.2.1.2.2.2.1 y4.2.1.1 y4.2.2.1 y1.2.2.2.2.1 y1.2.2.2.2.2.1.1 y1.2.2.2.2.2.2.1)
 cond (ok_z1l y1.1.1 a1 y1.2.1.2.1 y1.2.1.2.2.2.1 y4.2.1.1 y4.2.2.1 y1.2.2.2.2.1 y1.2.2.2.2.2.1.1 y1.2.2.2.2.2.2.1)
 (some (encRes ro_z1m rh_z1m (((0 : Int), ()), (((), (y5.2.1.2.1, ((), (y5.2.1.2.2.2.1, ())))), ((y5.2.2.1.1, ()), (y5.2.2.2.1, (y5.2.2.2.2.1, ((y5.2.2.2.2.2.1.1, ()), (y5.2.2.2.2.2.2.1, ())))))))))
 (none)))
 (let y2 : ((Int × Unit) × ((Nat × Unit) × ((List Int) × ((List Int) × Unit)))) := (q_z1k_1 y1.1.1 a1 y1.2.2.1.1 y1.2.2.2.1)
 cond (ok_z1k_1 y1.1.1 a1 y1.2.2.1.1 y1.2.2.2.1)
 (cond (y2.1.1 != (0 : Int))
 (some (encRes ro_z1m_1 rh_z1m_1 (((2 : Int), ()), (((), (y1.2.1.2.1, ((), (y1.2.1.2.2.2.1, ())))), ((y2.2.1.1, ()), (y2.2.2.1, (y1.2.2.2.2.1, ((y1.2.2.2.2.2.1.1, ()), (y1.2.2.2.2.2.2.1, (y2.2.2.2.1, ()))))))))))
 (let y3 : (Unit × ((Unit × (Nat × (Unit × (Int × Unit)))) × ((Nat × Unit) × ((List Int) × ((List HeadS) × ((Nat × Unit) × ((List Int) × Unit))))))) := (q_z1l y1.1.1 a1 y1.2.1.2.1 y1.2.1.2.2.2.1 y2.2.1.1 y2.2.2.2.1 y1.2.2.2.2.1 y1.2.2.2.2.2.1.1 y1.2.2.2.2.2.2.1)
 cond (ok_z1l y1.1.1 a1 y1.2.1.2.1 y1.2.1.2.2.2.1 y2.2.1.1 y2.2.2.2.1 y1.2.2.2.2.1 y1.2.2.2.2.2.1.1 y1.2.2.2.2.2.2.1)
 (some (encRes ro_z1m_1 rh_z1m_1 (((0 : Int), ()), (((), (y3.2.1.2.1, ((), (y3.2.1.2.2.2.1, ())))), ((y3.2.2.1.1, ()), (y2.2.2.1, (y3.2.2.2.2.1, ((y3.2.2.2.2.2.1.1, ()), (y3.2.2.2.2.2.2.1, (y3.2.2.2.1, ()))))))))))
 (none)))
 (none)))))
 (none)
noncomputable def Q_z1m (a0 : FieldS) (a1 : Int) (a2 : Nat) (a3 : Int) (a4 : Nat) (a5 : (List Int)) (a6 : (List HeadS)) (a7 : Nat) (a8 : (List Int)) : Option (RS ro_z1m rh_z1m) := decRes ro_z1m rh_z1m (M_z1m FUEL a0 a1 a2 a3 a4 a5 a6 a7 a8)
noncomputable def Q_z1m_1 (a0 : FieldS) (a1 : Int) (a2 : Nat) (a3 : Int) (a4 : Nat) (a5 : (List Int)) (a6 : (List HeadS)) (a7 : Nat) (a8 : (List Int)) : Option (RS ro_z1m_1 rh_z1m_1) := decRes ro_z1m_1 rh_z1m_1 (M_z1m FUEL a0 a1 a2 a3 a4 a5 a6 a7 a8)
noncomputable def ok_z1m_1 (a0 : FieldS) (a1 : Int) (a2 : Nat) (a3 : Int) (a4 : Nat) (a5 : (List Int)) (a6 : (List HeadS)) (a7 : Nat) (a8 : (List Int)) : Bool := (Q_z1m_1 a0 a1 a2 a3 a4 a5 a6 a7 a8).isSome
noncomputable def q_z1m_1 (a0 : FieldS) (a1 : Int) (a2 : Nat) (a3 : Int) (a4 : Nat) (a5 : (List Int)) (a6 : (List HeadS)) (a7 : Nat) (a8 : (List Int)) : RS ro_z1m_1 rh_z1m_1 := RS.get (Q_z1m_1 a0 a1 a2 a3 a4 a5 a6 a7 a8)
noncomputable def ok_z1m (a0 : FieldS) (a1 : Int) (a2 : Nat) (a3 : Int) (a4 : Nat) (a5 : (List Int)) (a6 : (List HeadS)) (a7 : Nat) (a8 : (List Int)) : Bool := (Q_z1m a0 a1 a2 a3 a4 a5 a6 a7 a8).isSome
noncomputable def q_z1m (a0 : FieldS) (a1 : Int) (a2 : Nat) (a3 : Int) (a4 : Nat) (a5 : (List Int)) (a6 : (List HeadS)) (a7 : Nat) (a8 : (List Int)) : RS ro_z1m rh_z1m := RS.get (Q_z1m a0 a1 a2 a3 a4 a5 a6 a7 a8)
/-! z1n: pack_Packet_Textx135 -/
abbrev ro_z1n : List EK := [.ty .str]
abbrev rh_z1n : List HK := [.one false [.ptr 1 0 0, .hs 3 0, .ptr 4 0 0, .ty (.int .i64)], .one false [.hs 2 0], .row (.int .u8), .row HeadT, .one false [.hs 5 0], .row (.int .u8)]
noncomputable def M_z1n (n : Nat) (a0 : Nat) (a1 : Int) (a2 : Nat) (a3 : (List Int)) (a4 : (List HeadS)) (a5 : Nat) (a6 : (List Int)) : Option Res :=
 let y1 : ((ByteArray × Unit) × ((Nat × Unit) × ((List Int) × Unit))) := (q_z03 a2 a3)
 cond (ok_z03 a2 a3)
 (some (encRes ro_z1n rh_z1n ((y1.1.1, ()), (((), (a0, ((), (a1, ())))), ((y1.2.1.1, ()), (y1.2.2.1, (a4, ((a5, ()), (a6, ())))))))))
 (none)
noncomputable def Q_z1n (a0 : Nat) (a1 : Int) (a2 : Nat) (a3 : (List Int)) (a4 : (List HeadS)) (a5 : Nat) (a6 : (List Int)) : Option (RS ro_z1n rh_z1n) := decRes ro_z1n rh_z1n (M_z1n FUEL a0 a1 a2 a3 a4 a5 a6)
noncomputable def ok_z1n (a0 : Nat) (a1 : Int) (a2 : Nat) (a3 : (List Int)) (a4 : (List HeadS)) (a5 : Nat) (a6 : (List Int)) : Bool := (Q_z1n a0 a1 a2 a3 a4 a5 a6).isSome
noncomputable def q_z1n (a0 : Nat) (a1 : Int) (a2 : Nat) (a3 : (List Int)) (a4 : (List HeadS)) (a5 : Nat) (a6 : (List Int)) : RS ro_z1n rh_z1n := RS.get (Q_z1n a0 a1 a2 a3 a4 a5 a6)
/-! z1o: turnoutlaw17_inPacket -/
abbrev ro_z1o : List EK := [.agg FieldT]
abbrev rh_z1o : List HK := []
noncomputable def M_z1o (n : Nat) (a0 : Int) (a1 : Int) : Option Res :=
 some (encRes ro_z1o rh_z1o ((((0 : Int), ((1 : Int), ((0 : Int), (a0, (a1, ()))))), ()), ()))
noncomputable def Q_z1o (a0 : Int) (a1 : Int) : Option (RS ro_z1o rh_z1o) := decRes ro_z1o rh_z1o (M_z1o FUEL a0 a1)
noncomputable def ok_z1o (a0 : Int) (a1 : Int) : Bool := (Q_z1o a0 a1).isSome
noncomputable def q_z1o (a0 : Int) (a1 : Int) : RS ro_z1o rh_z1o := RS.get (Q_z1o a0 a1)
/-! z1p: buf_Buf_Deletex37e -/
abbrev ro_z1p : List EK := [.ty (.int .i64)]
abbrev rh_z1p : List HK := [.one false [.hs 1 0], .row (.int .u8)]
noncomputable def M_z1p (n : Nat) (a0 : Int) (a1 : Int) (a2 : Nat) (a3 : (List Int)) : Option Res :=
 let y1 : ((Int × Unit) × ((Nat × Unit) × ((List Int) × Unit))) := (q_z1j a0 a1 a2 a3)
 cond (ok_z1j a0 a1 a2 a3)
 (cond (y1.1.1 == (0 : Int))
 (cond (decide ((0 : Int) ≤ a0 ∧ a0 ≤ ((y1.2.1.1 : Nat) : Int) ∧ ((y1.2.1.1 : Nat) : Int) ≤ ((y1.2.1.1 : Nat) : Int) ∧ ((y1.2.1.1 : Nat) : Int) ≤ ((y1.2.1.1 : Nat) : Int)))
 (cond (decide ((0 : Int) ≤ (IntKind.wrap .i64 (a0 + a1)) ∧ (IntKind.wrap .i64 (a0 + a1)) ≤ ((y1.2.1.1 : Nat) : Int) ∧ ((y1.2.1.1 : Nat) : Int) ≤ ((y1.2.1.1 : Nat) : Int) ∧ ((y1.2.1.1 : Nat) : Int) ≤ ((y1.2.1.1 : Nat) : Int)))
 (cond (decide ((0 + Int.toNat (IntKind.wrap .i64 (a0 + a1))) + (Int.toNat ((y1.2.1.1 : Nat) : Int) - Int.toNat (IntKind.wrap .i64 (a0 + a1))) ≤ (List.length y1.2.2.1)))
 (cond (decide ((0 + Int.toNat a0) + (Int.toNat ((y1.2.1.1 : Nat) : Int) - Int.toNat a0) ≤ (List.length y1.2.2.1)))
 (let y2 : Int := (((Nat.min (Int.toNat ((y1.2.1.1 : Nat) : Int) - Int.toNat (IntKind.wrap .i64 (a0 + a1))) (Int.toNat ((y1.2.1.1 : Nat) : Int) - Int.toNat a0)) : Nat) : Int)
 cond (decide ((0 : Int) ≤ (0 : Int) ∧ (0 : Int) ≤ (IntKind.wrap .i64 (a0 + y2)) ∧ (IntKind.wrap .i64 (a0 + y2)) ≤ ((y1.2.1.1 : Nat) : Int) ∧ ((y1.2.1.1 : Nat) : Int) ≤ ((y1.2.1.1 : Nat) : Int)))
 (some (encRes ro_z1p rh_z1p ((y1.1.1, ()), (((Int.toNat (IntKind.wrap .i64 (a0 + y2)) - Int.toNat (0 : Int)), ()), (((cutL (0 : Int) y1.2.2.1 0 (0 + Int.toNat a0)) ++ ((cutL (0 : Int) y1.2.2.1 (0 + Int.toNat (IntKind.wrap .i64 (a0 + a1))) (Nat.min (Int.toNat ((y1.2.1.1 : Nat) : Int) - Int.toNat (IntKind.wrap .i64 (a0 + a1))) (Int.toNat ((y1.2.1.1 : Nat) : Int) - Int.toNat a0))) ++ (cutL (0 : Int) y1.2.2.1 ((0 + Int.toNat a0) + (List.length (cutL (0 : Int) y1.2.2.1 (0 + Int.toNat (IntKind.wrap .i64 (a0 + a1))) (Nat.min (Int.toNat ((y1.2.1.1 : Nat) : Int) - Int.toNat (IntKind.wrap .i64 (a0 + a1))) (Int.toNat ((y1.2.1.1 : Nat) : Int) - Int.toNat a0))))) ((List.length y1.2.2.1) - ((0 + Int.toNat a0) + (List.length (cutL (0 : Int) y1.2.2.1 (0 + Int.toNat (IntKind.wrap .i64 (a0 + a1))) (Nat.min (Int.toNat ((y1.2.1.1 : Nat) : Int) - Int.toNat (IntKind.wrap .i64 (a0 + a1))) (Int.toNat ((y1.2.1.1 : Nat) : Int) - Int.toNat a0))))))))), ())))))
 (none))
 (none))
 (none))
 (none))
 (none))
 (some (encRes ro_z1p rh_z1p ((y1.1.1, ()), ((y1.2.1.1, ()), (y1.2.2.1, ()))))))
 (none)
noncomputable def Q_z1p (a0 : Int) (a1 : Int) (a2 : Nat) (a3 : (List Int)) : Option (RS ro_z1p rh_z1p) := decRes ro_z1p rh_z1p (M_z1p FUEL a0 a1 a2 a3)
noncomputable def ok_z1p (a0 : Int) (a1 : Int) (a2 : Nat) (a3 : (List Int)) : Bool := (Q_z1p a0 a1 a2 a3).isSome
noncomputable def q_z1p (a0 : Int) (a1 : Int) (a2 : Nat) (a3 : (List Int)) : RS ro_z1p rh_z1p := RS.get (Q_z1p a0 a1 a2 a3)
/-! z1q: pack_Packet_Delete_1x183 -/
abbrev ro_z1q : List EK := [.ty .bool]
abbrev rh_z1q : List HK := [.one true [.ty (.int .i64)], .one true [.ty (.int .i64)]]
noncomputable def M_z1q (n : Nat) (a0 : HeadS) (a1 : Int) (a2 : Int) : Option Res :=
 cond (decide (a0.2.1 ≥ a1))
 (some (encRes ro_z1q rh_z1q (((decide (a0.2.1 < (IntKind.wrap .i64 (a1 + a2)))), ()), ((a1, ()), ((a2, ()), ())))))
 (some (encRes ro_z1q rh_z1q ((false, ()), ((a1, ()), ((a2, ()), ())))))
noncomputable def Q_z1q (a0 : HeadS) (a1 : Int) (a2 : Int) : Option (RS ro_z1q rh_z1q) := decRes ro_z1q rh_z1q (M_z1q FUEL a0 a1 a2)
noncomputable def ok_z1q (a0 : HeadS) (a1 : Int) (a2 : Int) : Bool := (Q_z1q a0 a1 a2).isSome
noncomputable def q_z1q (a0 : HeadS) (a1 : Int) (a2 : Int) : RS ro_z1q rh_z1q := RS.get (Q_z1q a0 a1 a2)
/-! z1r: slices_IndexFunc -/
abbrev ro_z1r : List EK := [.ty (.int .i64)]
abbrev rh_z1r : List HK := [.one true [.ty (.int .i64)], .one true [.ty (.int .i64)]]
noncomputable def F_z1r_0 (n : Nat) (k_r : Int → Int → Int → Option Res) (k_t0 : Int → Int → Option Res) (x0_0 : (List HeadS)) (x0_1 : Int) (rec : Int → Int → Int → Option Res) (x0_2 : Int) (x0_3 : Int) (x0_4 : Int) : Option Res :=
 cond (decide (x0_2 < x0_1))
 (cond (decide ((0 : Int) ≤ x0_2 ∧ x0_2 < (((List.length x0_0) : Nat) : Int)))
 (let y1 : ((Bool × Unit) × ((Int × Unit) × ((Int × Unit) × Unit))) := (q_z1q (rdd zHeadS x0_0 (Int.toNat x0_2)) x0_3 x0_4)
 cond (ok_z1q (rdd zHeadS x0_0 (Int.toNat x0_2)) x0_3 x0_4)
 (cond y1.1.1
 (k_r x0_2 y1.2.1.1 y1.2.2.1.1)
 (rec (IntKind.wrap .i64 (x0_2 + (1 : Int))) y1.2.1.1 y1.2.2.1.1))
 (none))
 (none))
 (k_t0 x0_3 x0_4)
noncomputable def L_z1r_0 (n : Nat) (k_r : Int → Int → Int → Option Res) (k_t0 : Int → Int → Option Res) (x0_0 : (List HeadS)) (x0_1 : Int) : Nat → Int → Int → Int → Option Res
  | 0, _, _, _ => none
  | m + 1, x0_2, x0_3, x0_4 => F_z1r_0 n k_r k_t0 x0_0 x0_1 (L_z1r_0 n k_r k_t0 x0_0 x0_1 m) x0_2 x0_3 x0_4
noncomputable def M_z1r (n : Nat) (a0 : (List HeadS)) (a1 : Int) (a2 : Int) : Option Res :=
 L_z1r_0 n
  (fun y2 y3 y4 => some (encRes ro_z1r rh_z1r ((y2, ()), ((y3, ()), ((y4, ()), ())))))
  (fun y5 y6 => some (encRes ro_z1r rh_z1r (((-1 : Int), ()), ((y5, ()), ((y6, ()), ())))))
  a0
  (((List.length a0) : Nat) : Int)
  n
  (0 : Int)
  a1
  a2
noncomputable def Q_z1r (a0 : (List HeadS)) (a1 : Int) (a2 : Int) : Option (RS ro_z1r rh_z1r) := decRes ro_z1r rh_z1r (M_z1r FUEL a0 a1 a2)
noncomputable def ok_z1r (a0 : (List HeadS)) (a1 : Int) (a2 : Int) : Bool := (Q_z1r a0 a1 a2).isSome
noncomputable def q_z1r (a0 : (List HeadS)) (a1 : Int) (a2 : Int) : RS ro_z1r rh_z1r := RS.get (Q_z1r a0 a1 a2)
/-! z1s: slices_DeleteFunc -/
abbrev ro_z1s : List EK := [.hs 0 0]
abbrev rh_z1s : List HK := [.row HeadT, .one true [.ty (.int .i64)], .one true [.ty (.int .i64)]]
noncomputable def F_z1s_0 (n : Nat) (k_t0 : Int → (List HeadS) → Int → Int → Option Res) (x0_0 : Nat) (rec : Int → Int → (List HeadS) → Int → Int → Option Res) (x0_1 : Int) (x0_2 : Int) (x0_3 : (List HeadS)) (x0_4 : Int) (x0_5 : Int) : Option Res :=
 cond (decide (x0_2 < ((x0_0 : Nat) : Int)))
 (cond (decide ((0 : Int) ≤ x0_2 ∧ x0_2 < ((x0_0 : Nat) : Int)))
 (let y2 : ((Bool × Unit) × ((Int × Unit) × ((Int × Unit) × Unit))) := (q_z1q (rdd zHeadS x0_3 (Int.toNat x0_2)) x0_4 x0_5)
 cond (ok_z1q (rdd zHeadS x0_3 (Int.toNat x0_2)) x0_4 x0_5)
 (cond (!y2.1.1)
 (cond (decide ((0 : Int) ≤ x0_1 ∧ x0_1 < ((x0_0 : Nat) : Int)))
 (rec (IntKind.wrap .i64 (x0_1 + (1 : Int))) (IntKind.wrap .i64 (x0_2 + (1 : Int))) (List.set x0_3 (Int.toNat x0_1) (rdd zHeadS x0_3 (Int.toNat x0_2))) y2.2.1.1 y2.2.2.1.1)
 (none))
 (rec x0_1 (IntKind.wrap .i64 (x0_2 + (1 : Int))) x0_3 y2.2.1.1 y2.2.2.1.1))
 (none))
 (none))
 (k_t0 x0_1 x0_3 x0_4 x0_5)
noncomputable def L_z1s_0 (n : Nat) (k_t0 : Int → (List HeadS) → Int → Int → Option Res) (x0_0 : Nat) : Nat → Int → Int → (List HeadS) → Int → Int → Option Res
  | 0, _, _, _, _, _ => none
  | m + 1, x0_1, x0_2, x0_3, x0_4, x0_5 => F_z1s_0 n k_t0 x0_0 (L_z1s_0 n k_t0 x0_0 m) x0_1 x0_2 x0_3 x0_4 x0_5
noncomputable def M_z1s (n : Nat) (a0 : Nat) (a1 : (List HeadS)) (a2 : Int) (a3 : Int) : Option Res :=
 let y1 : ((Int × Unit) × ((Int × Unit) × ((Int × Unit) × Unit))) := (q_z1r (cutL zHeadS a1 0 a0) a2 a3)
 cond (ok_z1r (cutL zHeadS a1 0 a0) a2 a3)
 (cond (y1.1.1 == (-1 : Int))
 (some (encRes ro_z1s rh_z1s ((a0, ()), (a1, ((y1.2.1.1, ()), ((y1.2.2.1.1, ()), ()))))))
 (L_z1s_0 n
  (fun y3 y4 y5 y6 => cond (decide ((0 : Int) ≤ y3 ∧ y3 ≤ ((a0 : Nat) : Int) ∧ ((a0 : Nat) : Int) ≤ ((a0 : Nat) : Int) ∧ ((a0 : Nat) : Int) ≤ ((a0 : Nat) : Int)))
 (cond (decide ((0 + Int.toNat y3) + (Int.toNat ((a0 : Nat) : Int) - Int.toNat y3) ≤ (List.length y4)))
 (cond (decide ((0 : Int) ≤ (0 : Int) ∧ (0 : Int) ≤ y3 ∧ y3 ≤ ((a0 : Nat) : Int) ∧ ((a0 : Nat) : Int) ≤ ((a0 : Nat) : Int)))
 (some (encRes ro_z1s rh_z1s (((Int.toNat y3 - Int.toNat (0 : Int)), ()), (((cutL zHeadS y4 0 (0 + Int.toNat y3)) ++ ((mkL (Int.toNat ((a0 : Nat) : Int) - Int.toNat y3) (fun _ => zHeadS)) ++ (cutL zHeadS y4 ((0 + Int.toNat y3) + (List.length (mkL (Int.toNat ((a0 : Nat) : Int) - Int.toNat y3) (fun _ => zHeadS)))) ((List.length y4) - ((0 + Int.toNat y3) + (List.length (mkL (Int.toNat ((a0 : Nat) : Int) - Int.toNat y3) (fun _ => zHeadS)))))))), ((y5, ()), ((y6, ()), ()))))))
 (none))
 (none))
 (none))
  a0
  n
  y1.1.1
  (IntKind.wrap .i64 (y1.1.1 + (1 : Int)))
  a1
  y1.2.1.1
  y1.2.2.1.1))
 (none)
noncomputable def Q_z1s (a0 : Nat) (a1 : (List HeadS)) (a2 : Int) (a3 : Int) : Option (RS ro_z1s rh_z1s) := decRes ro_z1s rh_z1s (M_z1s FUEL a0 a1 a2 a3)
noncomputable def ok_z1s (a0 : Nat) (a1 : (List HeadS)) (a2 : Int) (a3 : Int) : Bool := (Q_z1s a0 a1 a2 a3).isSome
noncomputable def q_z1s (a0 : Nat) (a1 : (List HeadS)) (a2 : Int) (a3 : Int) : RS ro_z1s rh_z1s := RS.get (Q_z1s a0 a1 a2 a3)
/-! z1t: pack_Packet_Deletexe10 -/
abbrev ro_z1t : List EK := [.ty (.int .i64)]
abbrev rh_z1t : List HK := [.one false [.ptr 1 0 0, .hs 3 0, .ptr 4 0 0, .ty (.int .i64)], .one false [.hs 2 0], .row (.int .u8), .row HeadT, .one false [.hs 5 0], .row (.int .u8)]
noncomputable def M_z1t (n : Nat) (a0 : FieldS) (a1 : Int) (a2 : Nat) (a3 : Int) (a4 : Nat) (a5 : (List Int)) (a6 : (List HeadS)) (a7 : Nat) (a8 : (List Int)) : Option Res :=
 let y1 : ((Int × (Int × Unit)) × ((Unit × (Nat × (Unit × (Int × Unit)))) × ((Nat × Unit) × ((List Int) × ((List HeadS) × ((Nat × Unit) × ((List Int) × Unit))))))) := (q_z1i a0 a2 a3 a4 a5 a6 a7 a8)
 cond (ok_z1i a0 a2 a3 a4 a5 a6 a7 a8)
 (cond (y1.1.2.1 != (0 : Int))
 (some (encRes ro_z1t rh_z1t ((y1.1.2.1, ()), (((), (y1.2.1.2.1, ((), (y1.2.1.2.2.2.1, ())))), ((y1.2.2.1.1, ()), (y1.2.2.2.1, (y1.2.2.2.2.1, ((y1.2.2.2.2.2.1.1, ()), (y1.2.2.2.2.2.2.1, ())))))))))
 (let y2 : ((Int × Unit) × ((Nat × Unit) × ((List Int) × Unit))) := (q_z1p y1.1.1 a1 y1.2.2.1.1 y1.2.2.2.1)
 cond (ok_z1p y1.1.1 a1 y1.2.2.1.1 y1.2.2.2.1)
 (cond (y2.1.1 != (0 : Int))
 (some (encRes ro_z1t rh_z1t (((1 : Int), ()), (((), (y1.2.1.2.1, ((), (y1.2.1.2.2.2.1, ())))), ((y2.2.1.1, ()), (y2.2.2.1, (y1.2.2.2.2.1, ((y1.2.2.2.2.2.1.1, ()), (y1.2.2.2.2.2.2.1, ())))))))))
 (let y3 : ((Nat × Unit) × ((List HeadS) × ((Int × Unit) × ((Int × Unit) × Unit)))) := (q_z1s y1.2.1.2.1 y1.2.2.2.2.1 y1.1.1 a1)
 cond (ok_z1s y1.2.1.2.1 y1.2.2.2.2.1 y1.1.1 a1)
 (let y4 : (Unit × ((Unit × (Nat × (Unit × (Int × Unit)))) × ((Nat × Unit) × ((List Int) × ((List HeadS) × ((Nat × Unit) × ((List Int) × Unit))))))) := (q_z1l y3.2.2.1.1 (IntKind.wrap .i64 (0 - y3.2.2.2.1.1)) y3.1.1 y1.2.1.2.2.2.1 y2.2.1.1 y2.2.2.1 y3.2.1 y1.2.2.2.2.2.1.1 y1.2.2.2.2.2.2.1)
 cond (ok_z1l y3.2.2.1.1 (IntKind.wrap .i64 (0 - y3.2.2.2.1.1)) y3.1.1 y1.2.1.2.2.2.1 y2.2.1.1 y2.2.2.1 y3.2.1 y1.2.2.2.2.2.1.1 y1.2.2.2.2.2.2.1)
 (some (encRes ro_z1t rh_z1t (((0 : Int), ()), (((), (y4.2.1.2.1, ((), (y4.2.1.2.2.2.1, ())))), ((y4.2.2.1.1, ()), (y4.2.2.2.1, (y4.2.2.2.2.1, ((y4.2.2.2.2.2.1.1, ()), (y4.2.2.2.2.2.2.1, ())))))))))
 (none))
 (none)))
 (none)))
 (none)
noncomputable def Q_z1t (a0 : FieldS) (a1 : Int) (a2 : Nat) (a3 : Int) (a4 : Nat) (a5 : (List Int)) (a6 : (List HeadS)) (a7 : Nat) (a8 : (List Int)) : Option (RS ro_z1t rh_z1t) := decRes ro_z1t rh_z1t (M_z1t FUEL a0 a1 a2 a3 a4 a5 a6 a7 a8)
noncomputable def ok_z1t (a0 : FieldS) (a1 : Int) (a2 : Nat) (a3 : Int) (a4 : Nat) (a5 : (List Int)) (a6 : (List HeadS)) (a7 : Nat) (a8 : (List Int)) : Bool := (Q_z1t a0 a1 a2 a3 a4 a5 a6 a7 a8).isSome
noncomputable def q_z1t (a0 : FieldS) (a1 : Int) (a2 : Nat) (a3 : Int) (a4 : Nat) (a5 : (List Int)) (a6 : (List HeadS)) (a7 : Nat) (a8 : (List Int)) : RS ro_z1t rh_z1t := RS.get (Q_z1t a0 a1 a2 a3 a4 a5 a6 a7 a8)
/-! z1u: turnoutlaw17_awake -/
abbrev ro_z1u : List EK := [.ty .bool]
abbrev rh_z1u : List HK := []
noncomputable def M_z1u (n : Nat) : Option Res :=
 let y34 : ((Unit × Unit) × Unit) := q_z11
 cond ok_z11
 (some (encRes ro_z1u rh_z1u ((false, ()), ())))
 (let y1 : ((Unit × Unit) × ((Unit × (Nat × (Unit × (Int × Unit)))) × ((Nat × Unit) × ((List Int) × ((List HeadS) × ((Nat × Unit) × ((List Int) × Unit))))))) := q_z11_1
 cond ok_z11_1
 (let y2 : ((Nat × Unit) × ((Unit × (Nat × (Unit × (Int × Unit)))) × ((Nat × Unit) × ((List Int) × ((List HeadS) × ((Nat × Unit) × ((List Int) × ((List HeadS) × Unit)))))))) := (q_z13 y1.2.1.2.1 y1.2.1.2.2.2.1 y1.2.2.1.1 y1.2.2.2.1 y1.2.2.2.2.1 y1.2.2.2.2.2.1.1 y1.2.2.2.2.2.2.1)
 cond (ok_z13 y1.2.1.2.1 y1.2.1.2.2.2.1 y1.2.2.1.1 y1.2.2.2.1 y1.2.2.2.2.1 y1.2.2.2.2.2.1.1 y1.2.2.2.2.2.2.1)
 (let y3 : ((Bool × Unit) × Unit) := (q_z14 (cutL zHeadS y2.2.2.2.2.2.2.2.1 0 y2.1.1) ([((1 : Int), ((0 : Int), ())), ((2 : Int), ((2 : Int), ()))]))
 cond (ok_z14 (cutL zHeadS y2.2.2.2.2.2.2.2.1 0 y2.1.1) ([((1 : Int), ((0 : Int), ())), ((2 : Int), ((2 : Int), ()))]))
 (cond (!y3.1.1)
 (some (encRes ro_z1u rh_z1u ((false, ()), ())))
 (let y4 : ((Int × Unit) × ((Unit × (Nat × (Unit × (Int × Unit)))) × ((Nat × Unit) × ((List Int) × ((List HeadS) × ((Nat × Unit) × ((List Int) × Unit))))))) := (q_z15 y2.2.1.2.1 y2.2.1.2.2.2.1 y2.2.2.1.1 y2.2.2.2.1 y2.2.2.2.2.1 y2.2.2.2.2.2.1.1 y2.2.2.2.2.2.2.1)
 cond (ok_z15 y2.2.1.2.1 y2.2.1.2.2.2.1 y2.2.2.1.1 y2.2.2.2.1 y2.2.2.2.2.1 y2.2.2.2.2.2.1.1 y2.2.2.2.2.2.2.1)
 (cond (y4.1.1 != (3 : Int))
 (some (encRes ro_z1u rh_z1u ((false, ()), ())))
 (let y5 : ((FieldS × Unit) × Unit) := (q_z16 (2 : Int) (0 : Int) (8 : Int))
 cond (ok_z16 (2 : Int) (0 : Int) (8 : Int))
 (let y6 : ((WordS × (Int × Unit)) × ((Unit × (Nat × (Unit × (Int × Unit)))) × ((Nat × Unit) × ((List Int) × ((List HeadS) × ((Nat × Unit) × ((List Int) × Unit))))))) := (q_z1c y5.1.1 y4.2.1.2.1 y4.2.1.2.2.2.1 y4.2.2.1.1 y4.2.2.2.1 y4.2.2.2.2.1 y4.2.2.2.2.2.1.1 y4.2.2.2.2.2.2.1)
 cond (ok_z1c y5.1.1 y4.2.1.2.1 y4.2.1.2.2.2.1 y4.2.2.1.1 y4.2.2.2.1 y4.2.2.2.2.1 y4.2.2.2.2.2.1.1 y4.2.2.2.2.2.2.1)
 (cond (y6.1.2.1 != (0 : Int))
 (some (encRes ro_z1u rh_z1u ((false, ()), ())))
 (cond (!((y6.1.1.1 == (0 : Int)) && ((y6.1.1.2.1 == (2 : Int)) && true)))
 (some (encRes ro_z1u rh_z1u ((false, ()), ())))
 (let y7 : ((FieldS × Unit) × Unit) := (q_z16 (2 : Int) (0 : Int) (8 : Int))
 cond (ok_z16 (2 : Int) (0 : Int) (8 : Int))
 (let y21 : ((Int × Unit) × ((Unit × (Nat × (Unit × (Int × Unit)))) × ((Nat × Unit) × ((List Int) × ((List HeadS) × ((Nat × Unit) × ((List Int) × Unit))))))) := (q_z1m y7.1.1 (1 : Int) y6.2.1.2.1 y6.2.1.2.2.2.1 y6.2.2.1.1 y6.2.2.2.1 y6.2.2.2.2.1 y6.2.2.2.2.2.1.1 y6.2.2.2.2.2.2.1)
 cond (ok_z1m y7.1.1 (1 : Int) y6.2.1.2.1 y6.2.1.2.2.2.1 y6.2.2.1.1 y6.2.2.2.1 y6.2.2.2.2.1 y6.2.2.2.2.2.1.1 y6.2.2.2.2.2.2.1)
 (cond (y21.1.1 != (0 : Int))
 (some (encRes ro_z1u rh_z1u ((false, ()), ())))
 (let y22 : ((ByteArray × Unit) × ((Unit × (Nat × (Unit × (Int × Unit)))) × ((Nat × Unit) × ((List Int) × ((List HeadS) × ((Nat × Unit) × ((List Int) × Unit))))))) := (q_z1n y21.2.1.2.1 y21.2.1.2.2.2.1 y21.2.2.1.1 y21.2.2.2.1 y21.2.2.2.2.1 y21.2.2.2.2.2.1.1 y21.2.2.2.2.2.2.1)
 cond (ok_z1n y21.2.1.2.1 y21.2.1.2.2.2.1 y21.2.2.1.1 y21.2.2.2.1 y21.2.2.2.2.1 y21.2.2.2.2.2.1.1 y21.2.2.2.2.2.2.1)
 (cond (!(ByteArray.toList y22.1.1 == ByteArray.toList (ByteArray.mk #[0, 5, 0, 2, 255, 255, 255])))
 (some (encRes ro_z1u rh_z1u ((false, ()), ())))
 (let y23 : ((Nat × Unit) × ((Unit × (Nat × (Unit × (Int × Unit)))) × ((Nat × Unit) × ((List Int) × ((List HeadS) × ((Nat × Unit) × ((List Int) × ((List HeadS) × Unit)))))))) := (q_z13 y22.2.1.2.1 y22.2.1.2.2.2.1 y22.2.2.1.1 y22.2.2.2.1 y22.2.2.2.2.1 y22.2.2.2.2.2.1.1 y22.2.2.2.2.2.2.1)
 cond (ok_z13 y22.2.1.2.1 y22.2.1.2.2.2.1 y22.2.2.1.1 y22.2.2.2.1 y22.2.2.2.2.1 y22.2.2.2.2.2.1.1 y22.2.2.2.2.2.2.1)
 (let y24 : ((Bool × Unit) × Unit) := (q_z14 (cutL zHeadS y23.2.2.2.2.2.2.2.1 0 y23.1.1) ([((1 : Int), ((0 : Int), ())), ((2 : Int), ((3 : Int), ()))]))
 cond (ok_z14 (cutL zHeadS y23.2.2.2.2.2.2.2.1 0 y23.1.1) ([((1 : Int), ((0 : Int), ())), ((2 : Int), ((3 : Int), ()))]))
 (cond (!y24.1.1)
 (some (encRes ro_z1u rh_z1u ((false, ()), ())))
 (let y25 : ((FieldS × Unit) × Unit) := (q_z1o (16 : Int) (1 : Int))
 cond (ok_z1o (16 : Int) (1 : Int))
 (let y26 : ((Int × Unit) × ((Unit × (Nat × (Unit × (Int × Unit)))) × ((Nat × Unit) × ((List Int) × ((List HeadS) × ((Nat × Unit) × ((List Int) × Unit))))))) := (q_z1t y25.1.1 (2 : Int) y23.2.1.2.1 y23.2.1.2.2.2.1 y23.2.2.1.1 y23.2.2.2.1 y23.2.2.2.2.1 y23.2.2.2.2.2.1.1 y23.2.2.2.2.2.2.1)
 cond (ok_z1t y25.1.1 (2 : Int) y23.2.1.2.1 y23.2.1.2.2.2.1 y23.2.2.1.1 y23.2.2.2.1 y23.2.2.2.2.1 y23.2.2.2.2.2.1.1 y23.2.2.2.2.2.2.1)
 (cond (y26.1.1 != (0 : Int))
 (some (encRes ro_z1u rh_z1u ((false, ()), ())))
 (let y27 : ((ByteArray × Unit) × ((Unit × (Nat × (Unit × (Int × Unit)))) × ((Nat × Unit) × ((List Int) × ((List HeadS) × ((Nat × Unit) × ((List Int) × Unit))))))) := (q_z1n y26.2.1.2.1 y26.2.1.2.2.2.1 y26.2.2.1.1 y26.2.2.2.1 y26.2.2.2.2.1 y26.2.2.2.2.2.1.1 y26.2.2.2.2.2.2.1)
 cond (ok_z1n y26.2.1.2.1 y26.2.1.2.2.2.1 y26.2.2.1.1 y26.2.2.2.1 y26.2.2.2.2.1 y26.2.2.2.2.2.1.1 y26.2.2.2.2.2.2.1)
 (cond (!(ByteArray.toList y27.1.1 == ByteArray.toList (ByteArray.mk #[0, 5, 255, 255, 255])))
 (some (encRes ro_z1u rh_z1u ((false, ()), ())))
 (let y28 : ((Nat × Unit) × ((Unit × (Nat × (Unit × (Int × Unit)))) × ((Nat × Unit) × ((List Int) × ((List HeadS) × ((Nat × Unit) × ((List Int) × ((List HeadS) × Unit)))))))) := (q_z13 y27.2.1.2.1 y27.2.1.2.2.2.1 y27.2.2.1.1 y27.2.2.2.1 y27.2.2.2.2.1 y27.2.2.2.2.2.1.1 y27.2.2.2.2.2.2.1)
 cond (ok_z13 y27.2.1.2.1 y27.2.1.2.2.2.1 y27.2.2.1.1 y27.2.2.2.1 y27.2.2.2.2.1 y27.2.2.2.2.2.1.1 y27.2.2.2.2.2.2.1)
 (let y29 : ((Bool × Unit) × Unit) := (q_z14 (cutL zHeadS y28.2.2.2.2.2.2.2.1 0 y28.1.1) ([((1 : Int), ((0 : Int), ()))]))
 cond (ok_z14 (cutL zHeadS y28.2.2.2.2.2.2.2.1 0 y28.1.1) ([((1 : Int), ((0 : Int), ()))]))
 (cond (!y29.1.1)
 (some (encRes ro_z1u rh_z1u ((false, ()), ())))
 (let y30 : ((FieldS × Unit) × Unit) := (q_z16 (2 : Int) (0 : Int) (8 : Int))
 cond (ok_z16 (2 : Int) (0 : Int) (8 : Int))
 (let y31 : ((WordS × (Int × Unit)) × ((Unit × (Nat × (Unit × (Int × Unit)))) × ((Nat × Unit) × ((List Int) × ((List HeadS) × ((Nat × Unit) × ((List Int) × Unit))))))) := (q_z1c y30.1.1 y28.2.1.2.1 y28.2.1.2.2.2.1 y28.2.2.1.1 y28.2.2.2.1 y28.2.2.2.2.1 y28.2.2.2.2.2.1.1 y28.2.2.2.2.2.2.1)
 cond (ok_z1c y30.1.1 y28.2.1.2.1 y28.2.1.2.2.2.1 y28.2.2.1.1 y28.2.2.2.1 y28.2.2.2.2.1 y28.2.2.2.2.2.1.1 y28.2.2.2.2.2.2.1)
 (let y32 : ((FieldS × Unit) × Unit) := (q_z1o (36 : Int) (8 : Int))
 cond (ok_z1o (36 : Int) (8 : Int))
 (let y33 : ((WordS × (Int × Unit)) × ((Unit × (Nat × (Unit × (Int × Unit)))) × ((Nat × Unit) × ((List Int) × ((List HeadS) × ((Nat × Unit) × ((List Int) × Unit))))))) := (q_z1c y32.1.1 y31.2.1.2.1 y31.2.1.2.2.2.1 y31.2.2.1.1 y31.2.2.2.1 y31.2.2.2.2.1 y31.2.2.2.2.2.1.1 y31.2.2.2.2.2.2.1)
 cond (ok_z1c y32.1.1 y31.2.1.2.1 y31.2.1.2.2.2.1 y31.2.2.1.1 y31.2.2.2.1 y31.2.2.2.2.1 y31.2.2.2.2.2.1.1 y31.2.2.2.2.2.2.1)
 (cond (y31.1.2.1 == (3 : Int))
 (some (encRes ro_z1u rh_z1u (((y33.1.2.1 == (1 : Int)), ()), ())))
 (some (encRes ro_z1u rh_z1u ((false, ()), ()))))
 (none))
 (none))
 (none))
 (none)))
 (none))
 (none)))
 (none)))
 (none))
 (none)))
 (none))
 (none)))
 (none)))
 (let y8 : ((Int × Unit) × ((Unit × (Nat × (Unit × (Int × Unit)))) × ((Nat × Unit) × ((List Int) × ((List HeadS) × ((Nat × Unit) × ((List Int) × ((List Int) × Unit)))))))) := (q_z1m_1 y7.1.1 (1 : Int) y6.2.1.2.1 y6.2.1.2.2.2.1 y6.2.2.1.1 y6.2.2.2.1 y6.2.2.2.2.1 y6.2.2.2.2.2.1.1 y6.2.2.2.2.2.2.1)
 cond (ok_z1m_1 y7.1.1 (1 : Int) y6.2.1.2.1 y6.2.1.2.2.2.1 y6.2.2.1.1 y6.2.2.2.1 y6.2.2.2.2.1 y6.2.2.2.2.2.1.1 y6.2.2.2.2.2.2.1)
 (cond (y8.1.1 != (0 : Int))
 (some (encRes ro_z1u rh_z1u ((false, ()), ())))
 (let y9 : ((ByteArray × Unit) × ((Unit × (Nat × (Unit × (Int × Unit)))) × ((Nat × Unit) × ((List Int) × ((List HeadS) × ((Nat × Unit) × ((List Int) × Unit))))))) := (q_z1n y8.2.1.2.1 y8.2.1.2.2.2.1 y8.2.2.1.1 y8.2.2.2.2.2.2.2.1 y8.2.2.2.2.1 y8.2.2.2.2.2.1.1 y8.2.2.2.2.2.2.1)
 cond (ok_z1n y8.2.1.2.1 y8.2.1.2.2.2.1 y8.2.2.1.1 y8.2.2.2.2.2.2.2.1 y8.2.2.2.2.1 y8.2.2.2.2.2.1.1 y8.2.2.2.2.2.2.1)
 (cond (!(ByteArray.toList y9.1.1 == ByteArray.toList (ByteArray.mk #[0, 5, 0, 2, 255, 255, 255])))
 (some (encRes ro_z1u rh_z1u ((false, ()), ())))
 (let y10 : ((Nat × Unit) × ((Unit × (Nat × (Unit × (Int × Unit)))) × ((Nat × Unit) × ((List Int) × ((List HeadS) × ((Nat × Unit) × ((List Int) × ((List HeadS) × Unit)))))))) := (q_z13 y9.2.1.2.1 y9.2.1.2.2.2.1 y9.2.2.1.1 y9.2.2.2.1 y9.2.2.2.2.1 y9.2.2.2.2.2.1.1 y9.2.2.2.2.2.2.1)
 cond (ok_z13 y9.2.1.2.1 y9.2.1.2.2.2.1 y9.2.2.1.1 y9.2.2.2.1 y9.2.2.2.2.1 y9.2.2.2.2.2.1.1 y9.2.2.2.2.2.2.1)
 (let y11 : ((Bool × Unit) × Unit) := (q_z14 (cutL zHeadS y10.2.2.2.2.2.2.2.1 0 y10.1.1) ([((1 : Int), ((0 : Int), ())), ((2 : Int), ((3 : Int), ()))]))
 cond (ok_z14 (cutL zHeadS y10.2.2.2.2.2.2.2.1 0 y10.1.1) ([((1 : Int), ((0 : Int), ())), ((2 : Int), ((3 : Int), ()))]))
 (cond (!y11.1.1)
 (some (encRes ro_z1u rh_z1u ((false, ()), ())))
 (let y12 : ((FieldS × Unit) × Unit) := (q_z1o (16 : Int) (1 : Int))
 cond (ok_z1o (16 : Int) (1 : Int))
 (let y13 : ((Int × Unit) × ((Unit × (Nat × (Unit × (Int × Unit)))) × ((Nat × Unit) × ((List Int) × ((List HeadS) × ((Nat × Unit) × ((List Int) × Unit))))))) := (q_z1t y12.1.1 (2 : Int) y10.2.1.2.1 y10.2.1.2.2.2.1 y10.2.2.1.1 y10.2.2.2.1 y10.2.2.2.2.1 y10.2.2.2.2.2.1.1 y10.2.2.2.2.2.2.1)
 cond (ok_z1t y12.1.1 (2 : Int) y10.2.1.2.1 y10.2.1.2.2.2.1 y10.2.2.1.1 y10.2.2.2.1 y10.2.2.2.2.1 y10.2.2.2.2.2.1.1 y10.2.2.2.2.2.2.1)
 (cond (y13.1.1 != (0 : Int))
 (some (encRes ro_z1u rh_z1u ((false, ()), ())))
 (let y14 : ((ByteArray × Unit) × ((Unit × (Nat × (Unit × (Int × Unit)))) × ((Nat × Unit) × ((List Int) × ((List HeadS) × ((Nat × Unit) × ((List Int) × Unit))))))) := (q_z1n y13.2.1.2.1 y13.2.1.2.2.2.1 y13.2.2.1.1 y13.2.2.2.1 y13.2.2.2.2.1 y13.2.2.2.2.2.1.1 y13.2.2.2.2.2.2.1)
 cond (ok_z1n y13.2.1.2.1 y13.2.1.2.2.2.1 y13.2.2.1.1 y13.2.2.2.1 y13.2.2.2.2.1 y13.2.2.2.2.2.1.1 y13.2.2.2.2.2.2.1)
 (cond (!(ByteArray.toList y14.1.1 == ByteArray.toList (ByteArray.mk #[0, 5, 255, 255, 255])))
 (some (encRes ro_z1u rh_z1u ((false, ()), ())))
 (let y15 : ((Nat × Unit) × ((Unit × (Nat × (Unit × (Int × Unit)))) × ((Nat × Unit) × ((List Int) × ((List HeadS) × ((Nat × Unit) × ((List Int) × ((List HeadS) × Unit)))))))) := (q_z13 y14.2.1.2.1 y14.2.1.2.2.2.1 y14.2.2.1.1 y14.2.2.2.1 y14.2.2.2.2.1 y14.2.2.2.2.2.1.1 y14.2.2.2.2.2.2.1)
 cond (ok_z13 y14.2.1.2.1 y14.2.1.2.2.2.1 y14.2.2.1.1 y14.2.2.2.1 y14.2.2.2.2.1 y14.2.2.2.2.2.1.1 y14.2.2.2.2.2.2.1)
 (let y16 : ((Bool × Unit) × Unit) := (q_z14 (cutL zHeadS y15.2.2.2.2.2.2.2.1 0 y15.1.1) ([((1 : Int), ((0 : Int), ()))]))
 cond (ok_z14 (cutL zHeadS y15.2.2.2.2.2.2.2.1 0 y15.1.1) ([((1 : Int), ((0 : Int), ()))]))
 (cond (!y16.1.1)
 (some (encRes ro_z1u rh_z1u ((false, ()), ())))
 (let y17 : ((FieldS × Unit) × Unit) := (q_z16 (2 : Int) (0 : Int) (8 : Int))
 cond (ok_z16 (2 : Int) (0 : Int) (8 : Int))
 (let y18 : ((WordS × (Int × Unit)) × ((Unit × (Nat × (Unit × (Int × Unit)))) × ((Nat × Unit) × ((List Int) × ((List HeadS) × ((Nat × Unit) × ((List Int) × Unit))))))) := (q_z1c y17.1.1 y15.2.1.2.1 y15.2.1.2.2.2.1 y15.2.2.1.1 y15.2.2.2.1 y15.2.2.2.2.1 y15.2.2.2.2.2.1.1 y15.2.2.2.2.2.2.1)
 cond (ok_z1c y17.1.1 y15.2.1.2.1 y15.2.1.2.2.2.1 y15.2.2.1.1 y15.2.2.2.1 y15.2.2.2.2.1 y15.2.2.2.2.2.1.1 y15.2.2.2.2.2.2.1)
 (let y19 : ((FieldS × Unit) × Unit) := (q_z1o (36 : Int) (8 : Int))
 cond (ok_z1o (36 : Int) (8 : Int))
 (let y20 : ((WordS × (Int × Unit)) × ((Unit × (Nat × (Unit × (Int × Unit)))) × ((Nat × Unit) × ((List Int) × ((List HeadS) × ((Nat × Unit) × ((List Int) × Unit))))))) := (q_z1c y19.1.1 y18.2.1.2.1 y18.2.1.2.2.2.1 y18.2.2.1.1 y18.2.2.2.1 y18.2.2.2.2.1 y18.2.2.2.2.2.1.1 y18.2.2.2.2.2.2.1)
 cond (ok_z1c y19.1.1 y18.2.1.2.1 y18.2.1.2.2.2.1 y18.2.2.1.1 y18.2.2.2.1 y18.2.2.2.2.1 y18.2.2.2.2.2.1.1 y18.2.2.2.2.2.2.1)
 (cond (y18.1.2.1 == (3 : Int))
 (some (encRes ro_z1u rh_z1u (((y20.1.2.1 == (1 : Int)), ()), ())))
 (some (encRes ro_z1u rh_z1u ((false, ()), ()))))
 (none))
 (none))
 (none))
 (none)))
 (none))
 (none)))
 (none)))
 (none))
 (none)))
 (none))
 (none)))
 (none)))
 (none)))
 (none))))
 (none))
 (none)))
 (none)))
 (none))
 (none))
 (none))
noncomputable def Q_z1u : Option (RS ro_z1u rh_z1u) := decRes ro_z1u rh_z1u (M_z1u FUEL)
noncomputable def ok_z1u : Bool := (Q_z1u).isSome
noncomputable def q_z1u : RS ro_z1u rh_z1u := RS.get (Q_z1u)
/-! z1v: pack_Packet_Lenx135 -/
abbrev ro_z1v : List EK := [.ty (.int .i64)]
abbrev rh_z1v : List HK := [.one false [.ptr 1 0 0, .hs 3 0, .ptr 4 0 0, .ty (.int .i64)], .one false [.hs 2 0], .row (.int .u8), .row HeadT, .one false [.hs 5 0], .row (.int .u8)]
noncomputable def M_z1v (n : Nat) (a0 : Nat) (a1 : Int) (a2 : Nat) (a3 : (List Int)) (a4 : (List HeadS)) (a5 : Nat) (a6 : (List Int)) : Option Res :=
 let y1 : ((Int × Unit) × ((Nat × Unit) × ((List Int) × Unit))) := (q_z1f a2 a3)
 cond (ok_z1f a2 a3)
 (some (encRes ro_z1v rh_z1v ((y1.1.1, ()), (((), (a0, ((), (a1, ())))), ((y1.2.1.1, ()), (y1.2.2.1, (a4, ((a5, ()), (a6, ())))))))))
 (none)
noncomputable def Q_z1v (a0 : Nat) (a1 : Int) (a2 : Nat) (a3 : (List Int)) (a4 : (List HeadS)) (a5 : Nat) (a6 : (List Int)) : Option (RS ro_z1v rh_z1v) := decRes ro_z1v rh_z1v (M_z1v FUEL a0 a1 a2 a3 a4 a5 a6)
noncomputable def ok_z1v (a0 : Nat) (a1 : Int) (a2 : Nat) (a3 : (List Int)) (a4 : (List HeadS)) (a5 : Nat) (a6 : (List Int)) : Bool := (Q_z1v a0 a1 a2 a3 a4 a5 a6).isSome
noncomputable def q_z1v (a0 : Nat) (a1 : Int) (a2 : Nat) (a3 : (List Int)) (a4 : (List HeadS)) (a5 : Nat) (a6 : (List Int)) : RS ro_z1v rh_z1v := RS.get (Q_z1v a0 a1 a2 a3 a4 a5 a6)
/-! z1w: buf_Buf_Copyx455 -/
abbrev ro_z1w : List EK := [.ptr 2 0 0]
abbrev rh_z1w : List HK := [.one false [.hs 1 0], .row (.int .u8), .one false [.hs 3 0], .row (.int .u8)]
noncomputable def M_z1w (n : Nat) (a0 : Nat) (a1 : (List Int)) : Option Res :=
 some (encRes ro_z1w rh_z1w (((), ()), ((a0, ()), (a1, (((ByteArray.size (bytesOf (cutL (0 : Int) a1 0 a0))), ()), ((bytesL (bytesOf (cutL (0 : Int) a1 0 a0))), ()))))))
noncomputable def Q_z1w (a0 : Nat) (a1 : (List Int)) : Option (RS ro_z1w rh_z1w) := decRes ro_z1w rh_z1w (M_z1w FUEL a0 a1)
noncomputable def ok_z1w (a0 : Nat) (a1 : (List Int)) : Bool := (Q_z1w a0 a1).isSome
noncomputable def q_z1w (a0 : Nat) (a1 : (List Int)) : RS ro_z1w rh_z1w := RS.get (Q_z1w a0 a1)
/-! z1x: pack_Packet_Copyx135 -/
abbrev ro_z1x : List EK := [.ptr 6 0 0]
abbrev rh_z1x : List HK := [.one false [.ptr 1 0 0, .hs 3 0, .ptr 4 0 0, .ty (.int .i64)], .one false [.hs 2 0], .row (.int .u8), .row HeadT, .one false [.hs 5 0], .row (.int .u8), .one false [.ptr 7 0 0, .hs 9 0, .ptr 10 0 0, .ty (.int .i64)], .one false [.hs 8 0], .row (.int .u8), .row HeadT, .one false [.hs 11 0], .row (.int .u8)]
noncomputable def M_z1x (n : Nat) (a0 : Nat) (a1 : Int) (a2 : Nat) (a3 : (List Int)) (a4 : (List HeadS)) (a5 : Nat) (a6 : (List Int)) : Option Res :=
 let y1 : ((Unit × Unit) × ((Nat × Unit) × ((List Int) × ((Nat × Unit) × ((List Int) × Unit))))) := (q_z1w a2 a3)
 cond (ok_z1w a2 a3)
 (let y2 : ((Nat × Unit) × ((List HeadS) × Unit)) := (q_z12 (cutL zHeadS a4 0 a0))
 cond (ok_z12 (cutL zHeadS a4 0 a0))
 (let y3 : ((Unit × Unit) × ((Nat × Unit) × ((List Int) × ((Nat × Unit) × ((List Int) × Unit))))) := (q_z1w a5 a6)
 cond (ok_z1w a5 a6)
 (some (encRes ro_z1x rh_z1x (((), ()), (((), (a0, ((), (a1, ())))), ((y1.2.1.1, ()), (y1.2.2.1, (a4, ((y3.2.1.1, ()), (y3.2.2.1, (((), (y2.1.1, ((), (a1, ())))), ((y1.2.2.2.1.1, ()), (y1.2.2.2.2.1, (y2.2.1, ((y3.2.2.2.1.1, ()), (y3.2.2.2.2.1, ())))))))))))))))
 (none))
 (none))
 (none)
noncomputable def Q_z1x (a0 : Nat) (a1 : Int) (a2 : Nat) (a3 : (List Int)) (a4 : (List HeadS)) (a5 : Nat) (a6 : (List Int)) : Option (RS ro_z1x rh_z1x) := decRes ro_z1x rh_z1x (M_z1x FUEL a0 a1 a2 a3 a4 a5 a6)
noncomputable def ok_z1x (a0 : Nat) (a1 : Int) (a2 : Nat) (a3 : (List Int)) (a4 : (List HeadS)) (a5 : Nat) (a6 : (List Int)) : Bool := (Q_z1x a0 a1 a2 a3 a4 a5 a6).isSome
noncomputable def q_z1x (a0 : Nat) (a1 : Int) (a2 : Nat) (a3 : (List Int)) (a4 : (List HeadS)) (a5 : Nat) (a6 : (List Int)) : RS ro_z1x rh_z1x := RS.get (Q_z1x a0 a1 a2 a3 a4 a5 a6)
/-! z1y: pack_Packet_Metax135 -/
abbrev ro_z1y : List EK := [.ty .str]
abbrev rh_z1y : List HK := [.one false [.ptr 1 0 0, .hs 3 0, .ptr 4 0 0, .ty (.int .i64)], .one false [.hs 2 0], .row (.int .u8), .row HeadT, .one false [.hs 5 0], .row (.int .u8)]
noncomputable def M_z1y (n : Nat) (a0 : Nat) (a1 : Int) (a2 : Nat) (a3 : (List Int)) (a4 : (List HeadS)) (a5 : Nat) (a6 : (List Int)) : Option Res :=
 let y1 : ((ByteArray × Unit) × ((Nat × Unit) × ((List Int) × Unit))) := (q_z03 a5 a6)
 cond (ok_z03 a5 a6)
 (some (encRes ro_z1y rh_z1y ((y1.1.1, ()), (((), (a0, ((), (a1, ())))), ((a2, ()), (a3, (a4, ((y1.2.1.1, ()), (y1.2.2.1, ())))))))))
 (none)
noncomputable def Q_z1y (a0 : Nat) (a1 : Int) (a2 : Nat) (a3 : (List Int)) (a4 : (List HeadS)) (a5 : Nat) (a6 : (List Int)) : Option (RS ro_z1y rh_z1y) := decRes ro_z1y rh_z1y (M_z1y FUEL a0 a1 a2 a3 a4 a5 a6)
noncomputable def ok_z1y (a0 : Nat) (a1 : Int) (a2 : Nat) (a3 : (List Int)) (a4 : (List HeadS)) (a5 : Nat) (a6 : (List Int)) : Bool := (Q_z1y a0 a1 a2 a3 a4 a5 a6).isSome
noncomputable def q_z1y (a0 : Nat) (a1 : Int) (a2 : Nat) (a3 : (List Int)) (a4 : (List HeadS)) (a5 : Nat) (a6 : (List Int)) : RS ro_z1y rh_z1y := RS.get (Q_z1y a0 a1 a2 a3 a4 a5 a6)
/-! z1z: buf_Buf_Putx0a7 -/
abbrev ro_z1z : List EK := [.ty (.int .i64)]
abbrev rh_z1z : List HK := []
noncomputable def M_z1z (n : Nat) (a0 : Int) (a1 : Int) (a2 : WordS) : Option Res :=
 some (encRes ro_z1z rh_z1z (((2 : Int), ()), ()))
noncomputable def Q_z1z (a0 : Int) (a1 : Int) (a2 : WordS) : Option (RS ro_z1z rh_z1z) := decRes ro_z1z rh_z1z (M_z1z FUEL a0 a1 a2)
noncomputable def ok_z1z (a0 : Int) (a1 : Int) (a2 : WordS) : Bool := (Q_z1z a0 a1 a2).isSome
noncomputable def q_z1z (a0 : Int) (a1 : Int) (a2 : WordS) : RS ro_z1z rh_z1z := RS.get (Q_z1z a0 a1 a2)
/-! z20: field_Put -/
abbrev ro_z20 : List EK := [.ty .str, .ty (.int .i64)]
abbrev rh_z20 : List HK := []
noncomputable def F_z20_0 (n : Nat) (k_t0 : (List Int) → Option Res) (x0_0 : Int) (x0_1 : Int) (x0_2 : Nat) (x0_3 : Int) (x0_5 : WordS) (rec : Int → (List Int) → Option Res) (x0_4 : Int) (x0_6 : (List Int)) : Option Res :=
 cond (decide (x0_4 < x0_3))
 (let y2 : Int := (IntKind.wrap .i64 ((IntKind.wrap .i64 ((IntKind.wrap .i64 (x0_0 + x0_1)) - (1 : Int))) - x0_4))
 cond ((8 : Int) != 0)
 (cond (decide ((0 : Int) ≤ (IntKind.wrap .i64 ((7 : Int) - (Int.tmod y2 (8 : Int))))))
 (let y3 : Int := (IntKind.wrap .u8 ((1 : Int) * 2 ^ (min (Int.toNat (IntKind.wrap .i64 ((7 : Int) - (Int.tmod y2 (8 : Int))))) (IntKind.bits .u8))))
 let y4 : ((WordS × Unit) × Unit) := (q_z0n x0_5 x0_4)
 cond (ok_z0n x0_5 x0_4)
 (let y5 : ((WordS × Unit) × Unit) := (q_z0k (1 : Int))
 cond (ok_z0k (1 : Int))
 (let y6 : ((WordS × Unit) × Unit) := (q_z0p y4.1.1 y5.1.1)
 cond (ok_z0p y4.1.1 y5.1.1)
 (cond (y6.1.1.2.1 == (1 : Int))
 (cond ((8 : Int) != 0)
 (cond (decide ((0 : Int) ≤ (IntKind.wrap .i64 (Int.tdiv y2 (8 : Int))) ∧ (IntKind.wrap .i64 (Int.tdiv y2 (8 : Int))) < ((x0_2 : Nat) : Int)))
 (let y7 : Int := (IntKind.wrap .u8 (BitVec.toNat (BitVec.ofInt (IntKind.bits .u8) (rdd (0 : Int) x0_6 (Int.toNat (IntKind.wrap .i64 (Int.tdiv y2 (8 : Int))))) ||| BitVec.ofInt (IntKind.bits .u8) y3) : Nat))
 cond (decide ((0 : Int) ≤ (IntKind.wrap .i64 (Int.tdiv y2 (8 : Int))) ∧ (IntKind.wrap .i64 (Int.tdiv y2 (8 : Int))) < ((x0_2 : Nat) : Int)))
 (rec (IntKind.wrap .i64 (x0_4 + (1 : Int))) (List.set x0_6 (Int.toNat (IntKind.wrap .i64 (Int.tdiv y2 (8 : Int)))) y7))
 (none))
 (none))
 (none))
 (cond ((8 : Int) != 0)
 (cond (decide ((0 : Int) ≤ (IntKind.wrap .i64 (Int.tdiv y2 (8 : Int))) ∧ (IntKind.wrap .i64 (Int.tdiv y2 (8 : Int))) < ((x0_2 : Nat) : Int)))
 (let y8 : Int := (IntKind.wrap .u8 (BitVec.toNat (BitVec.ofInt (IntKind.bits .u8) (rdd (0 : Int) x0_6 (Int.toNat (IntKind.wrap .i64 (Int.tdiv y2 (8 : Int))))) &&& ~~~(BitVec.ofInt (IntKind.bits .u8) y3)) : Nat))
 cond (decide ((0 : Int) ≤ (IntKind.wrap .i64 (Int.tdiv y2 (8 : Int))) ∧ (IntKind.wrap .i64 (Int.tdiv y2 (8 : Int))) < ((x0_2 : Nat) : Int)))
 (rec (IntKind.wrap .i64 (x0_4 + (1 : Int))) (List.set x0_6 (Int.toNat (IntKind.wrap .i64 (Int.tdiv y2 (8 : Int)))) y8))
 (none))
 (none))
 (none)))
 (none))
 (none))
 (none))
 (none))
 (none))
 (k_t0 x0_6)
noncomputable def L_z20_0 (n : Nat) (k_t0 : (List Int) → Option Res) (x0_0 : Int) (x0_1 : Int) (x0_2 : Nat) (x0_3 : Int) (x0_5 : WordS) : Nat → Int → (List Int) → Option Res
  | 0, _, _ => none
  | m + 1, x0_4, x0_6 => F_z20_0 n k_t0 x0_0 x0_1 x0_2 x0_3 x0_5 (L_z20_0 n k_t0 x0_0 x0_1 x0_2 x0_3 x0_5 m) x0_4 x0_6
noncomputable def M_z20 (n : Nat) (a0 : ByteArray) (a1 : Int) (a2 : Int) (a3 : WordS) : Option Res :=
 let y1 : ((Int × Unit) × Unit) := (q_z0i a0 a1 a2)
 cond (ok_z0i a0 a1 a2)
 (cond (y1.1.1 != (0 : Int))
 (some (encRes ro_z20 rh_z20 (((ByteArray.mk #[]), (y1.1.1, ())), ())))
 (L_z20_0 n
  (fun y9 => some (encRes ro_z20 rh_z20 (((bytesOf (cutL (0 : Int) y9 0 (ByteArray.size a0))), ((0 : Int), ())), ())))
  a1
  a2
  (ByteArray.size a0)
  a2
  a3
  n
  (0 : Int)
  (bytesL a0)))
 (none)
noncomputable def Q_z20 (a0 : ByteArray) (a1 : Int) (a2 : Int) (a3 : WordS) : Option (RS ro_z20 rh_z20) := decRes ro_z20 rh_z20 (M_z20 FUEL a0 a1 a2 a3)
noncomputable def ok_z20 (a0 : ByteArray) (a1 : Int) (a2 : Int) (a3 : WordS) : Bool := (Q_z20 a0 a1 a2 a3).isSome
noncomputable def q_z20 (a0 : ByteArray) (a1 : Int) (a2 : Int) (a3 : WordS) : RS ro_z20 rh_z20 := RS.get (Q_z20 a0 a1 a2 a3)
/-! z21: buf_Buf_Putx5d6 -/
abbrev ro_z21 : List EK := [.ty (.int .i64)]
abbrev rh_z21 : List HK := [.one false [.hs 1 0], .row (.int .u8)]
noncomputable def M_z21 (n : Nat) (a0 : Int) (a1 : Int) (a2 : WordS) (a3 : Nat) (a4 : (List Int)) : Option Res :=
 let y3 : ((Nat × (Int × Unit)) × ((Nat × Unit) × ((List Int) × Unit))) := (q_z1a a0 a1 a3 a4)
 cond (ok_z1a a0 a1 a3 a4)
 (let y4 : ((ByteArray × (Int × Unit)) × Unit) := (q_z20 (bytesOf (cutL (0 : Int) y3.2.2.1 0 y3.1.1)) (IntKind.wrap .i64 (a0 - (IntKind.wrap .i64 ((8 : Int) * y3.1.2.1)))) a1 a2)
 cond (ok_z20 (bytesOf (cutL (0 : Int) y3.2.2.1 0 y3.1.1)) (IntKind.wrap .i64 (a0 - (IntKind.wrap .i64 ((8 : Int) * y3.1.2.1)))) a1 a2)
 (cond (y4.1.2.1 == (0 : Int))
 (cond (decide (0 + y3.1.1 ≤ (List.length y3.2.2.1)))
 (some (encRes ro_z21 rh_z21 ((y4.1.2.1, ()), ((y3.2.1.1, ()), (((cutL (0 : Int) y3.2.2.1 0 0) ++ ((cutL (0 : Int) (bytesL y4.1.1) 0 (Nat.min (ByteArray.size y4.1.1) y3.1.1)) ++ (cutL (0 : Int) y3.2.2.1 (0 + (List.length (cutL (0 : Int) (bytesL y4.1.1) 0 (Nat.min (ByteArray.size y4.1.1) y3.1.1)))) ((List.length y3.2.2.1) - (0 + (List.length (cutL (0 : Int) (bytesL y4.1.1) 0 (Nat.min (ByteArray.size y4.1.1) y3.1.1)))))))), ())))))
 (none))
 (some (encRes ro_z21 rh_z21 ((y4.1.2.1, ()), ((y3.2.1.1, ()), (y3.2.2.1, ()))))))
 (none))
 (let y1 : (((Nat × Nat) × (Int × Unit)) × ((Nat × Unit) × ((List Int) × Unit))) := (q_z1a_1 a0 a1 a3 a4)
 cond (ok_z1a_1 a0 a1 a3 a4)
 (let y2 : ((ByteArray × (Int × Unit)) × Unit) := (q_z20 (bytesOf (cutL (0 : Int) y1.2.2.1 y1.1.1.1 y1.1.1.2)) (IntKind.wrap .i64 (a0 - (IntKind.wrap .i64 ((8 : Int) * y1.1.2.1)))) a1 a2)
 cond (ok_z20 (bytesOf (cutL (0 : Int) y1.2.2.1 y1.1.1.1 y1.1.1.2)) (IntKind.wrap .i64 (a0 - (IntKind.wrap .i64 ((8 : Int) * y1.1.2.1)))) a1 a2)
 (cond (y2.1.2.1 == (0 : Int))
 (cond (decide (y1.1.1.1 + y1.1.1.2 ≤ (List.length y1.2.2.1)))
 (some (encRes ro_z21 rh_z21 ((y2.1.2.1, ()), ((y1.2.1.1, ()), (((cutL (0 : Int) y1.2.2.1 0 y1.1.1.1) ++ ((cutL (0 : Int) (bytesL y2.1.1) 0 (Nat.min (ByteArray.size y2.1.1) y1.1.1.2)) ++ (cutL (0 : Int) y1.2.2.1 (y1.1.1.1 + (List.length (cutL (0 : Int) (bytesL y2.1.1) 0 (Nat.min (ByteArray.size y2.1.1) y1.1.1.2)))) ((List.length y1.2.2.1) - (y1.1.1.1 + (List.length (cutL (0 : Int) (bytesL y2.1.1) 0 (Nat.min (ByteArray.size y2.1.1) y1.1.1.2)))))))), ())))))
 (none))
 (some (encRes ro_z21 rh_z21 ((y2.1.2.1, ()), ((y1.2.1.1, ()), (y1.2.2.1, ()))))))
 (none))
 (none))
noncomputable def Q_z21 (a0 : Int) (a1 : Int) (a2 : WordS) (a3 : Nat) (a4 : (List Int)) : Option (RS ro_z21 rh_z21) := decRes ro_z21 rh_z21 (M_z21 FUEL a0 a1 a2 a3 a4)
noncomputable def ok_z21 (a0 : Int) (a1 : Int) (a2 : WordS) (a3 : Nat) (a4 : (List Int)) : Bool := (Q_z21 a0 a1 a2 a3 a4).isSome
noncomputable def q_z21 (a0 : Int) (a1 : Int) (a2 : WordS) (a3 : Nat) (a4 : (List Int)) : RS ro_z21 rh_z21 := RS.get (Q_z21 a0 a1 a2 a3 a4)
/-! z22: pack_Packet_Putx291 -/
abbrev ro_z22 : List EK := [.ty (.int .i64)]
abbrev rh_z22 : List HK := [.one false [.ptr 1 0 0, .hs 3 0, .ptr 4 0 0, .ty (.int .i64)], .one false [.hs 2 0], .row (.int .u8), .row HeadT, .one false [.hs 5 0], .row (.int .u8)]
noncomputable def M_z22 (n : Nat) (a0 : FieldS) (a1 : WordS) (a2 : Nat) (a3 : Int) (a4 : Nat) (a5 : (List Int)) (a6 : (List HeadS)) (a7 : Nat) (a8 : (List Int)) : Option Res :=
 let y7 : ((Unit × (Int × (Int × Unit))) × ((Unit × (Nat × (Unit × (Int × Unit)))) × ((Nat × Unit) × ((List Int) × ((List HeadS) × ((Nat × Unit) × ((List Int) × Unit))))))) := (q_z17 a0 a2 a3 a4 a5 a6 a7 a8)
 cond (ok_z17 a0 a2 a3 a4 a5 a6 a7 a8)
 (cond (y7.1.2.2.1 == (0 : Int))
 (let y8 : ((Int × Unit) × Unit) := (q_z18 y7.1.2.1 a0.2.2.2.1)
 cond (ok_z18 y7.1.2.1 a0.2.2.2.1)
 (let y9 : ((Int × Unit) × ((Nat × Unit) × ((List Int) × Unit))) := (q_z21 y8.1.1 a0.2.2.2.2.1 a1 y7.2.2.1.1 y7.2.2.2.1)
 cond (ok_z21 y8.1.1 a0.2.2.2.2.1 a1 y7.2.2.1.1 y7.2.2.2.1)
 (cond (y9.1.1 != (0 : Int))
 (some (encRes ro_z22 rh_z22 (((1 : Int), ()), (((), (y7.2.1.2.1, ((), (y7.2.1.2.2.2.1, ())))), ((y9.2.1.1, ()), (y9.2.2.1, (y7.2.2.2.2.1, ((y7.2.2.2.2.2.1.1, ()), (y7.2.2.2.2.2.2.1, ())))))))))
 (some (encRes ro_z22 rh_z22 ((y7.1.2.2.1, ()), (((), (y7.2.1.2.1, ((), (y7.2.1.2.2.2.1, ())))), ((y9.2.1.1, ()), (y9.2.2.1, (y7.2.2.2.2.1, ((y7.2.2.2.2.2.1.1, ()), (y7.2.2.2.2.2.2.1, ()))))))))))
 (none))
 (none))
 (some (encRes ro_z22 rh_z22 ((y7.1.2.2.1, ()), (((), (y7.2.1.2.1, ((), (y7.2.1.2.2.2.1, ())))), ((y7.2.2.1.1, ()), (y7.2.2.2.1, (y7.2.2.2.2.1, ((y7.2.2.2.2.2.1.1, ()), (y7.2.2.2.2.2.2.1, ()))))))))))
 (let y4 : ((Unit × (Int × (Int × Unit))) × ((Unit × (Nat × (Unit × (Int × Unit)))) × ((Nat × Unit) × ((List Int) × ((List HeadS) × ((Nat × Unit) × ((List Int) × Unit))))))) := (q_z17_1 a0 a2 a3 a4 a5 a6 a7 a8)
 cond (ok_z17_1 a0 a2 a3 a4 a5 a6 a7 a8)
 (cond (y4.1.2.2.1 == (0 : Int))
 (let y5 : ((Int × Unit) × Unit) := (q_z18 y4.1.2.1 a0.2.2.2.1)
 cond (ok_z18 y4.1.2.1 a0.2.2.2.1)
 (let y6 : ((Int × Unit) × ((Nat × Unit) × ((List Int) × Unit))) := (q_z21 y5.1.1 a0.2.2.2.2.1 a1 y4.2.2.2.2.2.1.1 y4.2.2.2.2.2.2.1)
 cond (ok_z21 y5.1.1 a0.2.2.2.2.1 a1 y4.2.2.2.2.2.1.1 y4.2.2.2.2.2.2.1)
 (cond (y6.1.1 != (0 : Int))
 (some (encRes ro_z22 rh_z22 (((1 : Int), ()), (((), (y4.2.1.2.1, ((), (y4.2.1.2.2.2.1, ())))), ((y4.2.2.1.1, ()), (y4.2.2.2.1, (y4.2.2.2.2.1, ((y6.2.1.1, ()), (y6.2.2.1, ())))))))))
 (some (encRes ro_z22 rh_z22 ((y4.1.2.2.1, ()), (((), (y4.2.1.2.1, ((), (y4.2.1.2.2.2.1, ())))), ((y4.2.2.1.1, ()), (y4.2.2.2.1, (y4.2.2.2.2.1, ((y6.2.1.1, ()), (y6.2.2.1, ()))))))))))
 (none))
 (none))
 (some (encRes ro_z22 rh_z22 ((y4.1.2.2.1, ()), (((), (y4.2.1.2.1, ((), (y4.2.1.2.2.2.1, ())))), ((y4.2.2.1.1, ()), (y4.2.2.2.1, (y4.2.2.2.2.1, ((y4.2.2.2.2.2.1.1, ()), (y4.2.2.2.2.2.2.1, ()))))))))))
 (let y1 : ((Unit × (Int × (Int × Unit))) × ((Unit × (Nat × (Unit × (Int × Unit)))) × ((Nat × Unit) × ((List Int) × ((List HeadS) × ((Nat × Unit) × ((List Int) × Unit))))))) := (q_z17_2 a0 a2 a3 a4 a5 a6 a7 a8)
 cond (ok_z17_2 a0 a2 a3 a4 a5 a6 a7 a8)
 (cond (y1.1.2.2.1 == (0 : Int))
 (let y2 : ((Int × Unit) × Unit) := (q_z18 y1.1.2.1 a0.2.2.2.1)
 cond (ok_z18 y1.1.2.1 a0.2.2.2.1)
 (let y3 : ((Int × Unit) × Unit) := (q_z1z y2.1.1 a0.2.2.2.2.1 a1)
 cond (ok_z1z y2.1.1 a0.2.2.2.2.1 a1)
 (cond (y3.1.1 != (0 : Int))
 (some (encRes ro_z22 rh_z22 (((1 : Int), ()), (((), (y1.2.1.2.1, ((), (y1.2.1.2.2.2.1, ())))), ((y1.2.2.1.1, ()), (y1.2.2.2.1, (y1.2.2.2.2.1, ((y1.2.2.2.2.2.1.1, ()), (y1.2.2.2.2.2.2.1, ())))))))))
 (some (encRes ro_z22 rh_z22 ((y1.1.2.2.1, ()), (((), (y1.2.1.2.1, ((), (y1.2.1.2.2.2.1, ())))), ((y1.2.2.1.1, ()), (y1.2.2.2.1, (y1.2.2.2.2.1, ((y1.2.2.2.2.2.1.1, ()), (y1.2.2.2.2.2.2.1, ()))))))))))
 (none))
 (none))
 (some (encRes ro_z22 rh_z22 ((y1.1.2.2.1, ()), (((), (y1.2.1.2.1, ((), (y1.2.1.2.2.2.1, ())))), ((y1.2.2.1.1, ()), (y1.2.2.2.1, (y1.2.2.2.2.1, ((y1.2.2.2.2.2.1.1, ()), (y1.2.2.2.2.2.2.1, ()))))))))))
 (none)))
noncomputable def Q_z22 (a0 : FieldS) (a1 : WordS) (a2 : Nat) (a3 : Int) (a4 : Nat) (a5 : (List Int)) (a6 : (List HeadS)) (a7 : Nat) (a8 : (List Int)) : Option (RS ro_z22 rh_z22) := decRes ro_z22 rh_z22 (M_z22 FUEL a0 a1 a2 a3 a4 a5 a6 a7 a8)
noncomputable def ok_z22 (a0 : FieldS) (a1 : WordS) (a2 : Nat) (a3 : Int) (a4 : Nat) (a5 : (List Int)) (a6 : (List HeadS)) (a7 : Nat) (a8 : (List Int)) : Bool := (Q_z22 a0 a1 a2 a3 a4 a5 a6 a7 a8).isSome
noncomputable def q_z22 (a0 : FieldS) (a1 : WordS) (a2 : Nat) (a3 : Int) (a4 : Nat) (a5 : (List Int)) (a6 : (List HeadS)) (a7 : Nat) (a8 : (List Int)) : RS ro_z22 rh_z22 := RS.get (Q_z22 a0 a1 a2 a3 a4 a5 a6 a7 a8)
/-! z23: sum_fold -/
abbrev ro_z23 : List EK := [.ty (.int .u16)]
abbrev rh_z23 : List HK := []
noncomputable def F_z23_0 (n : Nat) (k_t0 : Int → Option Res) (rec : Int → Option Res) (x0_0 : Int) : Option Res :=
 cond (decide (x0_0 > (65535 : Int)))
 (let y1 : Int := (IntKind.wrap .u64 (BitVec.toNat (BitVec.ofInt (IntKind.bits .u64) x0_0 &&& BitVec.ofInt (IntKind.bits .u64) (65535 : Int)) : Nat))
 cond (decide ((0 : Int) ≤ (16 : Int)))
 (let y2 : Int := (IntKind.wrap .u64 (y1 + (Int.fdiv x0_0 (2 ^ (min (Int.toNat (16 : Int)) (IntKind.bits .u64))))))
 rec y2)
 (none))
 (k_t0 x0_0)
noncomputable def L_z23_0 (n : Nat) (k_t0 : Int → Option Res) : Nat → Int → Option Res
  | 0, _ => none
  | m + 1, x0_0 => F_z23_0 n k_t0 (L_z23_0 n k_t0 m) x0_0
noncomputable def M_z23 (n : Nat) (a0 : Int) : Option Res :=
 L_z23_0 n
  (fun y3 => some (encRes ro_z23 rh_z23 (((IntKind.wrap .u16 y3), ()), ())))
  n
  a0
noncomputable def Q_z23 (a0 : Int) : Option (RS ro_z23 rh_z23) := decRes ro_z23 rh_z23 (M_z23 FUEL a0)
noncomputable def ok_z23 (a0 : Int) : Bool := (Q_z23 a0).isSome
noncomputable def q_z23 (a0 : Int) : RS ro_z23 rh_z23 := RS.get (Q_z23 a0)
/-! z24: sum_Sum -/
abbrev ro_z24 : List EK := [.ty (.int .u16)]
abbrev rh_z24 : List HK := []
noncomputable def F_z24_2 (n : Nat) (k_t2 : Int → Bool → Option Res) (x2_2 : ByteArray) (x2_6 : Int) (rec : Int → Bool → Int → Option Res) (x2_0 : Int) (x2_1 : Bool) (x2_7 : Int) : Option Res :=
 cond (decide (x2_7 < x2_6))
 (cond (decide ((0 : Int) ≤ x2_7 ∧ x2_7 < ((ByteArray.size x2_2 : Nat) : Int)))
 (cond x2_1
 (cond (decide ((0 : Int) ≤ (8 : Int)))
 (let y1 : Int := (IntKind.wrap .u64 ((IntKind.wrap .u64 (byteAt x2_2 (Int.toNat x2_7))) * 2 ^ (min (Int.toNat (8 : Int)) (IntKind.bits .u64))))
 rec (IntKind.wrap .u64 (x2_0 + y1)) (!x2_1) (IntKind.wrap .i64 (x2_7 + (1 : Int))))
 (none))
 (rec (IntKind.wrap .u64 (x2_0 + (IntKind.wrap .u64 (byteAt x2_2 (Int.toNat x2_7))))) (!x2_1) (IntKind.wrap .i64 (x2_7 + (1 : Int)))))
 (none))
 (k_t2 x2_0 x2_1)
noncomputable def L_z24_2 (n : Nat) (k_t2 : Int → Bool → Option Res) (x2_2 : ByteArray) (x2_6 : Int) : Nat → Int → Bool → Int → Option Res
  | 0, _, _, _ => none
  | m + 1, x2_0, x2_1, x2_7 => F_z24_2 n k_t2 x2_2 x2_6 (L_z24_2 n k_t2 x2_2 x2_6 m) x2_0 x2_1 x2_7
noncomputable def F_z24_0 (n : Nat) (k_t0 : Int → Option Res) (x0_2 : (List ByteArray)) (x0_3 : Int) (rec : Int → Bool → Int → Option Res) (x0_0 : Int) (x0_1 : Bool) (x0_4 : Int) : Option Res :=
 cond (decide (x0_4 < x0_3))
 (cond (decide ((0 : Int) ≤ x0_4 ∧ x0_4 < (((List.length x0_2) : Nat) : Int)))
 (L_z24_2 n
  (fun y2 y3 => let y4 : ((Int × Unit) × Unit) := (q_z23 y2)
 cond (ok_z23 y2)
 (rec (IntKind.wrap .u64 y4.1.1) y3 (IntKind.wrap .i64 (x0_4 + (1 : Int))))
 (none))
  (rdd ByteArray.empty x0_2 (Int.toNat x0_4))
  ((ByteArray.size (rdd ByteArray.empty x0_2 (Int.toNat x0_4)) : Nat) : Int)
  n
  x0_0
  x0_1
  (0 : Int))
 (none))
 (k_t0 x0_0)
noncomputable def L_z24_0 (n : Nat) (k_t0 : Int → Option Res) (x0_2 : (List ByteArray)) (x0_3 : Int) : Nat → Int → Bool → Int → Option Res
  | 0, _, _, _ => none
  | m + 1, x0_0, x0_1, x0_4 => F_z24_0 n k_t0 x0_2 x0_3 (L_z24_0 n k_t0 x0_2 x0_3 m) x0_0 x0_1 x0_4
noncomputable def M_z24 (n : Nat) (a0 : (List ByteArray)) : Option Res :=
 L_z24_0 n
  (fun y5 => let y6 : ((Int × Unit) × Unit) := (q_z23 y5)
 cond (ok_z23 y5)
 (some (encRes ro_z24 rh_z24 ((y6.1.1, ()), ())))
 (none))
  a0
  (((List.length a0) : Nat) : Int)
  n
  (0 : Int)
  true
  (0 : Int)
noncomputable def Q_z24 (a0 : (List ByteArray)) : Option (RS ro_z24 rh_z24) := decRes ro_z24 rh_z24 (M_z24 FUEL a0)
noncomputable def ok_z24 (a0 : (List ByteArray)) : Bool := (Q_z24 a0).isSome
noncomputable def q_z24 (a0 : (List ByteArray)) : RS ro_z24 rh_z24 := RS.get (Q_z24 a0)
/-! z25: buf_Buf_Sumx37e -/
abbrev ro_z25 : List EK := [.ty (.int .u16), .ty (.int .i64)]
abbrev rh_z25 : List HK := [.one false [.hs 1 0], .row (.int .u8)]
noncomputable def M_z25 (n : Nat) (a0 : Int) (a1 : Int) (a2 : Nat) (a3 : (List Int)) : Option Res :=
 let y1 : ((Int × Unit) × ((Nat × Unit) × ((List Int) × Unit))) := (q_z1j a0 a1 a2 a3)
 cond (ok_z1j a0 a1 a2 a3)
 (cond (y1.1.1 != (0 : Int))
 (some (encRes ro_z25 rh_z25 (((0 : Int), (y1.1.1, ())), ((y1.2.1.1, ()), (y1.2.2.1, ())))))
 (cond (decide ((0 : Int) ≤ a0 ∧ a0 ≤ (IntKind.wrap .i64 (a0 + a1)) ∧ (IntKind.wrap .i64 (a0 + a1)) ≤ ((y1.2.1.1 : Nat) : Int) ∧ ((y1.2.1.1 : Nat) : Int) ≤ ((y1.2.1.1 : Nat) : Int)))
 (let y2 : ByteArray := (bytesOf (cutL (0 : Int) y1.2.2.1 (0 + Int.toNat a0) (Int.toNat (IntKind.wrap .i64 (a0 + a1)) - Int.toNat a0)))
 let y3 : ((Int × Unit) × Unit) := (q_z24 ([y2]))
 cond (ok_z24 ([y2]))
 (some (encRes ro_z25 rh_z25 ((y3.1.1, ((0 : Int), ())), ((y1.2.1.1, ()), (y1.2.2.1, ())))))
 (none))
 (none)))
 (none)
noncomputable def Q_z25 (a0 : Int) (a1 : Int) (a2 : Nat) (a3 : (List Int)) : Option (RS ro_z25 rh_z25) := decRes ro_z25 rh_z25 (M_z25 FUEL a0 a1 a2 a3)
noncomputable def ok_z25 (a0 : Int) (a1 : Int) (a2 : Nat) (a3 : (List Int)) : Bool := (Q_z25 a0 a1 a2 a3).isSome
noncomputable def q_z25 (a0 : Int) (a1 : Int) (a2 : Nat) (a3 : (List Int)) : RS ro_z25 rh_z25 := RS.get (Q_z25 a0 a1 a2 a3)
/-! z26: pack_Packet_Sumxa6a -/
abbrev ro_z26 : List EK := [.ty (.int .i64)]
abbrev rh_z26 : List HK := [.one false [.ptr 1 0 0, .hs 3 0, .ptr 4 0 0, .ty (.int .i64)], .one false [.hs 2 0], .row (.int .u8), .row HeadT, .one false [.hs 5 0], .row (.int .u8)]
noncomputable def M_z26 (n : Nat) (a0 : FieldS) (a1 : FieldS) (a2 : Int) (a3 : Nat) (a4 : Int) (a5 : Nat) (a6 : (List Int)) (a7 : (List HeadS)) (a8 : Nat) (a9 : (List Int)) : Option Res :=
 let y1 : ((Int × (Int × Unit)) × ((Unit × (Nat × (Unit × (Int × Unit)))) × ((Nat × Unit) × ((List Int) × ((List HeadS) × ((Nat × Unit) × ((List Int) × Unit))))))) := (q_z1i a1 a3 a4 a5 a6 a7 a8 a9)
 cond (ok_z1i a1 a3 a4 a5 a6 a7 a8 a9)
 (cond (y1.1.2.1 != (0 : Int))
 (some (encRes ro_z26 rh_z26 ((y1.1.2.1, ()), (((), (y1.2.1.2.1, ((), (y1.2.1.2.2.2.1, ())))), ((y1.2.2.1.1, ()), (y1.2.2.2.1, (y1.2.2.2.2.1, ((y1.2.2.2.2.2.1.1, ()), (y1.2.2.2.2.2.2.1, ())))))))))
 (cond (a2 == (0 : Int))
 (let y2 : ((Int × Unit) × ((Unit × (Nat × (Unit × (Int × Unit)))) × ((Nat × Unit) × ((List Int) × ((List HeadS) × ((Nat × Unit) × ((List Int) × Unit))))))) := (q_z1v y1.2.1.2.1 y1.2.1.2.2.2.1 y1.2.2.1.1 y1.2.2.2.1 y1.2.2.2.2.1 y1.2.2.2.2.2.1.1 y1.2.2.2.2.2.2.1)
 cond (ok_z1v y1.2.1.2.1 y1.2.1.2.2.2.1 y1.2.2.1.1 y1.2.2.2.1 y1.2.2.2.2.1 y1.2.2.2.2.2.1.1 y1.2.2.2.2.2.2.1)
 (let y3 : ((Int × (Int × Unit)) × ((Nat × Unit) × ((List Int) × Unit))) := (q_z25 y1.1.1 (IntKind.wrap .i64 (y2.1.1 - y1.1.1)) y2.2.2.1.1 y2.2.2.2.1)
 cond (ok_z25 y1.1.1 (IntKind.wrap .i64 (y2.1.1 - y1.1.1)) y2.2.2.1.1 y2.2.2.2.1)
 (cond (y3.1.2.1 != (0 : Int))
 (some (encRes ro_z26 rh_z26 (((1 : Int), ()), (((), (y2.2.1.2.1, ((), (y2.2.1.2.2.2.1, ())))), ((y3.2.1.1, ()), (y3.2.2.1, (y2.2.2.2.2.1, ((y2.2.2.2.2.2.1.1, ()), (y2.2.2.2.2.2.2.1, ())))))))))
 (let y4 : ((Int × Unit) × ((Unit × (Nat × (Unit × (Int × Unit)))) × ((Nat × Unit) × ((List Int) × ((List HeadS) × ((Nat × Unit) × ((List Int) × Unit))))))) := (q_z22 a0 ((0 : Int), ((0 : Int), ())) y2.2.1.2.1 y2.2.1.2.2.2.1 y3.2.1.1 y3.2.2.1 y2.2.2.2.2.1 y2.2.2.2.2.2.1.1 y2.2.2.2.2.2.2.1)
 cond (ok_z22 a0 ((0 : Int), ((0 : Int), ())) y2.2.1.2.1 y2.2.1.2.2.2.1 y3.2.1.1 y3.2.2.1 y2.2.2.2.2.1 y2.2.2.2.2.2.1.1 y2.2.2.2.2.2.2.1)
 (cond (y4.1.1 != (0 : Int))
 (some (encRes ro_z26 rh_z26 ((y4.1.1, ()), (((), (y4.2.1.2.1, ((), (y4.2.1.2.2.2.1, ())))), ((y4.2.2.1.1, ()), (y4.2.2.2.1, (y4.2.2.2.2.1, ((y4.2.2.2.2.2.1.1, ()), (y4.2.2.2.2.2.2.1, ())))))))))
 (let y5 : ((Int × (Int × Unit)) × ((Nat × Unit) × ((List Int) × Unit))) := (q_z25 y1.1.1 (IntKind.wrap .i64 (y2.1.1 - y1.1.1)) y4.2.2.1.1 y4.2.2.2.1)
 cond (ok_z25 y1.1.1 (IntKind.wrap .i64 (y2.1.1 - y1.1.1)) y4.2.2.1.1 y4.2.2.2.1)
 (let y6 : Int := (IntKind.wrap .u16 (BitVec.toNat (BitVec.ofInt (IntKind.bits .u16) (IntKind.max .u16) ^^^ BitVec.ofInt (IntKind.bits .u16) y5.1.1) : Nat))
 let y7 : ((WordS × Unit) × Unit) := (q_z0k (IntKind.wrap .u64 y6))
 cond (ok_z0k (IntKind.wrap .u64 y6))
 (let y8 : ((Int × Unit) × ((Unit × (Nat × (Unit × (Int × Unit)))) × ((Nat × Unit) × ((List Int) × ((List HeadS) × ((Nat × Unit) × ((List Int) × Unit))))))) := (q_z22 a0 y7.1.1 y4.2.1.2.1 y4.2.1.2.2.2.1 y5.2.1.1 y5.2.2.1 y4.2.2.2.2.1 y4.2.2.2.2.2.1.1 y4.2.2.2.2.2.2.1)
 cond (ok_z22 a0 y7.1.1 y4.2.1.2.1 y4.2.1.2.2.2.1 y5.2.1.1 y5.2.2.1 y4.2.2.2.2.1 y4.2.2.2.2.2.1.1 y4.2.2.2.2.2.2.1)
 (some (encRes ro_z26 rh_z26 ((y8.1.1, ()), (((), (y8.2.1.2.1, ((), (y8.2.1.2.2.2.1, ())))), ((y8.2.2.1.1, ()), (y8.2.2.2.1, (y8.2.2.2.2.1, ((y8.2.2.2.2.2.1.1, ()), (y8.2.2.2.2.2.2.1, ())))))))))
 (none))
 (none))
 (none)))
 (none)))
 (none))
 (none))
 (let y9 : ((Int × (Int × Unit)) × ((Nat × Unit) × ((List Int) × Unit))) := (q_z25 y1.1.1 a2 y1.2.2.1.1 y1.2.2.2.1)
 cond (ok_z25 y1.1.1 a2 y1.2.2.1.1 y1.2.2.2.1)
 (cond (y9.1.2.1 != (0 : Int))
 (some (encRes ro_z26 rh_z26 (((1 : Int), ()), (((), (y1.2.1.2.1, ((), (y1.2.1.2.2.2.1, ())))), ((y9.2.1.1, ()), (y9.2.2.1, (y1.2.2.2.2.1, ((y1.2.2.2.2.2.1.1, ()), (y1.2.2.2.2.2.2.1, ())))))))))
 (let y10 : ((Int × Unit) × ((Unit × (Nat × (Unit × (Int × Unit)))) × ((Nat × Unit) × ((List Int) × ((List HeadS) × ((Nat × Unit) × ((List Int) × Unit))))))) := (q_z22 a0 ((0 : Int), ((0 : Int), ())) y1.2.1.2.1 y1.2.1.2.2.2.1 y9.2.1.1 y9.2.2.1 y1.2.2.2.2.1 y1.2.2.2.2.2.1.1 y1.2.2.2.2.2.2.1)
 cond (ok_z22 a0 ((0 : Int), ((0 : Int), ())) y1.2.1.2.1 y1.2.1.2.2.2.1 y9.2.1.1 y9.2.2.1 y1.2.2.2.2.1 y1.2.2.2.2.2.1.1 y1.2.2.2.2.2.2.1)
 (cond (y10.1.1 != (0 : Int))
 (some (encRes ro_z26 rh_z26 ((y10.1.1, ()), (((), (y10.2.1.2.1, ((), (y10.2.1.2.2.2.1, ())))), ((y10.2.2.1.1, ()), (y10.2.2.2.1, (y10.2.2.2.2.1, ((y10.2.2.2.2.2.1.1, ()), (y10.2.2.2.2.2.2.1, ())))))))))
 (let y11 : ((Int × (Int × Unit)) × ((Nat × Unit) × ((List Int) × Unit))) := (q_z25 y1.1.1 a2 y10.2.2.1.1 y10.2.2.2.1)
 cond (ok_z25 y1.1.1 a2 y10.2.2.1.1 y10.2.2.2.1)
 (let y12 : Int := (IntKind.wrap .u16 (BitVec.toNat (BitVec.ofInt (IntKind.bits .u16) (IntKind.max .u16) ^^^ BitVec.ofInt (IntKind.bits .u16) y11.1.1) : Nat))
 let y13 : ((WordS × Unit) × Unit) := (q_z0k (IntKind.wrap .u64 y12))
 cond (ok_z0k (IntKind.wrap .u64 y12))
 (let y14 : ((Int × Unit) × ((Unit × (Nat × (Unit × (Int × Unit)))) × ((Nat × Unit) × ((List Int) × ((List HeadS) × ((Nat × Unit) × ((List Int) × Unit))))))) := (q_z22 a0 y13.1.1 y10.2.1.2.1 y10.2.1.2.2.2.1 y11.2.1.1 y11.2.2.1 y10.2.2.2.2.1 y10.2.2.2.2.2.1.1 y10.2.2.2.2.2.2.1)
 cond (ok_z22 a0 y13.1.1 y10.2.1.2.1 y10.2.1.2.2.2.1 y11.2.1.1 y11.2.2.1 y10.2.2.2.2.1 y10.2.2.2.2.2.1.1 y10.2.2.2.2.2.2.1)
 (some (encRes ro_z26 rh_z26 ((y14.1.1, ()), (((), (y14.2.1.2.1, ((), (y14.2.1.2.2.2.1, ())))), ((y14.2.2.1.1, ()), (y14.2.2.2.1, (y14.2.2.2.2.1, ((y14.2.2.2.2.2.1.1, ()), (y14.2.2.2.2.2.2.1, ())))))))))
 (none))
 (none))
 (none)))
 (none)))
 (none))))
 (none)
noncomputable def Q_z26 (a0 : FieldS) (a1 : FieldS) (a2 : Int) (a3 : Nat) (a4 : Int) (a5 : Nat) (a6 : (List Int)) (a7 : (List HeadS)) (a8 : Nat) (a9 : (List Int)) : Option (RS ro_z26 rh_z26) := decRes ro_z26 rh_z26 (M_z26 FUEL a0 a1 a2 a3 a4 a5 a6 a7 a8 a9)
noncomputable def ok_z26 (a0 : FieldS) (a1 : FieldS) (a2 : Int) (a3 : Nat) (a4 : Int) (a5 : Nat) (a6 : (List Int)) (a7 : (List HeadS)) (a8 : Nat) (a9 : (List Int)) : Bool := (Q_z26 a0 a1 a2 a3 a4 a5 a6 a7 a8 a9).isSome
noncomputable def q_z26 (a0 : FieldS) (a1 : FieldS) (a2 : Int) (a3 : Nat) (a4 : Int) (a5 : Nat) (a6 : (List Int)) (a7 : (List HeadS)) (a8 : Nat) (a9 : (List Int)) : RS ro_z26 rh_z26 := RS.get (Q_z26 a0 a1 a2 a3 a4 a5 a6 a7 a8 a9)
/-! z27: sum_Good -/
abbrev ro_z27 : List EK := [.ty .bool]
abbrev rh_z27 : List HK := []
noncomputable def M_z27 (n : Nat) (a0 : ByteArray) : Option Res :=
 let y1 : ((Int × Unit) × Unit) := (q_z24 ([a0]))
 cond (ok_z24 ([a0]))
 (some (encRes ro_z27 rh_z27 (((y1.1.1 == (65535 : Int)), ()), ())))
 (none)
noncomputable def Q_z27 (a0 : ByteArray) : Option (RS ro_z27 rh_z27) := decRes ro_z27 rh_z27 (M_z27 FUEL a0)
noncomputable def ok_z27 (a0 : ByteArray) : Bool := (Q_z27 a0).isSome
noncomputable def q_z27 (a0 : ByteArray) : RS ro_z27 rh_z27 := RS.get (Q_z27 a0)
/-! z28: pack_Packet_placexe04 -/
abbrev ro_z28 : List EK := [.ptr 1 0 0, .ty (.int .i64), .ty (.int .i64)]
abbrev rh_z28 : List HK := [.one false [.ptr 1 0 0, .nul 4, .ptr 3 0 0, .ty (.int .i64)], .one false [.hs 2 0], .row (.int .u8), .one false [.hs 4 0], .row (.int .u8)]
abbrev ro_z28_1 : List EK := [.ptr 3 0 0, .ty (.int .i64), .ty (.int .i64)]
abbrev rh_z28_1 : List HK := [.one false [.ptr 1 0 0, .nul 4, .ptr 3 0 0, .ty (.int .i64)], .one false [.hs 2 0], .row (.int .u8), .one false [.hs 4 0], .row (.int .u8)]
abbrev ro_z28_2 : List EK := [.nul 0, .ty (.int .i64), .ty (.int .i64)]
abbrev rh_z28_2 : List HK := [.one false [.ptr 1 0 0, .nul 4, .ptr 3 0 0, .ty (.int .i64)], .one false [.hs 2 0], .row (.int .u8), .one false [.hs 4 0], .row (.int .u8)]
noncomputable def F_z28_1 (n : Nat) (k_r : Int → Int → Option Res) (k_t1 : Unit → Option Res) (x1_0 : Nat) (x1_1 : Int) (x1_8 : FieldS) (x1_9 : (List HeadS)) (rec : Int → Option Res) (x1_2 : Int) : Option Res :=
 cond (decide (x1_2 < x1_1))
 (cond (decide ((0 : Int) ≤ x1_2 ∧ x1_2 < ((x1_0 : Nat) : Int)))
 (cond ((rdd zHeadS x1_9 (Int.toNat x1_2)).1 == x1_8.2.2.1)
 (k_r ((rdd zHeadS x1_9 (Int.toNat x1_2)).2.1) (0 : Int))
 (rec (IntKind.wrap .i64 (x1_2 + (1 : Int)))))
 (none))
 (k_t1 ())
noncomputable def L_z28_1 (n : Nat) (k_r : Int → Int → Option Res) (k_t1 : Unit → Option Res) (x1_0 : Nat) (x1_1 : Int) (x1_8 : FieldS) (x1_9 : (List HeadS)) : Nat → Int → Option Res
  | 0, _ => none
  | m + 1, x1_2 => F_z28_1 n k_r k_t1 x1_0 x1_1 x1_8 x1_9 (L_z28_1 n k_r k_t1 x1_0 x1_1 x1_8 x1_9 m) x1_2
noncomputable def M_z28 (n : Nat) (a0 : FieldS) (a1 : Int) (a2 : Nat) (a3 : (List Int)) (a4 : Nat) (a5 : (List Int)) : Option Res :=
 cond (a0.2.1 == (1 : Int))
 (some (encRes ro_z28 rh_z28 (((), ((0 : Int), ((0 : Int), ()))), (((), ((), ((), (a1, ())))), ((a2, ()), (a3, ((a4, ()), (a5, ()))))))))
 (cond (a0.2.1 == (3 : Int))
 (some (encRes ro_z28_1 rh_z28_1 (((), ((0 : Int), ((0 : Int), ()))), (((), ((), ((), (a1, ())))), ((a2, ()), (a3, ((a4, ()), (a5, ()))))))))
 (cond (a0.2.1 == (2 : Int))
 (L_z28_1 n
  (fun y1 y2 => some (encRes ro_z28 rh_z28 (((), (y1, (y2, ()))), (((), ((), ((), (a1, ())))), ((a2, ()), (a3, ((a4, ()), (a5, ()))))))))
  (fun _ => some (encRes ro_z28_2 rh_z28_2 (((), ((0 : Int), ((3 : Int), ()))), (((), ((), ((), (a1, ())))), ((a2, ()), (a3, ((a4, ()), (a5, ()))))))))
  0
  (0 : Int)
  a0
  ([])
  n
  (0 : Int))
 (some (encRes ro_z28_2 rh_z28_2 (((), ((0 : Int), ((3 : Int), ()))), (((), ((), ((), (a1, ())))), ((a2, ()), (a3, ((a4, ()), (a5, ()))))))))))
noncomputable def Q_z28 (a0 : FieldS) (a1 : Int) (a2 : Nat) (a3 : (List Int)) (a4 : Nat) (a5 : (List Int)) : Option (RS ro_z28 rh_z28) := decRes ro_z28 rh_z28 (M_z28 FUEL a0 a1 a2 a3 a4 a5)
noncomputable def Q_z28_1 (a0 : FieldS) (a1 : Int) (a2 : Nat) (a3 : (List Int)) (a4 : Nat) (a5 : (List Int)) : Option (RS ro_z28_1 rh_z28_1) := decRes ro_z28_1 rh_z28_1 (M_z28 FUEL a0 a1 a2 a3 a4 a5)
noncomputable def ok_z28_1 (a0 : FieldS) (a1 : Int) (a2 : Nat) (a3 : (List Int)) (a4 : Nat) (a5 : (List Int)) : Bool := (Q_z28_1 a0 a1 a2 a3 a4 a5).isSome
noncomputable def q_z28_1 (a0 : FieldS) (a1 : Int) (a2 : Nat) (a3 : (List Int)) (a4 : Nat) (a5 : (List Int)) : RS ro_z28_1 rh_z28_1 := RS.get (Q_z28_1 a0 a1 a2 a3 a4 a5)
noncomputable def Q_z28_2 (a0 : FieldS) (a1 : Int) (a2 : Nat) (a3 : (List Int)) (a4 : Nat) (a5 : (List Int)) : Option (RS ro_z28_2 rh_z28_2) := decRes ro_z28_2 rh_z28_2 (M_z28 FUEL a0 a1 a2 a3 a4 a5)
noncomputable def ok_z28_2 (a0 : FieldS) (a1 : Int) (a2 : Nat) (a3 : (List Int)) (a4 : Nat) (a5 : (List Int)) : Bool := (Q_z28_2 a0 a1 a2 a3 a4 a5).isSome
noncomputable def q_z28_2 (a0 : FieldS) (a1 : Int) (a2 : Nat) (a3 : (List Int)) (a4 : Nat) (a5 : (List Int)) : RS ro_z28_2 rh_z28_2 := RS.get (Q_z28_2 a0 a1 a2 a3 a4 a5)
noncomputable def ok_z28 (a0 : FieldS) (a1 : Int) (a2 : Nat) (a3 : (List Int)) (a4 : Nat) (a5 : (List Int)) : Bool := (Q_z28 a0 a1 a2 a3 a4 a5).isSome
noncomputable def q_z28 (a0 : FieldS) (a1 : Int) (a2 : Nat) (a3 : (List Int)) (a4 : Nat) (a5 : (List Int)) : RS ro_z28 rh_z28 := RS.get (Q_z28 a0 a1 a2 a3 a4 a5)
/-! z29: pack_Packet_Atxe04 -/
abbrev ro_z29 : List EK := [.ty (.int .i64), .ty (.int .i64)]
abbrev rh_z29 : List HK := [.one false [.ptr 1 0 0, .nul 4, .ptr 3 0 0, .ty (.int .i64)], .one false [.hs 2 0], .row (.int .u8), .one false [.hs 4 0], .row (.int .u8)]
noncomputable def M_z29 (n : Nat) (a0 : FieldS) (a1 : Int) (a2 : Nat) (a3 : (List Int)) (a4 : Nat) (a5 : (List Int)) : Option Res :=
 let y5 : ((Unit × (Int × (Int × Unit))) × ((Unit × (Unit × (Unit × (Int × Unit)))) × ((Nat × Unit) × ((List Int) × ((Nat × Unit) × ((List Int) × Unit)))))) := (q_z28 a0 a1 a2 a3 a4 a5)
 cond (ok_z28 a0 a1 a2 a3 a4 a5)
 (cond (y5.1.2.2.1 != (0 : Int))
 (some (encRes ro_z29 rh_z29 (((0 : Int), (y5.1.2.2.1, ())), (((), ((), ((), (y5.2.1.2.2.2.1, ())))), ((y5.2.2.1.1, ()), (y5.2.2.2.1, ((y5.2.2.2.2.1.1, ()), (y5.2.2.2.2.2.1, ()))))))))
 (let y6 : ((Int × (Int × Unit)) × ((Nat × Unit) × ((List Int) × Unit))) := (q_z1g y5.1.2.1 a0 y5.2.2.1.1 y5.2.2.2.1)
 cond (ok_z1g y5.1.2.1 a0 y5.2.2.1.1 y5.2.2.2.1)
 (some (encRes ro_z29 rh_z29 ((y6.1.1, (y6.1.2.1, ())), (((), ((), ((), (y5.2.1.2.2.2.1, ())))), ((y6.2.1.1, ()), (y6.2.2.1, ((y5.2.2.2.2.1.1, ()), (y5.2.2.2.2.2.1, ()))))))))
 (none)))
 (let y3 : ((Unit × (Int × (Int × Unit))) × ((Unit × (Unit × (Unit × (Int × Unit)))) × ((Nat × Unit) × ((List Int) × ((Nat × Unit) × ((List Int) × Unit)))))) := (q_z28_1 a0 a1 a2 a3 a4 a5)
 cond (ok_z28_1 a0 a1 a2 a3 a4 a5)
 (cond (y3.1.2.2.1 != (0 : Int))
 (some (encRes ro_z29 rh_z29 (((0 : Int), (y3.1.2.2.1, ())), (((), ((), ((), (y3.2.1.2.2.2.1, ())))), ((y3.2.2.1.1, ()), (y3.2.2.2.1, ((y3.2.2.2.2.1.1, ()), (y3.2.2.2.2.2.1, ()))))))))
 (let y4 : ((Int × (Int × Unit)) × ((Nat × Unit) × ((List Int) × Unit))) := (q_z1g y3.1.2.1 a0 y3.2.2.2.2.1.1 y3.2.2.2.2.2.1)
 cond (ok_z1g y3.1.2.1 a0 y3.2.2.2.2.1.1 y3.2.2.2.2.2.1)
 (some (encRes ro_z29 rh_z29 ((y4.1.1, (y4.1.2.1, ())), (((), ((), ((), (y3.2.1.2.2.2.1, ())))), ((y3.2.2.1.1, ()), (y3.2.2.2.1, ((y4.2.1.1, ()), (y4.2.2.1, ()))))))))
 (none)))
 (let y1 : ((Unit × (Int × (Int × Unit))) × ((Unit × (Unit × (Unit × (Int × Unit)))) × ((Nat × Unit) × ((List Int) × ((Nat × Unit) × ((List Int) × Unit)))))) := (q_z28_2 a0 a1 a2 a3 a4 a5)
 cond (ok_z28_2 a0 a1 a2 a3 a4 a5)
 (cond (y1.1.2.2.1 != (0 : Int))
 (some (encRes ro_z29 rh_z29 (((0 : Int), (y1.1.2.2.1, ())), (((), ((), ((), (y1.2.1.2.2.2.1, ())))), ((y1.2.2.1.1, ()), (y1.2.2.2.1, ((y1.2.2.2.2.1.1, ()), (y1.2.2.2.2.2.1, ()))))))))
 (let y2 : ((Int × (Int × Unit)) × Unit) := (q_z1e y1.1.2.1 a0)
 cond (ok_z1e y1.1.2.1 a0)
 (some (encRes ro_z29 rh_z29 ((y2.1.1, (y2.1.2.1, ())), (((), ((), ((), (y1.2.1.2.2.2.1, ())))), ((y1.2.2.1.1, ()), (y1.2.2.2.1, ((y1.2.2.2.2.1.1, ()), (y1.2.2.2.2.2.1, ()))))))))
 (none)))
 (none)))
noncomputable def Q_z29 (a0 : FieldS) (a1 : Int) (a2 : Nat) (a3 : (List Int)) (a4 : Nat) (a5 : (List Int)) : Option (RS ro_z29 rh_z29) := decRes ro_z29 rh_z29 (M_z29 FUEL a0 a1 a2 a3 a4 a5)
noncomputable def ok_z29 (a0 : FieldS) (a1 : Int) (a2 : Nat) (a3 : (List Int)) (a4 : Nat) (a5 : (List Int)) : Bool := (Q_z29 a0 a1 a2 a3 a4 a5).isSome
noncomputable def q_z29 (a0 : FieldS) (a1 : Int) (a2 : Nat) (a3 : (List Int)) (a4 : Nat) (a5 : (List Int)) : RS ro_z29 rh_z29 := RS.get (Q_z29 a0 a1 a2 a3 a4 a5)
/-! z2a: pack_Packet_spotxe04 -/
abbrev ro_z2a : List EK := [.ty (.int .i64), .ty (.int .i64)]
abbrev rh_z2a : List HK := [.one false [.ptr 1 0 0, .nul 4, .ptr 3 0 0, .ty (.int .i64)], .one false [.hs 2 0], .row (.int .u8), .one false [.hs 4 0], .row (.int .u8)]
noncomputable def M_z2a (n : Nat) (a0 : FieldS) (a1 : Int) (a2 : Nat) (a3 : (List Int)) (a4 : Nat) (a5 : (List Int)) : Option Res :=
 cond (a0.2.1 == (3 : Int))
 (some (encRes ro_z2a rh_z2a (((0 : Int), ((3 : Int), ())), (((), ((), ((), (a1, ())))), ((a2, ()), (a3, ((a4, ()), (a5, ()))))))))
 (let y1 : ((Int × (Int × Unit)) × ((Unit × (Unit × (Unit × (Int × Unit)))) × ((Nat × Unit) × ((List Int) × ((Nat × Unit) × ((List Int) × Unit)))))) := (q_z29 a0 a1 a2 a3 a4 a5)
 cond (ok_z29 a0 a1 a2 a3 a4 a5)
 (some (encRes ro_z2a rh_z2a ((y1.1.1, (y1.1.2.1, ())), (((), ((), ((), (y1.2.1.2.2.2.1, ())))), ((y1.2.2.1.1, ()), (y1.2.2.2.1, ((y1.2.2.2.2.1.1, ()), (y1.2.2.2.2.2.1, ()))))))))
 (none))
noncomputable def Q_z2a (a0 : FieldS) (a1 : Int) (a2 : Nat) (a3 : (List Int)) (a4 : Nat) (a5 : (List Int)) : Option (RS ro_z2a rh_z2a) := decRes ro_z2a rh_z2a (M_z2a FUEL a0 a1 a2 a3 a4 a5)
noncomputable def ok_z2a (a0 : FieldS) (a1 : Int) (a2 : Nat) (a3 : (List Int)) (a4 : Nat) (a5 : (List Int)) : Bool := (Q_z2a a0 a1 a2 a3 a4 a5).isSome
noncomputable def q_z2a (a0 : FieldS) (a1 : Int) (a2 : Nat) (a3 : (List Int)) (a4 : Nat) (a5 : (List Int)) : RS ro_z2a rh_z2a := RS.get (Q_z2a a0 a1 a2 a3 a4 a5)
/-! z2b: pack_body_movexf81 -/
abbrev ro_z2b : List EK := []
abbrev rh_z2b : List HK := [.one false [.ptr 1 0 0, .nul 4, .ptr 3 0 0, .ty (.int .i64)], .one false [.hs 2 0], .row (.int .u8), .one false [.hs 4 0], .row (.int .u8)]
noncomputable def F_z2b_0 (n : Nat) (k_t0 : Unit → Option Res) (x0_0 : Int) (x0_2 : Nat) (x0_3 : Int) (x0_10 : (List HeadS)) (rec : Int → Option Res) (x0_4 : Int) : Option Res :=
 cond (decide (x0_4 < x0_3))
 (cond (decide ((0 : Int) ≤ x0_4 ∧ x0_4 < ((x0_2 : Nat) : Int)))
 (cond (decide ((rdd zHeadS x0_10 (Int.toNat x0_4)).2.1 ≥ x0_0))
 (none)
 (rec (IntKind.wrap .i64 (x0_4 + (1 : Int)))))
 (none))
 (k_t0 ())
noncomputable def L_z2b_0 (n : Nat) (k_t0 : Unit → Option Res) (x0_0 : Int) (x0_2 : Nat) (x0_3 : Int) (x0_10 : (List HeadS)) : Nat → Int → Option Res
  | 0, _ => none
  | m + 1, x0_4 => F_z2b_0 n k_t0 x0_0 x0_2 x0_3 x0_10 (L_z2b_0 n k_t0 x0_0 x0_2 x0_3 x0_10 m) x0_4
noncomputable def M_z2b (n : Nat) (a0 : Int) (a1 : Int) (a2 : Int) (a3 : Nat) (a4 : (List Int)) (a5 : Nat) (a6 : (List Int)) : Option Res :=
 L_z2b_0 n
  (fun _ => some (encRes ro_z2b rh_z2b ((), (((), ((), ((), (a2, ())))), ((a3, ()), (a4, ((a5, ()), (a6, ()))))))))
  a0
  0
  (0 : Int)
  ([])
  n
  (0 : Int)
noncomputable def Q_z2b (a0 : Int) (a1 : Int) (a2 : Int) (a3 : Nat) (a4 : (List Int)) (a5 : Nat) (a6 : (List Int)) : Option (RS ro_z2b rh_z2b) := decRes ro_z2b rh_z2b (M_z2b FUEL a0 a1 a2 a3 a4 a5 a6)
noncomputable def ok_z2b (a0 : Int) (a1 : Int) (a2 : Int) (a3 : Nat) (a4 : (List Int)) (a5 : Nat) (a6 : (List Int)) : Bool := (Q_z2b a0 a1 a2 a3 a4 a5 a6).isSome
noncomputable def q_z2b (a0 : Int) (a1 : Int) (a2 : Int) (a3 : Nat) (a4 : (List Int)) (a5 : Nat) (a6 : (List Int)) : RS ro_z2b rh_z2b := RS.get (Q_z2b a0 a1 a2 a3 a4 a5 a6)
/-! z2c: pack_Packet_Insertxef1 -/
abbrev ro_z2c : List EK := [.ty (.int .i64)]
abbrev rh_z2c : List HK := [.one false [.ptr 1 0 0, .nul 4, .ptr 3 0 0, .ty (.int .i64)], .one false [.hs 2 0], .row (.int .u8), .one false [.hs 4 0], .row (.int .u8)]
abbrev ro_z2c_1 : List EK := [.ty (.int .i64)]
abbrev rh_z2c_1 : List HK := [.one false [.ptr 1 0 0, .nul 4, .ptr 3 0 0, .ty (.int .i64)], .one false [.hs 5 0], .row (.int .u8), .one false [.hs 4 0], .row (.int .u8), .row (.int .u8)]
noncomputable def M_z2c (n : Nat) (a0 : FieldS) (a1 : Int) (a2 : Int) (a3 : Nat) (a4 : (List Int)) (a5 : Nat) (a6 : (List Int)) : Option Res :=
 let y1 : ((Int × (Int × Unit)) × ((Unit × (Unit × (Unit × (Int × Unit)))) × ((Nat × Unit) × ((List Int) × ((Nat × Unit) × ((List Int) × Unit)))))) := (q_z2a a0 a2 a3 a4 a5 a6)
 cond (ok_z2a a0 a2 a3 a4 a5 a6)
 (cond (y1.1.2.1 != (0 : Int))
 (some (encRes ro_z2c rh_z2c ((y1.1.2.1, ()), (((), ((), ((), (y1.2.1.2.2.2.1, ())))), ((y1.2.2.1.1, ()), (y1.2.2.2.1, ((y1.2.2.2.2.1.1, ()), (y1.2.2.2.2.2.1, ()))))))))
 (cond (decide (a1 < (0 : Int)))
 (some (encRes ro_z2c rh_z2c (((1 : Int), ()), (((), ((), ((), (y1.2.1.2.2.2.1, ())))), ((y1.2.2.1.1, ()), (y1.2.2.2.1, ((y1.2.2.2.2.1.1, ()), (y1.2.2.2.2.2.1, ()))))))))
 (let y4 : ((Int × Unit) × ((Nat × Unit) × ((List Int) × Unit))) := (q_z1k y1.1.1 a1 y1.2.2.1.1 y1.2.2.2.1)
 cond (ok_z1k y1.1.1 a1 y1.2.2.1.1 y1.2.2.2.1)
 (cond (y4.1.1 != (0 : Int))
 (some (encRes ro_z2c rh_z2c (((2 : Int), ()), (((), ((), ((), (y1.2.1.2.2.2.1, ())))), ((y4.2.1.1, ()), (y4.2.2.1, ((y1.2.2.2.2.1.1, ()), (y1.2.2.2.2.2.1, ()))))))))
 (let y5 : (Unit × ((Unit × (Unit × (Unit × (Int × Unit)))) × ((Nat × Unit) × ((List Int) × ((Nat × Unit) × ((List Int) × Unit)))))) := (q_z2b y1.1.1 a1 y1.2.1.2.2.2.1 y4.2.1.1 y4.2.2.1 y1.2.2.2.2.1.1 y1.2.2.2.2.2.1)
 cond (ok_z2b y1.1.1 a1 y1.2.1.2.2.2.1 y4.2.1.1 y4.2.2.1 y1.2.2.2.2.1.1 y1.2.2.2.2.2.1)
 (some (encRes ro_z2c rh_z2c (((0 : Int), ()), (((), ((), ((), (y5.2.1.2.2.2.1, ())))), ((y5.2.2.1.1, ()), (y5.2.2.2.1, ((y5.2.2.2.2.1.1, ()), (y5.2.2.2.2.2.1, ()))))))))
 (none)))
 (let y2 : ((Int × Unit) × ((Nat × Unit) × ((List Int) × ((List Int) × Unit)))) := (q_z1k_1 y1.1.1 a1 y1.2.2.1.1 y1.2.2.2.1)
 cond (ok_z1k_1 y1.1.1 a1 y1.2.2.1.1 y1.2.2.2.1)
 (cond (y2.1.1 != (0 : Int))
 (some (encRes ro_z2c_1 rh_z2c_1 (((2 : Int), ()), (((), ((), ((), (y1.2.1.2.2.2.1, ())))), ((y2.2.1.1, ()), (y2.2.2.1, ((y1.2.2.2.2.1.1, ()), (y1.2.2.2.2.2.1, (y2.2.2.2.1, ())))))))))
 (let y3 : (Unit × ((Unit × (Unit × (Unit × (Int × Unit)))) × ((Nat × Unit) × ((List Int) × ((Nat × Unit) × ((List Int) × Unit)))))) := (q_z2b y1.1.1 a1 y1.2.1.2.2.2.1 y2.2.1.1 y2.2.2.2.1 y1.2.2.2.2.1.1 y1.2.2.2.2.2.1)
 cond (ok_z2b y1.1.1 a1 y1.2.1.2.2.2.1 y2.2.1.1 y2.2.2.2.1 y1.2.2.2.2.1.1 y1.2.2.2.2.2.1)
 (some (encRes ro_z2c_1 rh_z2c_1 (((0 : Int), ()), (((), ((), ((), (y3.2.1.2.2.2.1, ())))), ((y3.2.2.1.1, ()), (y2.2.2.1, ((y3.2.2.2.2.1.1, ()), (y3.2.2.2.2.2.1, (y3.2.2.2.1, ())))))))))
 (none)))
 (none)))))
 (none)
noncomputable def Q_z2c (a0 : FieldS) (a1 : Int) (a2 : Int) (a3 : Nat) (a4 : (List Int)) (a5 : Nat) (a6 : (List Int)) : Option (RS ro_z2c rh_z2c) := decRes ro_z2c rh_z2c (M_z2c FUEL a0 a1 a2 a3 a4 a5 a6)
noncomputable def Q_z2c_1 (a0 : FieldS) (a1 : Int) (a2 : Int) (a3 : Nat) (a4 : (List Int)) (a5 : Nat) (a6 : (List Int)) : Option (RS ro_z2c_1 rh_z2c_1) := decRes ro_z2c_1 rh_z2c_1 (M_z2c FUEL a0 a1 a2 a3 a4 a5 a6)
noncomputable def ok_z2c_1 (a0 : FieldS) (a1 : Int) (a2 : Int) (a3 : Nat) (a4 : (List Int)) (a5 : Nat) (a6 : (List Int)) : Bool := (Q_z2c_1 a0 a1 a2 a3 a4 a5 a6).isSome
noncomputable def q_z2c_1 (a0 : FieldS) (a1 : Int) (a2 : Int) (a3 : Nat) (a4 : (List Int)) (a5 : Nat) (a6 : (List Int)) : RS ro_z2c_1 rh_z2c_1 := RS.get (Q_z2c_1 a0 a1 a2 a3 a4 a5 a6)
noncomputable def ok_z2c (a0 : FieldS) (a1 : Int) (a2 : Int) (a3 : Nat) (a4 : (List Int)) (a5 : Nat) (a6 : (List Int)) : Bool := (Q_z2c a0 a1 a2 a3 a4 a5 a6).isSome
noncomputable def q_z2c (a0 : FieldS) (a1 : Int) (a2 : Int) (a3 : Nat) (a4 : (List Int)) (a5 : Nat) (a6 : (List Int)) : RS ro_z2c rh_z2c := RS.get (Q_z2c a0 a1 a2 a3 a4 a5 a6)
/-! z2d: turnoutlaw17_inMeta -/
abbrev ro_z2d : List EK := [.agg FieldT]
abbrev rh_z2d : List HK := []
noncomputable def M_z2d (n : Nat) (a0 : Int) (a1 : Int) : Option Res :=
 some (encRes ro_z2d rh_z2d ((((0 : Int), ((3 : Int), ((0 : Int), (a0, (a1, ()))))), ()), ()))
noncomputable def Q_z2d (a0 : Int) (a1 : Int) : Option (RS ro_z2d rh_z2d) := decRes ro_z2d rh_z2d (M_z2d FUEL a0 a1)
noncomputable def ok_z2d (a0 : Int) (a1 : Int) : Bool := (Q_z2d a0 a1).isSome
noncomputable def q_z2d (a0 : Int) (a1 : Int) : RS ro_z2d rh_z2d := RS.get (Q_z2d a0 a1)
/-! z2e: slices_DeleteFuncv2 -/
abbrev ro_z2e : List EK := [.hs 2 0]
abbrev rh_z2e : List HK := [.one true [.ty (.int .i64)], .one true [.ty (.int .i64)], .row HeadT]
noncomputable def F_z2e_0 (n : Nat) (k_t0 : Int → Int → Int → (List HeadS) → Option Res) (x0_0 : Nat) (rec : Int → Int → Int → Int → (List HeadS) → Option Res) (x0_1 : Int) (x0_2 : Int) (x0_3 : Int) (x0_4 : Int) (x0_5 : (List HeadS)) : Option Res :=
 cond (decide (x0_2 < ((x0_0 : Nat) : Int)))
 (cond (decide ((0 : Int) ≤ x0_2 ∧ x0_2 < ((x0_0 : Nat) : Int)))
 (let y2 : ((Bool × Unit) × ((Int × Unit) × ((Int × Unit) × Unit))) := (q_z1q (rdd zHeadS x0_5 (Int.toNat x0_2)) x0_3 x0_4)
 cond (ok_z1q (rdd zHeadS x0_5 (Int.toNat x0_2)) x0_3 x0_4)
 (cond (!y2.1.1)
 (cond (decide ((0 : Int) ≤ x0_1 ∧ x0_1 < ((x0_0 : Nat) : Int)))
 (rec (IntKind.wrap .i64 (x0_1 + (1 : Int))) (IntKind.wrap .i64 (x0_2 + (1 : Int))) y2.2.1.1 y2.2.2.1.1 (List.set x0_5 (Int.toNat x0_1) (rdd zHeadS x0_5 (Int.toNat x0_2))))
 (none))
 (rec x0_1 (IntKind.wrap .i64 (x0_2 + (1 : Int))) y2.2.1.1 y2.2.2.1.1 x0_5))
 (none))
 (none))
 (k_t0 x0_1 x0_3 x0_4 x0_5)
noncomputable def L_z2e_0 (n : Nat) (k_t0 : Int → Int → Int → (List HeadS) → Option Res) (x0_0 : Nat) : Nat → Int → Int → Int → Int → (List HeadS) → Option Res
  | 0, _, _, _, _, _ => none
  | m + 1, x0_1, x0_2, x0_3, x0_4, x0_5 => F_z2e_0 n k_t0 x0_0 (L_z2e_0 n k_t0 x0_0 m) x0_1 x0_2 x0_3 x0_4 x0_5
noncomputable def M_z2e (n : Nat) (a0 : Int) (a1 : Int) : Option Res :=
 let y1 : ((Int × Unit) × ((Int × Unit) × ((Int × Unit) × Unit))) := (q_z1r ([]) a0 a1)
 cond (ok_z1r ([]) a0 a1)
 (cond (y1.1.1 == (-1 : Int))
 (some (encRes ro_z2e rh_z2e ((0, ()), ((y1.2.1.1, ()), ((y1.2.2.1.1, ()), ([], ()))))))
 (L_z2e_0 n
  (fun y3 y4 y5 y6 => cond (decide ((0 : Int) ≤ y3 ∧ y3 ≤ ((0 : Nat) : Int) ∧ ((0 : Nat) : Int) ≤ ((0 : Nat) : Int) ∧ ((0 : Nat) : Int) ≤ ((0 : Nat) : Int)))
 (cond (decide ((0 + Int.toNat y3) + (Int.toNat ((0 : Nat) : Int) - Int.toNat y3) ≤ (List.length y6)))
 (cond (decide ((0 : Int) ≤ (0 : Int) ∧ (0 : Int) ≤ y3 ∧ y3 ≤ ((0 : Nat) : Int) ∧ ((0 : Nat) : Int) ≤ ((0 : Nat) : Int)))
 (some (encRes ro_z2e rh_z2e (((Int.toNat y3 - Int.toNat (0 : Int)), ()), ((y4, ()), ((y5, ()), (((cutL zHeadS y6 0 (0 + Int.toNat y3)) ++ ((mkL (Int.toNat ((0 : Nat) : Int) - Int.toNat y3) (fun _ => zHeadS)) ++ (cutL zHeadS y6 ((0 + Int.toNat y3) + (List.length (mkL (Int.toNat ((0 : Nat) : Int) - Int.toNat y3) (fun _ => zHeadS)))) ((List.length y6) - ((0 + Int.toNat y3) + (List.length (mkL (Int.toNat ((0 : Nat) : Int) - Int.toNat y3) (fun _ => zHeadS)))))))), ()))))))
 (none))
 (none))
 (none))
  0
  n
  y1.1.1
  (IntKind.wrap .i64 (y1.1.1 + (1 : Int)))
  y1.2.1.1
  y1.2.2.1.1
  ([])))
 (none)
noncomputable def Q_z2e (a0 : Int) (a1 : Int) : Option (RS ro_z2e rh_z2e) := decRes ro_z2e rh_z2e (M_z2e FUEL a0 a1)
noncomputable def ok_z2e (a0 : Int) (a1 : Int) : Bool := (Q_z2e a0 a1).isSome
noncomputable def q_z2e (a0 : Int) (a1 : Int) : RS ro_z2e rh_z2e := RS.get (Q_z2e a0 a1)
/-! z2f: pack_Packet_Deletexef1 -/
abbrev ro_z2f : List EK := [.ty (.int .i64)]
abbrev rh_z2f : List HK := [.one false [.ptr 1 0 0, .nul 4, .ptr 3 0 0, .ty (.int .i64)], .one false [.hs 2 0], .row (.int .u8), .one false [.hs 4 0], .row (.int .u8)]
abbrev ro_z2f_1 : List EK := [.ty (.int .i64)]
abbrev rh_z2f_1 : List HK := [.one false [.ptr 1 0 0, .hs 5 0, .ptr 3 0 0, .ty (.int .i64)], .one false [.hs 2 0], .row (.int .u8), .one false [.hs 4 0], .row (.int .u8), .row HeadT]
noncomputable def M_z2f (n : Nat) (a0 : FieldS) (a1 : Int) (a2 : Int) (a3 : Nat) (a4 : (List Int)) (a5 : Nat) (a6 : (List Int)) : Option Res :=
 let y1 : ((Int × (Int × Unit)) × ((Unit × (Unit × (Unit × (Int × Unit)))) × ((Nat × Unit) × ((List Int) × ((Nat × Unit) × ((List Int) × Unit)))))) := (q_z2a a0 a2 a3 a4 a5 a6)
 cond (ok_z2a a0 a2 a3 a4 a5 a6)
 (cond (y1.1.2.1 != (0 : Int))
 (some (encRes ro_z2f rh_z2f ((y1.1.2.1, ()), (((), ((), ((), (y1.2.1.2.2.2.1, ())))), ((y1.2.2.1.1, ()), (y1.2.2.2.1, ((y1.2.2.2.2.1.1, ()), (y1.2.2.2.2.2.1, ()))))))))
 (let y2 : ((Int × Unit) × ((Nat × Unit) × ((List Int) × Unit))) := (q_z1p y1.1.1 a1 y1.2.2.1.1 y1.2.2.2.1)
 cond (ok_z1p y1.1.1 a1 y1.2.2.1.1 y1.2.2.2.1)
 (cond (y2.1.1 != (0 : Int))
 (some (encRes ro_z2f rh_z2f (((1 : Int), ()), (((), ((), ((), (y1.2.1.2.2.2.1, ())))), ((y2.2.1.1, ()), (y2.2.2.1, ((y1.2.2.2.2.1.1, ()), (y1.2.2.2.2.2.1, ()))))))))
 (let y3 : ((Nat × Unit) × ((Int × Unit) × ((Int × Unit) × ((List HeadS) × Unit)))) := (q_z2e y1.1.1 a1)
 cond (ok_z2e y1.1.1 a1)
 (let y4 : (Unit × ((Unit × (Nat × (Unit × (Int × Unit)))) × ((Nat × Unit) × ((List Int) × ((List HeadS) × ((Nat × Unit) × ((List Int) × Unit))))))) := (q_z1l y3.2.1.1 (IntKind.wrap .i64 (0 - y3.2.2.1.1)) y3.1.1 y1.2.1.2.2.2.1 y2.2.1.1 y2.2.2.1 y3.2.2.2.1 y1.2.2.2.2.1.1 y1.2.2.2.2.2.1)
 cond (ok_z1l y3.2.1.1 (IntKind.wrap .i64 (0 - y3.2.2.1.1)) y3.1.1 y1.2.1.2.2.2.1 y2.2.1.1 y2.2.2.1 y3.2.2.2.1 y1.2.2.2.2.1.1 y1.2.2.2.2.2.1)
 (some (encRes ro_z2f_1 rh_z2f_1 (((0 : Int), ()), (((), (y4.2.1.2.1, ((), (y4.2.1.2.2.2.1, ())))), ((y4.2.2.1.1, ()), (y4.2.2.2.1, ((y4.2.2.2.2.2.1.1, ()), (y4.2.2.2.2.2.2.1, (y4.2.2.2.2.1, ())))))))))
 (none))
 (none)))
 (none)))
 (none)
noncomputable def Q_z2f (a0 : FieldS) (a1 : Int) (a2 : Int) (a3 : Nat) (a4 : (List Int)) (a5 : Nat) (a6 : (List Int)) : Option (RS ro_z2f rh_z2f) := decRes ro_z2f rh_z2f (M_z2f FUEL a0 a1 a2 a3 a4 a5 a6)
noncomputable def Q_z2f_1 (a0 : FieldS) (a1 : Int) (a2 : Int) (a3 : Nat) (a4 : (List Int)) (a5 : Nat) (a6 : (List Int)) : Option (RS ro_z2f_1 rh_z2f_1) := decRes ro_z2f_1 rh_z2f_1 (M_z2f FUEL a0 a1 a2 a3 a4 a5 a6)
noncomputable def ok_z2f_1 (a0 : FieldS) (a1 : Int) (a2 : Int) (a3 : Nat) (a4 : (List Int)) (a5 : Nat) (a6 : (List Int)) : Bool := (Q_z2f_1 a0 a1 a2 a3 a4 a5 a6).isSome
noncomputable def q_z2f_1 (a0 : FieldS) (a1 : Int) (a2 : Int) (a3 : Nat) (a4 : (List Int)) (a5 : Nat) (a6 : (List Int)) : RS ro_z2f_1 rh_z2f_1 := RS.get (Q_z2f_1 a0 a1 a2 a3 a4 a5 a6)
noncomputable def ok_z2f (a0 : FieldS) (a1 : Int) (a2 : Int) (a3 : Nat) (a4 : (List Int)) (a5 : Nat) (a6 : (List Int)) : Bool := (Q_z2f a0 a1 a2 a3 a4 a5 a6).isSome
noncomputable def q_z2f (a0 : FieldS) (a1 : Int) (a2 : Int) (a3 : Nat) (a4 : (List Int)) (a5 : Nat) (a6 : (List Int)) : RS ro_z2f rh_z2f := RS.get (Q_z2f a0 a1 a2 a3 a4 a5 a6)
/-! z2g: pack_Packet_placex09a -/
abbrev ro_z2g : List EK := [.nul 0, .ty (.int .i64), .ty (.int .i64)]
abbrev rh_z2g : List HK := []
noncomputable def M_z2g (n : Nat) (a0 : FieldS) : Option Res :=
 some (encRes ro_z2g rh_z2g (((), ((0 : Int), ((1 : Int), ()))), ()))
noncomputable def Q_z2g (a0 : FieldS) : Option (RS ro_z2g rh_z2g) := decRes ro_z2g rh_z2g (M_z2g FUEL a0)
noncomputable def ok_z2g (a0 : FieldS) : Bool := (Q_z2g a0).isSome
noncomputable def q_z2g (a0 : FieldS) : RS ro_z2g rh_z2g := RS.get (Q_z2g a0)
/-! z2h: pack_Packet_Getx09a -/
abbrev ro_z2h : List EK := [.agg WordT, .ty (.int .i64)]
abbrev rh_z2h : List HK := []
noncomputable def M_z2h (n : Nat) (a0 : FieldS) : Option Res :=
 let y1 : ((Unit × (Int × (Int × Unit))) × Unit) := (q_z2g a0)
 cond (ok_z2g a0)
 (cond (y1.1.2.2.1 != (0 : Int))
 (some (encRes ro_z2h rh_z2h ((((0 : Int), ((0 : Int), ())), (y1.1.2.2.1, ())), ())))
 (let y2 : ((Int × Unit) × Unit) := (q_z18 y1.1.2.1 a0.2.2.2.1)
 cond (ok_z18 y1.1.2.1 a0.2.2.2.1)
 (let y3 : ((WordS × (Int × Unit)) × Unit) := (q_z19 y2.1.1 a0.2.2.2.2.1)
 cond (ok_z19 y2.1.1 a0.2.2.2.2.1)
 (cond (y3.1.2.1 != (0 : Int))
 (some (encRes ro_z2h rh_z2h ((((0 : Int), ((0 : Int), ())), ((1 : Int), ())), ())))
 (some (encRes ro_z2h rh_z2h ((y3.1.1, ((0 : Int), ())), ()))))
 (none))
 (none)))
 (none)
noncomputable def Q_z2h (a0 : FieldS) : Option (RS ro_z2h rh_z2h) := decRes ro_z2h rh_z2h (M_z2h FUEL a0)
noncomputable def ok_z2h (a0 : FieldS) : Bool := (Q_z2h a0).isSome
noncomputable def q_z2h (a0 : FieldS) : RS ro_z2h rh_z2h := RS.get (Q_z2h a0)
/-! z2i: pack_Packet_Atx09a -/
abbrev ro_z2i : List EK := [.ty (.int .i64), .ty (.int .i64)]
abbrev rh_z2i : List HK := []
noncomputable def M_z2i (n : Nat) (a0 : FieldS) : Option Res :=
 let y1 : ((Unit × (Int × (Int × Unit))) × Unit) := (q_z2g a0)
 cond (ok_z2g a0)
 (cond (y1.1.2.2.1 != (0 : Int))
 (some (encRes ro_z2i rh_z2i (((0 : Int), (y1.1.2.2.1, ())), ())))
 (let y2 : ((Int × (Int × Unit)) × Unit) := (q_z1e y1.1.2.1 a0)
 cond (ok_z1e y1.1.2.1 a0)
 (some (encRes ro_z2i rh_z2i ((y2.1.1, (y2.1.2.1, ())), ())))
 (none)))
 (none)
noncomputable def Q_z2i (a0 : FieldS) : Option (RS ro_z2i rh_z2i) := decRes ro_z2i rh_z2i (M_z2i FUEL a0)
noncomputable def ok_z2i (a0 : FieldS) : Bool := (Q_z2i a0).isSome
noncomputable def q_z2i (a0 : FieldS) : RS ro_z2i rh_z2i := RS.get (Q_z2i a0)
/-! z2j: pack_Packet_Walkxb96 -/
abbrev ro_z2j : List EK := [.ty (.int .i64), .ty (.int .i64)]
abbrev rh_z2j : List HK := []
noncomputable def M_z2j (n : Nat) (a0 : (List NodeS)) : Option Res :=
 some (encRes ro_z2j rh_z2j (((0 : Int), ((1 : Int), ())), ()))
noncomputable def Q_z2j (a0 : (List NodeS)) : Option (RS ro_z2j rh_z2j) := decRes ro_z2j rh_z2j (M_z2j FUEL a0)
noncomputable def ok_z2j (a0 : (List NodeS)) : Bool := (Q_z2j a0).isSome
noncomputable def q_z2j (a0 : (List NodeS)) : RS ro_z2j rh_z2j := RS.get (Q_z2j a0)
/-! z2k: pack_Packet_Putx6c2 -/
abbrev ro_z2k : List EK := [.ty (.int .i64)]
abbrev rh_z2k : List HK := []
noncomputable def M_z2k (n : Nat) (a0 : FieldS) (a1 : WordS) : Option Res :=
 let y1 : ((Unit × (Int × (Int × Unit))) × Unit) := (q_z2g a0)
 cond (ok_z2g a0)
 (cond (y1.1.2.2.1 == (0 : Int))
 (let y2 : ((Int × Unit) × Unit) := (q_z18 y1.1.2.1 a0.2.2.2.1)
 cond (ok_z18 y1.1.2.1 a0.2.2.2.1)
 (let y3 : ((Int × Unit) × Unit) := (q_z1z y2.1.1 a0.2.2.2.2.1 a1)
 cond (ok_z1z y2.1.1 a0.2.2.2.2.1 a1)
 (cond (y3.1.1 != (0 : Int))
 (some (encRes ro_z2k rh_z2k (((1 : Int), ()), ())))
 (some (encRes ro_z2k rh_z2k ((y1.1.2.2.1, ()), ()))))
 (none))
 (none))
 (some (encRes ro_z2k rh_z2k ((y1.1.2.2.1, ()), ()))))
 (none)
noncomputable def Q_z2k (a0 : FieldS) (a1 : WordS) : Option (RS ro_z2k rh_z2k) := decRes ro_z2k rh_z2k (M_z2k FUEL a0 a1)
noncomputable def ok_z2k (a0 : FieldS) (a1 : WordS) : Bool := (Q_z2k a0 a1).isSome
noncomputable def q_z2k (a0 : FieldS) (a1 : WordS) : RS ro_z2k rh_z2k := RS.get (Q_z2k a0 a1)
/-! z2l: pack_Packet_spotx09a -/
abbrev ro_z2l : List EK := [.ty (.int .i64), .ty (.int .i64)]
abbrev rh_z2l : List HK := []
noncomputable def M_z2l (n : Nat) (a0 : FieldS) : Option Res :=
 let y1 : ((Int × (Int × Unit)) × Unit) := (q_z2i a0)
 cond (ok_z2i a0)
 (some (encRes ro_z2l rh_z2l ((y1.1.1, (y1.1.2.1, ())), ())))
 (none)
noncomputable def Q_z2l (a0 : FieldS) : Option (RS ro_z2l rh_z2l) := decRes ro_z2l rh_z2l (M_z2l FUEL a0)
noncomputable def ok_z2l (a0 : FieldS) : Bool := (Q_z2l a0).isSome
noncomputable def q_z2l (a0 : FieldS) : RS ro_z2l rh_z2l := RS.get (Q_z2l a0)
/-! z2m: pack_Packet_Insertx5e5 -/
abbrev ro_z2m : List EK := [.ty (.int .i64)]
abbrev rh_z2m : List HK := []
noncomputable def M_z2m (n : Nat) (a0 : FieldS) (a1 : Int) : Option Res :=
 let y1 : ((Int × (Int × Unit)) × Unit) := (q_z2l a0)
 cond (ok_z2l a0)
 (cond (y1.1.2.1 != (0 : Int))
 (some (encRes ro_z2m rh_z2m ((y1.1.2.1, ()), ())))
 (cond (decide (a1 < (0 : Int)))
 (some (encRes ro_z2m rh_z2m (((1 : Int), ()), ())))
 (none)))
 (none)
noncomputable def Q_z2m (a0 : FieldS) (a1 : Int) : Option (RS ro_z2m rh_z2m) := decRes ro_z2m rh_z2m (M_z2m FUEL a0 a1)
noncomputable def ok_z2m (a0 : FieldS) (a1 : Int) : Bool := (Q_z2m a0 a1).isSome
noncomputable def q_z2m (a0 : FieldS) (a1 : Int) : RS ro_z2m rh_z2m := RS.get (Q_z2m a0 a1)
/-! z2n: pack_Packet_Deletex5e5 -/
abbrev ro_z2n : List EK := [.ty (.int .i64)]
abbrev rh_z2n : List HK := []
noncomputable def M_z2n (n : Nat) (a0 : FieldS) (a1 : Int) : Option Res :=
 let y1 : ((Int × (Int × Unit)) × Unit) := (q_z2l a0)
 cond (ok_z2l a0)
 (cond (y1.1.2.1 != (0 : Int))
 (some (encRes ro_z2n rh_z2n ((y1.1.2.1, ()), ())))
 (none))
 (none)
noncomputable def Q_z2n (a0 : FieldS) (a1 : Int) : Option (RS ro_z2n rh_z2n) := decRes ro_z2n rh_z2n (M_z2n FUEL a0 a1)
noncomputable def ok_z2n (a0 : FieldS) (a1 : Int) : Bool := (Q_z2n a0 a1).isSome
noncomputable def q_z2n (a0 : FieldS) (a1 : Int) : RS ro_z2n rh_z2n := RS.get (Q_z2n a0 a1)
/-! z2o: pack_Packet_Lenxd13 -/
abbrev ro_z2o : List EK := [.ty (.int .i64)]
abbrev rh_z2o : List HK := []
noncomputable def M_z2o (n : Nat) : Option Res :=
 some (encRes ro_z2o rh_z2o (((0 : Int), ()), ()))
noncomputable def Q_z2o : Option (RS ro_z2o rh_z2o) := decRes ro_z2o rh_z2o (M_z2o FUEL)
noncomputable def ok_z2o : Bool := (Q_z2o).isSome
noncomputable def q_z2o : RS ro_z2o rh_z2o := RS.get (Q_z2o)
/-! z2p: pack_Packet_Sumx787 -/
abbrev ro_z2p : List EK := [.ty (.int .i64)]
abbrev rh_z2p : List HK := []
noncomputable def M_z2p (n : Nat) (a0 : FieldS) (a1 : FieldS) (a2 : Int) : Option Res :=
 let y1 : ((Int × (Int × Unit)) × Unit) := (q_z2l a1)
 cond (ok_z2l a1)
 (cond (y1.1.2.1 != (0 : Int))
 (some (encRes ro_z2p rh_z2p ((y1.1.2.1, ()), ())))
 (cond (a2 == (0 : Int))
 (let y2 : ((Int × Unit) × Unit) := q_z2o
 cond ok_z2o
 (none)
 (none))
 (none)))
 (none)
noncomputable def Q_z2p (a0 : FieldS) (a1 : FieldS) (a2 : Int) : Option (RS ro_z2p rh_z2p) := decRes ro_z2p rh_z2p (M_z2p FUEL a0 a1 a2)
noncomputable def ok_z2p (a0 : FieldS) (a1 : FieldS) (a2 : Int) : Bool := (Q_z2p a0 a1 a2).isSome
noncomputable def q_z2p (a0 : FieldS) (a1 : FieldS) (a2 : Int) : RS ro_z2p rh_z2p := RS.get (Q_z2p a0 a1 a2)
/-! z2q: pack_Packet_Portxd13 -/
abbrev ro_z2q : List EK := [.ty (.int .i64)]
abbrev rh_z2q : List HK := []
noncomputable def M_z2q (n : Nat) : Option Res :=
 some (encRes ro_z2q rh_z2q (((0 : Int), ()), ()))
noncomputable def Q_z2q : Option (RS ro_z2q rh_z2q) := decRes ro_z2q rh_z2q (M_z2q FUEL)
noncomputable def ok_z2q : Bool := (Q_z2q).isSome
noncomputable def q_z2q : RS ro_z2q rh_z2q := RS.get (Q_z2q)
/-! z2r: pack_Packet_Textxd13 -/
abbrev ro_z2r : List EK := [.ty .str]
abbrev rh_z2r : List HK := []
noncomputable def M_z2r (n : Nat) : Option Res :=
 some (encRes ro_z2r rh_z2r (((ByteArray.mk #[]), ()), ()))
noncomputable def Q_z2r : Option (RS ro_z2r rh_z2r) := decRes ro_z2r rh_z2r (M_z2r FUEL)
noncomputable def ok_z2r : Bool := (Q_z2r).isSome
noncomputable def q_z2r : RS ro_z2r rh_z2r := RS.get (Q_z2r)
/-! z2s: pack_Packet_Metaxd13 -/
abbrev ro_z2s : List EK := [.ty .str]
abbrev rh_z2s : List HK := []
noncomputable def M_z2s (n : Nat) : Option Res :=
 some (encRes ro_z2s rh_z2s (((ByteArray.mk #[]), ()), ()))
noncomputable def Q_z2s : Option (RS ro_z2s rh_z2s) := decRes ro_z2s rh_z2s (M_z2s FUEL)
noncomputable def ok_z2s : Bool := (Q_z2s).isSome
noncomputable def q_z2s : RS ro_z2s rh_z2s := RS.get (Q_z2s)
/-! z2t: pack_Packet_Headsxd13 -/
abbrev ro_z2t : List EK := [.hs 0 0]
abbrev rh_z2t : List HK := [.row HeadT]
noncomputable def M_z2t (n : Nat) : Option Res :=
 some (encRes ro_z2t rh_z2t ((0, ()), ([], ())))
noncomputable def Q_z2t : Option (RS ro_z2t rh_z2t) := decRes ro_z2t rh_z2t (M_z2t FUEL)
noncomputable def ok_z2t : Bool := (Q_z2t).isSome
noncomputable def q_z2t : RS ro_z2t rh_z2t := RS.get (Q_z2t)
/-! z2u: pack_Packet_Copyxd13 -/
abbrev ro_z2u : List EK := [.nul 0]
abbrev rh_z2u : List HK := []
noncomputable def M_z2u (n : Nat) : Option Res :=
 some (encRes ro_z2u rh_z2u (((), ()), ()))
noncomputable def Q_z2u : Option (RS ro_z2u rh_z2u) := decRes ro_z2u rh_z2u (M_z2u FUEL)
noncomputable def ok_z2u : Bool := (Q_z2u).isSome
noncomputable def q_z2u : RS ro_z2u rh_z2u := RS.get (Q_z2u)
/-! z2v: pack_Packet_Lenx626 -/
abbrev ro_z2v : List EK := [.ty (.int .i64)]
abbrev rh_z2v : List HK := [.one false [.ptr 1 0 0, .nul 4, .ptr 3 0 0, .ty (.int .i64)], .one false [.hs 2 0], .row (.int .u8), .one false [.hs 4 0], .row (.int .u8)]
noncomputable def M_z2v (n : Nat) (a0 : Int) (a1 : Nat) (a2 : (List Int)) (a3 : Nat) (a4 : (List Int)) : Option Res :=
 let y1 : ((Int × Unit) × ((Nat × Unit) × ((List Int) × Unit))) := (q_z1f a1 a2)
 cond (ok_z1f a1 a2)
 (some (encRes ro_z2v rh_z2v ((y1.1.1, ()), (((), ((), ((), (a0, ())))), ((y1.2.1.1, ()), (y1.2.2.1, ((a3, ()), (a4, ()))))))))
 (none)
noncomputable def Q_z2v (a0 : Int) (a1 : Nat) (a2 : (List Int)) (a3 : Nat) (a4 : (List Int)) : Option (RS ro_z2v rh_z2v) := decRes ro_z2v rh_z2v (M_z2v FUEL a0 a1 a2 a3 a4)
noncomputable def ok_z2v (a0 : Int) (a1 : Nat) (a2 : (List Int)) (a3 : Nat) (a4 : (List Int)) : Bool := (Q_z2v a0 a1 a2 a3 a4).isSome
noncomputable def q_z2v (a0 : Int) (a1 : Nat) (a2 : (List Int)) (a3 : Nat) (a4 : (List Int)) : RS ro_z2v rh_z2v := RS.get (Q_z2v a0 a1 a2 a3 a4)
end Go.AMach
