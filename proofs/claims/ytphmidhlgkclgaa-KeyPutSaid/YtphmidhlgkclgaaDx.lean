/- A part of the walk. -/
import Derived.Test.YtphmidhlgkclgaaAm21
import Derived.Test.YtphmidhlgkclgaaAm24
namespace Go.AMach
set_option linter.unusedVariables false
set_option linter.unusedSimpArgs false
set_option linter.unnecessarySimpa false
set_option linter.unusedVariables false
abbrev ArgT : Ty := (.pair (.int .u8) (.pair (.int .u64) .unit))
abbrev ArgS : Type := (Int × (Int × Unit))
abbrev zArgS : ArgS := ((0 : Int), ((0 : Int), ()))
abbrev ArmT : Ty := (.pair (.int .u32) (.pair (.int .i64) .unit))
abbrev ArmS : Type := (Int × (Int × Unit))
abbrev zArmS : ArmS := ((0 : Int), ((0 : Int), ()))
abbrev HeadT : Ty := (.pair (.int .i64) (.pair (.int .i64) .unit))
abbrev HeadS : Type := (Int × (Int × Unit))
abbrev zHeadS : HeadS := ((0 : Int), ((0 : Int), ()))
abbrev WordT : Ty := (.pair (.int .u64) (.pair (.int .u64) .unit))
abbrev WordS : Type := (Int × (Int × Unit))
abbrev zWordS : WordS := ((0 : Int), ((0 : Int), ()))
abbrev BucketT : Ty := (.pair (.int .u64) (.pair (.int .i64) .unit))
abbrev BucketS : Type := (Int × (Int × Unit))
abbrev zBucketS : BucketS := ((0 : Int), ((0 : Int), ()))
abbrev SpanT : Ty := (.pair (.int .i64) HeadT)
abbrev SpanS : Type := (Int × HeadS)
abbrev zSpanS : SpanS := ((0 : Int), zHeadS)
abbrev ComeT : Ty := (.pair HeadT (.pair .bool (.pair (.int .i64) .unit)))
abbrev ComeS : Type := (HeadS × (Bool × (Int × Unit)))
abbrev zComeS : ComeS := (zHeadS, (false, ((0 : Int), ())))
abbrev FieldT : Ty := (.pair (.int .i64) (.pair (.int .u8) SpanT))
abbrev FieldS : Type := (Int × (Int × SpanS))
abbrev zFieldS : FieldS := ((0 : Int), ((0 : Int), zSpanS))
abbrev TableT : Ty := (.pair (.int .i64) (.pair (.int .u8) (.pair (.slice (.int .i64)) HeadT)))
abbrev TableS : Type := (Int × (Int × ((List Int) × HeadS)))
abbrev zTableS : TableS := ((0 : Int), ((0 : Int), ([], zHeadS)))
abbrev PacketT : Ty := (.pair .str (.pair .str (.pair (.int .i64) (.pair (.slice HeadT) .unit))))
abbrev PacketS : Type := (ByteArray × (ByteArray × (Int × ((List HeadS) × Unit))))
abbrev zPacketS : PacketS := (ByteArray.empty, (ByteArray.empty, ((0 : Int), ([], ()))))
abbrev GroupT : Ty := (.pair (.int .i64) (.pair (.int .u8) (.pair (.int .i64) (.pair (.slice BucketT) .unit))))
abbrev GroupS : Type := (Int × (Int × (Int × ((List BucketS) × Unit))))
abbrev zGroupS : GroupS := ((0 : Int), ((0 : Int), ((0 : Int), ([], ()))))
abbrev InstrT : Ty := (.pair (.int .u8) (.pair (.int .i64) (.pair ArgT (.pair ArgT (.pair (.int .i64) .unit)))))
abbrev InstrS : Type := (Int × (Int × (ArgS × (ArgS × (Int × Unit)))))
abbrev zInstrS : InstrS := ((0 : Int), ((0 : Int), (zArgS, (zArgS, ((0 : Int), ())))))
abbrev BlockT : Ty := (.pair (.int .i64) (.pair (.slice InstrT) .unit))
abbrev BlockS : Type := (Int × ((List InstrS) × Unit))
abbrev zBlockS : BlockS := ((0 : Int), ([], ()))
abbrev EntryT : Ty := (.pair (.int .i64) (.pair .str (.pair .str (.pair (.int .i64) (.pair (.int .i64) (.pair (.int .i64) (.pair (.slice (.int .u64)) (.pair (.int .i64) (.pair (.int .i64) (.pair (.int .u64) (.pair .bool .unit)))))))))))
abbrev EntryS : Type := (Int × (ByteArray × (ByteArray × (Int × (Int × (Int × ((List Int) × (Int × (Int × (Int × (Bool × Unit)))))))))))
abbrev zEntryS : EntryS := ((0 : Int), (ByteArray.empty, (ByteArray.empty, ((0 : Int), ((0 : Int), ((0 : Int), ([], ((0 : Int), ((0 : Int), ((0 : Int), (false, ())))))))))))
abbrev NodeT : Ty := (.pair (.int .i64) (.pair (.int .i64) (.pair (.int .i64) (.pair (.int .i64) (.pair (.int .i64) (.pair (.int .i64) (.pair (.int .i64) (.pair (.slice ArmT) (.pair (.int .i64) .unit)))))))))
abbrev NodeS : Type := (Int × (Int × (Int × (Int × (Int × (Int × (Int × ((List ArmS) × (Int × Unit)))))))))
abbrev zNodeS : NodeS := ((0 : Int), ((0 : Int), ((0 : Int), ((0 : Int), ((0 : Int), ((0 : Int), ((0 : Int), ([], ((0 : Int), ())))))))))
abbrev ConfigT : Ty := (.pair (.slice NodeT) (.pair (.slice FieldT) (.pair (.slice TableT) (.pair (.slice EntryT) (.pair (.slice BlockT) (.pair (.slice GroupT) (.pair (.slice SpanT) (.pair (.slice HeadT) (.pair (.slice (.int .i64)) .unit)))))))))
abbrev ConfigS : Type := ((List NodeS) × ((List FieldS) × ((List TableS) × ((List EntryS) × ((List BlockS) × ((List GroupS) × ((List SpanS) × ((List HeadS) × ((List Int) × Unit)))))))))
abbrev zConfigS : ConfigS := ([], ([], ([], ([], ([], ([], ([], ([], ([], ())))))))))
/-! z00: buf_New -/
abbrev ro_z00 : List EK := [.nul 0, .ci .i64 (5 : Int)]
abbrev rh_z00 : List HK := []
abbrev ro_z00_1 : List EK := [.ptr 0 0 0, .ci .i64 (0 : Int)]
abbrev rh_z00_1 : List HK := [.one false [.hs 1 0], .row (.int .u8)]
noncomputable def M_z00 (n : Nat) (a0 : ByteArray) : Option Res :=
 cond (decide (((ByteArray.size a0 : Nat) : Int) > (9216 : Int)))
 (some (encRes ro_z00 rh_z00 (((), ((), ())), ())))
 (some (encRes ro_z00_1 rh_z00_1 (((), ((), ())), (((ByteArray.size a0), ()), ((bytesL a0), ())))))
noncomputable def Q_z00 (a0 : ByteArray) : Option (RS ro_z00 rh_z00) := decRes ro_z00 rh_z00 (M_z00 FUEL a0)
noncomputable def Q_z00_1 (a0 : ByteArray) : Option (RS ro_z00_1 rh_z00_1) := decRes ro_z00_1 rh_z00_1 (M_z00 FUEL a0)
noncomputable def ok_z00_1 (a0 : ByteArray) : Bool := (Q_z00_1 a0).isSome
noncomputable def q_z00_1 (a0 : ByteArray) : RS ro_z00_1 rh_z00_1 := RS.get (Q_z00_1 a0)
noncomputable def ok_z00 (a0 : ByteArray) : Bool := (Q_z00 a0).isSome
noncomputable def q_z00 (a0 : ByteArray) : RS ro_z00 rh_z00 := RS.get (Q_z00 a0)
/-! z01: pack_New -/
abbrev ro_z01 : List EK := [.ptr 0 0 0, .ci .i64 (0 : Int)]
abbrev rh_z01 : List HK := [.one false [.ptr 1 0 0, .nul 4, .ptr 3 0 0, .ty (.int .i64)], .one false [.hs 2 0], .row (.int .u8), .one false [.hs 4 0], .row (.int .u8)]
abbrev ro_z01_1 : List EK := [.ptr 0 0 0, .ci .i64 (0 : Int)]
abbrev rh_z01_1 : List HK := [.one false [.ptr 1 0 0, .nul 4, .nul 0, .ty (.int .i64)], .one false [.hs 2 0], .row (.int .u8)]
abbrev ro_z01_2 : List EK := [.nul 0, .ci .i64 (10 : Int)]
abbrev rh_z01_2 : List HK := []
noncomputable def M_z01 (n : Nat) (a0 : Int) (a1 : ByteArray) : Option Res :=
 let y4 : ((Unit × (Unit × Unit)) × Unit) := (q_z00 a1)
 cond (ok_z00 a1)
 (some (encRes ro_z01_2 rh_z01_2 (((), ((), ())), ())))
 (let y1 : ((Unit × (Unit × Unit)) × ((Nat × Unit) × ((List Int) × Unit))) := (q_z00_1 a1)
 cond (ok_z00_1 a1)
 (cond (decide ((0 : Int) ≤ (32 : Int) ∧ (32 : Int) ≤ (32 : Int) ∧ (1 : Nat) * (32 : Int) ≤ (2 : Int) ^ 46))
 (let y3 : ((Unit × (Unit × Unit)) × Unit) := (q_z00 (bytesOf (mkL (Int.toNat (32 : Int)) (fun i => (0 : Int)))))
 cond (ok_z00 (bytesOf (mkL (Int.toNat (32 : Int)) (fun i => (0 : Int)))))
 (some (encRes ro_z01_1 rh_z01_1 (((), ((), ())), (((), ((), ((), (a0, ())))), ((y1.2.1.1, ()), (y1.2.2.1, ()))))))
 (let y2 : ((Unit × (Unit × Unit)) × ((Nat × Unit) × ((List Int) × Unit))) := (q_z00_1 (bytesOf (mkL (Int.toNat (32 : Int)) (fun i => (0 : Int)))))
 cond (ok_z00_1 (bytesOf (mkL (Int.toNat (32 : Int)) (fun i => (0 : Int)))))
 (some (encRes ro_z01 rh_z01 (((), ((), ())), (((), ((), ((), (a0, ())))), ((y1.2.1.1, ()), (y1.2.2.1, ((y2.2.1.1, ()), (y2.2.2.1, ()))))))))
 (none)))
 (none))
 (none))
noncomputable def Q_z01 (a0 : Int) (a1 : ByteArray) : Option (RS ro_z01 rh_z01) := decRes ro_z01 rh_z01 (M_z01 FUEL a0 a1)
noncomputable def Q_z01_1 (a0 : Int) (a1 : ByteArray) : Option (RS ro_z01_1 rh_z01_1) := decRes ro_z01_1 rh_z01_1 (M_z01 FUEL a0 a1)
noncomputable def ok_z01_1 (a0 : Int) (a1 : ByteArray) : Bool := (Q_z01_1 a0 a1).isSome
noncomputable def q_z01_1 (a0 : Int) (a1 : ByteArray) : RS ro_z01_1 rh_z01_1 := RS.get (Q_z01_1 a0 a1)
noncomputable def Q_z01_2 (a0 : Int) (a1 : ByteArray) : Option (RS ro_z01_2 rh_z01_2) := decRes ro_z01_2 rh_z01_2 (M_z01 FUEL a0 a1)
noncomputable def ok_z01_2 (a0 : Int) (a1 : ByteArray) : Bool := (Q_z01_2 a0 a1).isSome
noncomputable def q_z01_2 (a0 : Int) (a1 : ByteArray) : RS ro_z01_2 rh_z01_2 := RS.get (Q_z01_2 a0 a1)
noncomputable def ok_z01 (a0 : Int) (a1 : ByteArray) : Bool := (Q_z01 a0 a1).isSome
noncomputable def q_z01 (a0 : Int) (a1 : ByteArray) : RS ro_z01 rh_z01 := RS.get (Q_z01 a0 a1)
/-! z02: turnoutlaw18_bits -/
abbrev ro_z02 : List EK := [.agg FieldT]
abbrev rh_z02 : List HK := []
noncomputable def M_z02 (n : Nat) (a0 : Int) (a1 : Int) : Option Res :=
 some (encRes ro_z02 rh_z02 ((((1 : Int), ((1 : Int), ((0 : Int), (a0, (a1, ()))))), ()), ()))
noncomputable def Q_z02 (a0 : Int) (a1 : Int) : Option (RS ro_z02 rh_z02) := decRes ro_z02 rh_z02 (M_z02 FUEL a0 a1)
noncomputable def ok_z02 (a0 : Int) (a1 : Int) : Bool := (Q_z02 a0 a1).isSome
noncomputable def q_z02 (a0 : Int) (a1 : Int) : RS ro_z02 rh_z02 := RS.get (Q_z02 a0 a1)
/-! z03: pack_Packet_placexe04 -/
abbrev ro_z03 : List EK := [.ptr 1 0 0, .ty (.int .i64), .ty (.int .i64)]
abbrev rh_z03 : List HK := [.one false [.ptr 1 0 0, .nul 4, .ptr 3 0 0, .ty (.int .i64)], .one false [.hs 2 0], .row (.int .u8), .one false [.hs 4 0], .row (.int .u8)]
abbrev ro_z03_1 : List EK := [.ptr 3 0 0, .ty (.int .i64), .ty (.int .i64)]
abbrev rh_z03_1 : List HK := [.one false [.ptr 1 0 0, .nul 4, .ptr 3 0 0, .ty (.int .i64)], .one false [.hs 2 0], .row (.int .u8), .one false [.hs 4 0], .row (.int .u8)]
abbrev ro_z03_2 : List EK := [.nul 0, .ty (.int .i64), .ty (.int .i64)]
abbrev rh_z03_2 : List HK := [.one false [.ptr 1 0 0, .nul 4, .ptr 3 0 0, .ty (.int .i64)], .one false [.hs 2 0], .row (.int .u8), .one false [.hs 4 0], .row (.int .u8)]
noncomputable def F_z03_1 (n : Nat) (k_r : Int → Int → Option Res) (k_t1 : Unit → Option Res) (x1_0 : Nat) (x1_1 : Int) (x1_8 : FieldS) (x1_9 : (List HeadS)) (rec : Int → Option Res) (x1_2 : Int) : Option Res :=
 cond (decide (x1_2 < x1_1))
 (cond (decide ((0 : Int) ≤ x1_2 ∧ x1_2 < ((x1_0 : Nat) : Int)))
 (cond ((rdd zHeadS x1_9 (Int.toNat x1_2)).1 == x1_8.2.2.1)
 (k_r ((rdd zHeadS x1_9 (Int.toNat x1_2)).2.1) (0 : Int))
 (rec (IntKind.wrap .i64 (x1_2 + (1 : Int)))))
 (none))
 (k_t1 ())
noncomputable def L_z03_1 (n : Nat) (k_r : Int → Int → Option Res) (k_t1 : Unit → Option Res) (x1_0 : Nat) (x1_1 : Int) (x1_8 : FieldS) (x1_9 : (List HeadS)) : Nat → Int → Option Res
  | 0, _ => none
  | m + 1, x1_2 => F_z03_1 n k_r k_t1 x1_0 x1_1 x1_8 x1_9 (L_z03_1 n k_r k_t1 x1_0 x1_1 x1_8 x1_9 m) x1_2
noncomputable def M_z03 (n : Nat) (a0 : FieldS) (a1 : Int) (a2 : Nat) (a3 : (List Int)) (a4 : Nat) (a5 : (List Int)) : Option Res :=
 cond (a0.2.1 == (1 : Int))
 (some (encRes ro_z03 rh_z03 (((), ((0 : Int), ((0 : Int), ()))), (((), ((), ((), (a1, ())))), ((a2, ()), (a3, ((a4, ()), (a5, ()))))))))
 (cond (a0.2.1 == (3 : Int))
 (some (encRes ro_z03_1 rh_z03_1 (((), ((0 : Int), ((0 : Int), ()))), (((), ((), ((), (a1, ())))), ((a2, ()), (a3, ((a4, ()), (a5, ()))))))))
 (cond (a0.2.1 == (2 : Int))
 (L_z03_1 n
  (fun y1 y2 => some (encRes ro_z03 rh_z03 (((), (y1, (y2, ()))), (((), ((), ((), (a1, ())))), ((a2, ()), (a3, ((a4, ()), (a5, ()))))))))
  (fun _ => some (encRes ro_z03_2 rh_z03_2 (((), ((0 : Int), ((3 : Int), ()))), (((), ((), ((), (a1, ())))), ((a2, ()), (a3, ((a4, ()), (a5, ()))))))))
  0
  (0 : Int)
  a0
  ([])
  n
  (0 : Int))
 (some (encRes ro_z03_2 rh_z03_2 (((), ((0 : Int), ((3 : Int), ()))), (((), ((), ((), (a1, ())))), ((a2, ()), (a3, ((a4, ()), (a5, ()))))))))))
noncomputable def Q_z03 (a0 : FieldS) (a1 : Int) (a2 : Nat) (a3 : (List Int)) (a4 : Nat) (a5 : (List Int)) : Option (RS ro_z03 rh_z03) := decRes ro_z03 rh_z03 (M_z03 FUEL a0 a1 a2 a3 a4 a5)
noncomputable def Q_z03_1 (a0 : FieldS) (a1 : Int) (a2 : Nat) (a3 : (List Int)) (a4 : Nat) (a5 : (List Int)) : Option (RS ro_z03_1 rh_z03_1) := decRes ro_z03_1 rh_z03_1 (M_z03 FUEL a0 a1 a2 a3 a4 a5)
noncomputable def ok_z03_1 (a0 : FieldS) (a1 : Int) (a2 : Nat) (a3 : (List Int)) (a4 : Nat) (a5 : (List Int)) : Bool := (Q_z03_1 a0 a1 a2 a3 a4 a5).isSome
noncomputable def q_z03_1 (a0 : FieldS) (a1 : Int) (a2 : Nat) (a3 : (List Int)) (a4 : Nat) (a5 : (List Int)) : RS ro_z03_1 rh_z03_1 := RS.get (Q_z03_1 a0 a1 a2 a3 a4 a5)
noncomputable def Q_z03_2 (a0 : FieldS) (a1 : Int) (a2 : Nat) (a3 : (List Int)) (a4 : Nat) (a5 : (List Int)) : Option (RS ro_z03_2 rh_z03_2) := decRes ro_z03_2 rh_z03_2 (M_z03 FUEL a0 a1 a2 a3 a4 a5)
noncomputable def ok_z03_2 (a0 : FieldS) (a1 : Int) (a2 : Nat) (a3 : (List Int)) (a4 : Nat) (a5 : (List Int)) : Bool := (Q_z03_2 a0 a1 a2 a3 a4 a5).isSome
noncomputable def q_z03_2 (a0 : FieldS) (a1 : Int) (a2 : Nat) (a3 : (List Int)) (a4 : Nat) (a5 : (List Int)) : RS ro_z03_2 rh_z03_2 := RS.get (Q_z03_2 a0 a1 a2 a3 a4 a5)
noncomputable def ok_z03 (a0 : FieldS) (a1 : Int) (a2 : Nat) (a3 : (List Int)) (a4 : Nat) (a5 : (List Int)) : Bool := (Q_z03 a0 a1 a2 a3 a4 a5).isSome
noncomputable def q_z03 (a0 : FieldS) (a1 : Int) (a2 : Nat) (a3 : (List Int)) (a4 : Nat) (a5 : (List Int)) : RS ro_z03 rh_z03 := RS.get (Q_z03 a0 a1 a2 a3 a4 a5)
/-! z04: pack_bit -/
abbrev ro_z04 : List EK := [.ty (.int .i64)]
abbrev rh_z04 : List HK := []
noncomputable def M_z04 (n : Nat) (a0 : Int) (a1 : Int) : Option Res :=
 cond (decide (a1 < (0 : Int)))
 (some (encRes ro_z04 rh_z04 (((-1 : Int), ()), ())))
 (let y1 : Int := (IntKind.wrap .i64 ((IntKind.wrap .i64 ((8 : Int) * a0)) + (if (147456 : Int) < a1 then (147456 : Int) else a1)))
 some (encRes ro_z04 rh_z04 ((y1, ()), ())))
noncomputable def Q_z04 (a0 : Int) (a1 : Int) : Option (RS ro_z04 rh_z04) := decRes ro_z04 rh_z04 (M_z04 FUEL a0 a1)
noncomputable def ok_z04 (a0 : Int) (a1 : Int) : Bool := (Q_z04 a0 a1).isSome
noncomputable def q_z04 (a0 : Int) (a1 : Int) : RS ro_z04 rh_z04 := RS.get (Q_z04 a0 a1)
/-! z05: buf_Buf_Getx845 -/
abbrev ro_z05 : List EK := [.agg WordT, .ty (.int .i64)]
abbrev rh_z05 : List HK := []
noncomputable def M_z05 (n : Nat) (a0 : Int) (a1 : Int) : Option Res :=
 some (encRes ro_z05 rh_z05 ((((0 : Int), ((0 : Int), ())), ((2 : Int), ())), ()))
noncomputable def Q_z05 (a0 : Int) (a1 : Int) : Option (RS ro_z05 rh_z05) := decRes ro_z05 rh_z05 (M_z05 FUEL a0 a1)
noncomputable def ok_z05 (a0 : Int) (a1 : Int) : Bool := (Q_z05 a0 a1).isSome
noncomputable def q_z05 (a0 : Int) (a1 : Int) : RS ro_z05 rh_z05 := RS.get (Q_z05 a0 a1)
/-! z06: buf_Buf_windowx37e -/
abbrev ro_z06 : List EK := [.hs 1 0, .ty (.int .i64)]
abbrev rh_z06 : List HK := [.one false [.hs 1 0], .row (.int .u8)]
abbrev ro_z06_1 : List EK := [.hv 1, .ty (.int .i64)]
abbrev rh_z06_1 : List HK := [.one false [.hs 1 0], .row (.int .u8)]
noncomputable def M_z06 (n : Nat) (a0 : Int) (a1 : Int) (a2 : Nat) (a3 : (List Int)) : Option Res :=
 cond (decide (a0 < (0 : Int)))
 (some (encRes ro_z06 rh_z06 ((a2, ((0 : Int), ())), ((a2, ()), (a3, ())))))
 (cond (decide (a1 < (1 : Int)))
 (some (encRes ro_z06 rh_z06 ((a2, ((0 : Int), ())), ((a2, ()), (a3, ())))))
 (cond (decide (a1 > (128 : Int)))
 (some (encRes ro_z06 rh_z06 ((a2, ((0 : Int), ())), ((a2, ()), (a3, ())))))
 (cond (decide (a0 > (IntKind.wrap .i64 ((IntKind.wrap .i64 ((8 : Int) * ((a2 : Nat) : Int))) - a1))))
 (some (encRes ro_z06 rh_z06 ((a2, ((0 : Int), ())), ((a2, ()), (a3, ())))))
 (cond ((8 : Int) != 0)
 (cond ((8 : Int) != 0)
 (let y1 : Int := (IntKind.wrap .i64 (Int.tdiv (IntKind.wrap .i64 ((IntKind.wrap .i64 (a0 + a1)) + (7 : Int))) (8 : Int)))
 cond (decide ((0 : Int) ≤ (IntKind.wrap .i64 (Int.tdiv a0 (8 : Int))) ∧ (IntKind.wrap .i64 (Int.tdiv a0 (8 : Int))) ≤ y1 ∧ y1 ≤ ((a2 : Nat) : Int) ∧ ((a2 : Nat) : Int) ≤ ((a2 : Nat) : Int)))
 (some (encRes ro_z06_1 rh_z06_1 (((((0 + Int.toNat (IntKind.wrap .i64 (Int.tdiv a0 (8 : Int)))), (Int.toNat y1 - Int.toNat (IntKind.wrap .i64 (Int.tdiv a0 (8 : Int))))).1, ((0 + Int.toNat (IntKind.wrap .i64 (Int.tdiv a0 (8 : Int)))), (Int.toNat y1 - Int.toNat (IntKind.wrap .i64 (Int.tdiv a0 (8 : Int))))).2), ((IntKind.wrap .i64 (Int.tdiv a0 (8 : Int))), ())), ((a2, ()), (a3, ())))))
 (none))
 (none))
 (none)))))
noncomputable def Q_z06 (a0 : Int) (a1 : Int) (a2 : Nat) (a3 : (List Int)) : Option (RS ro_z06 rh_z06) := decRes ro_z06 rh_z06 (M_z06 FUEL a0 a1 a2 a3)
noncomputable def Q_z06_1 (a0 : Int) (a1 : Int) (a2 : Nat) (a3 : (List Int)) : Option (RS ro_z06_1 rh_z06_1) := decRes ro_z06_1 rh_z06_1 (M_z06 FUEL a0 a1 a2 a3)
noncomputable def ok_z06_1 (a0 : Int) (a1 : Int) (a2 : Nat) (a3 : (List Int)) : Bool := (Q_z06_1 a0 a1 a2 a3).isSome
noncomputable def q_z06_1 (a0 : Int) (a1 : Int) (a2 : Nat) (a3 : (List Int)) : RS ro_z06_1 rh_z06_1 := RS.get (Q_z06_1 a0 a1 a2 a3)
noncomputable def ok_z06 (a0 : Int) (a1 : Int) (a2 : Nat) (a3 : (List Int)) : Bool := (Q_z06 a0 a1 a2 a3).isSome
noncomputable def q_z06 (a0 : Int) (a1 : Int) (a2 : Nat) (a3 : (List Int)) : RS ro_z06 rh_z06 := RS.get (Q_z06 a0 a1 a2 a3)
/-! z07: field_may -/
abbrev ro_z07 : List EK := [.ty (.int .i64)]
abbrev rh_z07 : List HK := []
noncomputable def M_z07 (n : Nat) (a0 : ByteArray) (a1 : Int) (a2 : Int) : Option Res :=
 cond (decide (a2 < (1 : Int)))
 (some (encRes ro_z07 rh_z07 (((1 : Int), ()), ())))
 (cond (decide (a2 > (128 : Int)))
 (some (encRes ro_z07 rh_z07 (((1 : Int), ()), ())))
 (cond (decide (a1 < (0 : Int)))
 (some (encRes ro_z07 rh_z07 (((1 : Int), ()), ())))
 (let y1 : Int := (IntKind.wrap .i64 ((IntKind.wrap .i64 ((8 : Int) * ((ByteArray.size a0 : Nat) : Int))) - a2))
 cond (decide (a1 > y1))
 (some (encRes ro_z07 rh_z07 (((4 : Int), ()), ())))
 (some (encRes ro_z07 rh_z07 (((0 : Int), ()), ()))))))
noncomputable def Q_z07 (a0 : ByteArray) (a1 : Int) (a2 : Int) : Option (RS ro_z07 rh_z07) := decRes ro_z07 rh_z07 (M_z07 FUEL a0 a1 a2)
noncomputable def ok_z07 (a0 : ByteArray) (a1 : Int) (a2 : Int) : Bool := (Q_z07 a0 a1 a2).isSome
noncomputable def q_z07 (a0 : ByteArray) (a1 : Int) (a2 : Int) : RS ro_z07 rh_z07 := RS.get (Q_z07 a0 a1 a2)
/-! z08: word_Left -/
abbrev ro_z08 : List EK := [.agg WordT]
abbrev rh_z08 : List HK := []
noncomputable def M_z08 (n : Nat) (a0 : WordS) (a1 : Int) : Option Res :=
 cond (decide (a1 ≤ (0 : Int)))
 (some (encRes ro_z08 rh_z08 ((a0, ()), ())))
 (cond (decide (a1 ≥ (64 : Int)))
 (cond (decide ((0 : Int) ≤ (IntKind.wrap .i64 (a1 - (64 : Int)))))
 (let y1 : Int := (IntKind.wrap .u64 (a0.2.1 * 2 ^ (min (Int.toNat (IntKind.wrap .i64 (a1 - (64 : Int)))) (IntKind.bits .u64))))
 some (encRes ro_z08 rh_z08 (((y1, ((0 : Int), ())), ()), ())))
 (none))
 (cond (decide ((0 : Int) ≤ a1))
 (cond (decide ((0 : Int) ≤ (IntKind.wrap .i64 ((64 : Int) - a1))))
 (let y2 : Int := (Int.fdiv a0.2.1 (2 ^ (min (Int.toNat (IntKind.wrap .i64 ((64 : Int) - a1))) (IntKind.bits .u64))))
 let y3 : Int := (IntKind.wrap .u64 (BitVec.toNat (BitVec.ofInt (IntKind.bits .u64) (IntKind.wrap .u64 (a0.1 * 2 ^ (min (Int.toNat a1) (IntKind.bits .u64)))) ||| BitVec.ofInt (IntKind.bits .u64) y2) : Nat))
 cond (decide ((0 : Int) ≤ a1))
 (some (encRes ro_z08 rh_z08 (((y3, ((IntKind.wrap .u64 (a0.2.1 * 2 ^ (min (Int.toNat a1) (IntKind.bits .u64)))), ())), ()), ())))
 (none))
 (none))
 (none)))
noncomputable def Q_z08 (a0 : WordS) (a1 : Int) : Option (RS ro_z08 rh_z08) := decRes ro_z08 rh_z08 (M_z08 FUEL a0 a1)
noncomputable def ok_z08 (a0 : WordS) (a1 : Int) : Bool := (Q_z08 a0 a1).isSome
noncomputable def q_z08 (a0 : WordS) (a1 : Int) : RS ro_z08 rh_z08 := RS.get (Q_z08 a0 a1)
/-! z09: word_New -/
abbrev ro_z09 : List EK := [.agg WordT]
abbrev rh_z09 : List HK := []
noncomputable def M_z09 (n : Nat) (a0 : Int) : Option Res :=
 some (encRes ro_z09 rh_z09 ((((0 : Int), (a0, ())), ()), ()))
noncomputable def Q_z09 (a0 : Int) : Option (RS ro_z09 rh_z09) := decRes ro_z09 rh_z09 (M_z09 FUEL a0)
noncomputable def ok_z09 (a0 : Int) : Bool := (Q_z09 a0).isSome
noncomputable def q_z09 (a0 : Int) : RS ro_z09 rh_z09 := RS.get (Q_z09 a0)
/-! z0a: word_Or -/
abbrev ro_z0a : List EK := [.agg WordT]
abbrev rh_z0a : List HK := []
noncomputable def M_z0a (n : Nat) (a0 : WordS) (a1 : WordS) : Option Res :=
 let y1 : Int := (IntKind.wrap .u64 (BitVec.toNat (BitVec.ofInt (IntKind.bits .u64) a0.1 ||| BitVec.ofInt (IntKind.bits .u64) a1.1) : Nat))
 let y2 : Int := (IntKind.wrap .u64 (BitVec.toNat (BitVec.ofInt (IntKind.bits .u64) a0.2.1 ||| BitVec.ofInt (IntKind.bits .u64) a1.2.1) : Nat))
 some (encRes ro_z0a rh_z0a (((y1, (y2, ())), ()), ()))
noncomputable def Q_z0a (a0 : WordS) (a1 : WordS) : Option (RS ro_z0a rh_z0a) := decRes ro_z0a rh_z0a (M_z0a FUEL a0 a1)
noncomputable def ok_z0a (a0 : WordS) (a1 : WordS) : Bool := (Q_z0a a0 a1).isSome
noncomputable def q_z0a (a0 : WordS) (a1 : WordS) : RS ro_z0a rh_z0a := RS.get (Q_z0a a0 a1)
/-! z0b: word_Not -/
abbrev ro_z0b : List EK := [.agg WordT]
abbrev rh_z0b : List HK := []
noncomputable def M_z0b (n : Nat) (a0 : WordS) : Option Res :=
 let y1 : Int := (IntKind.wrap .u64 (BitVec.toNat (BitVec.ofInt (IntKind.bits .u64) (IntKind.max .u64) ^^^ BitVec.ofInt (IntKind.bits .u64) a0.1) : Nat))
 let y2 : Int := (IntKind.wrap .u64 (BitVec.toNat (BitVec.ofInt (IntKind.bits .u64) (IntKind.max .u64) ^^^ BitVec.ofInt (IntKind.bits .u64) a0.2.1) : Nat))
 some (encRes ro_z0b rh_z0b (((y1, (y2, ())), ()), ()))
noncomputable def Q_z0b (a0 : WordS) : Option (RS ro_z0b rh_z0b) := decRes ro_z0b rh_z0b (M_z0b FUEL a0)
noncomputable def ok_z0b (a0 : WordS) : Bool := (Q_z0b a0).isSome
noncomputable def q_z0b (a0 : WordS) : RS ro_z0b rh_z0b := RS.get (Q_z0b a0)
/-! z0c: word_Right -/
abbrev ro_z0c : List EK := [.agg WordT]
abbrev rh_z0c : List HK := []
noncomputable def M_z0c (n : Nat) (a0 : WordS) (a1 : Int) : Option Res :=
 cond (decide (a1 ≤ (0 : Int)))
 (some (encRes ro_z0c rh_z0c ((a0, ()), ())))
 (cond (decide (a1 ≥ (64 : Int)))
 (cond (decide ((0 : Int) ≤ (IntKind.wrap .i64 (a1 - (64 : Int)))))
 (let y1 : Int := (Int.fdiv a0.1 (2 ^ (min (Int.toNat (IntKind.wrap .i64 (a1 - (64 : Int)))) (IntKind.bits .u64))))
 some (encRes ro_z0c rh_z0c ((((0 : Int), (y1, ())), ()), ())))
 (none))
 (cond (decide ((0 : Int) ≤ a1))
 (cond (decide ((0 : Int) ≤ a1))
 (cond (decide ((0 : Int) ≤ (IntKind.wrap .i64 ((64 : Int) - a1))))
 (let y2 : Int := (IntKind.wrap .u64 (a0.1 * 2 ^ (min (Int.toNat (IntKind.wrap .i64 ((64 : Int) - a1))) (IntKind.bits .u64))))
 let y3 : Int := (IntKind.wrap .u64 (BitVec.toNat (BitVec.ofInt (IntKind.bits .u64) (Int.fdiv a0.2.1 (2 ^ (min (Int.toNat a1) (IntKind.bits .u64)))) ||| BitVec.ofInt (IntKind.bits .u64) y2) : Nat))
 some (encRes ro_z0c rh_z0c ((((Int.fdiv a0.1 (2 ^ (min (Int.toNat a1) (IntKind.bits .u64)))), (y3, ())), ()), ())))
 (none))
 (none))
 (none)))
noncomputable def Q_z0c (a0 : WordS) (a1 : Int) : Option (RS ro_z0c rh_z0c) := decRes ro_z0c rh_z0c (M_z0c FUEL a0 a1)
noncomputable def ok_z0c (a0 : WordS) (a1 : Int) : Bool := (Q_z0c a0 a1).isSome
noncomputable def q_z0c (a0 : WordS) (a1 : Int) : RS ro_z0c rh_z0c := RS.get (Q_z0c a0 a1)
/-! z0d: word_Mask -/
abbrev ro_z0d : List EK := [.agg WordT]
abbrev rh_z0d : List HK := []
noncomputable def M_z0d (n : Nat) (a0 : Int) : Option Res :=
 let y1 : ((WordS × Unit) × Unit) := (q_z0b ((0 : Int), ((0 : Int), ())))
 cond (ok_z0b ((0 : Int), ((0 : Int), ())))
 (let y2 : Int := (if (128 : Int) < (if (0 : Int) > a0 then (0 : Int) else a0) then (128 : Int) else (if (0 : Int) > a0 then (0 : Int) else a0))
 let y3 : ((WordS × Unit) × Unit) := (q_z0c y1.1.1 (IntKind.wrap .i64 ((128 : Int) - y2)))
 cond (ok_z0c y1.1.1 (IntKind.wrap .i64 ((128 : Int) - y2)))
 (some (encRes ro_z0d rh_z0d ((y3.1.1, ()), ())))
 (none))
 (none)
noncomputable def Q_z0d (a0 : Int) : Option (RS ro_z0d rh_z0d) := decRes ro_z0d rh_z0d (M_z0d FUEL a0)
noncomputable def ok_z0d (a0 : Int) : Bool := (Q_z0d a0).isSome
noncomputable def q_z0d (a0 : Int) : RS ro_z0d rh_z0d := RS.get (Q_z0d a0)
/-! z0e: word_And -/
abbrev ro_z0e : List EK := [.agg WordT]
abbrev rh_z0e : List HK := []
noncomputable def M_z0e (n : Nat) (a0 : WordS) (a1 : WordS) : Option Res :=
 let y1 : Int := (IntKind.wrap .u64 (BitVec.toNat (BitVec.ofInt (IntKind.bits .u64) a0.1 &&& BitVec.ofInt (IntKind.bits .u64) a1.1) : Nat))
 let y2 : Int := (IntKind.wrap .u64 (BitVec.toNat (BitVec.ofInt (IntKind.bits .u64) a0.2.1 &&& BitVec.ofInt (IntKind.bits .u64) a1.2.1) : Nat))
 some (encRes ro_z0e rh_z0e (((y1, (y2, ())), ()), ()))
noncomputable def Q_z0e (a0 : WordS) (a1 : WordS) : Option (RS ro_z0e rh_z0e) := decRes ro_z0e rh_z0e (M_z0e FUEL a0 a1)
noncomputable def ok_z0e (a0 : WordS) (a1 : WordS) : Bool := (Q_z0e a0 a1).isSome
noncomputable def q_z0e (a0 : WordS) (a1 : WordS) : RS ro_z0e rh_z0e := RS.get (Q_z0e a0 a1)
/-! z0f: word_Cut -/
abbrev ro_z0f : List EK := [.agg WordT]
abbrev rh_z0f : List HK := []
noncomputable def M_z0f (n : Nat) (a0 : WordS) (a1 : Int) : Option Res :=
 let y1 : ((WordS × Unit) × Unit) := (q_z0d a1)
 cond (ok_z0d a1)
 (let y2 : ((WordS × Unit) × Unit) := (q_z0e a0 y1.1.1)
 cond (ok_z0e a0 y1.1.1)
 (some (encRes ro_z0f rh_z0f ((y2.1.1, ()), ())))
 (none))
 (none)
noncomputable def Q_z0f (a0 : WordS) (a1 : Int) : Option (RS ro_z0f rh_z0f) := decRes ro_z0f rh_z0f (M_z0f FUEL a0 a1)
noncomputable def ok_z0f (a0 : WordS) (a1 : Int) : Bool := (Q_z0f a0 a1).isSome
noncomputable def q_z0f (a0 : WordS) (a1 : Int) : RS ro_z0f rh_z0f := RS.get (Q_z0f a0 a1)
/-! z0g: field_Get -/
abbrev ro_z0g : List EK := [.agg WordT, .ty (.int .i64)]
abbrev rh_z0g : List HK := []
noncomputable def F_z0g_0 (n : Nat) (k_t0 : WordS → Option Res) (x0_0 : ByteArray) (x0_1 : Int) (x0_2 : Int) (x0_3 : Int) (x0_4 : Int) (x0_5 : Int) (x0_7 : WordS) (rec : Int → WordS → Option Res) (x0_6 : Int) (x0_8 : WordS) : Option Res :=
 cond (decide (x0_6 < x0_5))
 (let y4 : ((WordS × Unit) × Unit) := (q_z08 x0_8 (8 : Int))
 cond (ok_z08 x0_8 (8 : Int))
 (cond (decide ((0 : Int) ≤ (IntKind.wrap .i64 (x0_3 + x0_6)) ∧ (IntKind.wrap .i64 (x0_3 + x0_6)) < ((ByteArray.size x0_0 : Nat) : Int)))
 (let y5 : ((WordS × Unit) × Unit) := (q_z09 (IntKind.wrap .u64 (byteAt x0_0 (Int.toNat (IntKind.wrap .i64 (x0_3 + x0_6))))))
 cond (ok_z09 (IntKind.wrap .u64 (byteAt x0_0 (Int.toNat (IntKind.wrap .i64 (x0_3 + x0_6))))))
 (let y6 : ((WordS × Unit) × Unit) := (q_z0a y4.1.1 y5.1.1)
 cond (ok_z0a y4.1.1 y5.1.1)
 (rec (IntKind.wrap .i64 (x0_6 + (1 : Int))) y6.1.1)
 (none))
 (none))
 (none))
 (none))
 (k_t0 x0_8)
noncomputable def L_z0g_0 (n : Nat) (k_t0 : WordS → Option Res) (x0_0 : ByteArray) (x0_1 : Int) (x0_2 : Int) (x0_3 : Int) (x0_4 : Int) (x0_5 : Int) (x0_7 : WordS) : Nat → Int → WordS → Option Res
  | 0, _, _ => none
  | m + 1, x0_6, x0_8 => F_z0g_0 n k_t0 x0_0 x0_1 x0_2 x0_3 x0_4 x0_5 x0_7 (L_z0g_0 n k_t0 x0_0 x0_1 x0_2 x0_3 x0_4 x0_5 x0_7 m) x0_6 x0_8
noncomputable def M_z0g (n : Nat) (a0 : ByteArray) (a1 : Int) (a2 : Int) : Option Res :=
 let y1 : ((Int × Unit) × Unit) := (q_z07 a0 a1 a2)
 cond (ok_z07 a0 a1 a2)
 (cond (y1.1.1 != (0 : Int))
 (some (encRes ro_z0g rh_z0g ((((0 : Int), ((0 : Int), ())), (y1.1.1, ())), ())))
 (cond ((8 : Int) != 0)
 (let y2 : Int := (IntKind.wrap .i64 ((IntKind.wrap .i64 ((IntKind.wrap .i64 (a1 + a2)) + (8 : Int))) - (1 : Int)))
 cond ((8 : Int) != 0)
 (let y3 : Int := (IntKind.wrap .i64 ((IntKind.wrap .i64 (Int.tdiv y2 (8 : Int))) - (IntKind.wrap .i64 (Int.tdiv a1 (8 : Int)))))
 L_z0g_0 n
  (fun y7 => let y8 : Int := (IntKind.wrap .i64 ((IntKind.wrap .i64 ((IntKind.wrap .i64 (Int.tdiv y2 (8 : Int))) * (8 : Int))) - a1))
 let y9 : ((WordS × Unit) × Unit) := (q_z08 y7 (IntKind.wrap .i64 ((8 : Int) - (IntKind.wrap .i64 (y8 - a2)))))
 cond (ok_z08 y7 (IntKind.wrap .i64 ((8 : Int) - (IntKind.wrap .i64 (y8 - a2)))))
 (cond (decide ((0 : Int) ≤ (IntKind.wrap .i64 ((IntKind.wrap .i64 (Int.tdiv y2 (8 : Int))) - (1 : Int))) ∧ (IntKind.wrap .i64 ((IntKind.wrap .i64 (Int.tdiv y2 (8 : Int))) - (1 : Int))) < ((ByteArray.size a0 : Nat) : Int)))
 (let y10 : Int := (byteAt a0 (Int.toNat (IntKind.wrap .i64 ((IntKind.wrap .i64 (Int.tdiv y2 (8 : Int))) - (1 : Int)))))
 cond (decide ((0 : Int) ≤ (IntKind.wrap .i64 (y8 - a2))))
 (let y11 : Int := (IntKind.wrap .u64 (Int.fdiv y10 (2 ^ (min (Int.toNat (IntKind.wrap .i64 (y8 - a2))) (IntKind.bits .u8)))))
 let y12 : ((WordS × Unit) × Unit) := (q_z09 y11)
 cond (ok_z09 y11)
 (let y13 : ((WordS × Unit) × Unit) := (q_z0a y9.1.1 y12.1.1)
 cond (ok_z0a y9.1.1 y12.1.1)
 (let y14 : ((WordS × Unit) × Unit) := (q_z0f y13.1.1 a2)
 cond (ok_z0f y13.1.1 a2)
 (some (encRes ro_z0g rh_z0g ((y14.1.1, ((0 : Int), ())), ())))
 (none))
 (none))
 (none))
 (none))
 (none))
 (none))
  a0
  a1
  a2
  (IntKind.wrap .i64 (Int.tdiv a1 (8 : Int)))
  (IntKind.wrap .i64 (Int.tdiv y2 (8 : Int)))
  (IntKind.wrap .i64 (y3 - (1 : Int)))
  ((0 : Int), ((0 : Int), ()))
  n
  (0 : Int)
  ((0 : Int), ((0 : Int), ())))
 (none))
 (none)))
 (none)
noncomputable def Q_z0g (a0 : ByteArray) (a1 : Int) (a2 : Int) : Option (RS ro_z0g rh_z0g) := decRes ro_z0g rh_z0g (M_z0g FUEL a0 a1 a2)
noncomputable def ok_z0g (a0 : ByteArray) (a1 : Int) (a2 : Int) : Bool := (Q_z0g a0 a1 a2).isSome
noncomputable def q_z0g (a0 : ByteArray) (a1 : Int) (a2 : Int) : RS ro_z0g rh_z0g := RS.get (Q_z0g a0 a1 a2)
/-! z0h: buf_Buf_Getx37e -/
abbrev ro_z0h : List EK := [.agg WordT, .ty (.int .i64)]
abbrev rh_z0h : List HK := [.one false [.hs 1 0], .row (.int .u8)]
noncomputable def M_z0h (n : Nat) (a0 : Int) (a1 : Int) (a2 : Nat) (a3 : (List Int)) : Option Res :=
 let y3 : ((Nat × (Int × Unit)) × ((Nat × Unit) × ((List Int) × Unit))) := (q_z06 a0 a1 a2 a3)
 cond (ok_z06 a0 a1 a2 a3)
 (let y4 : ((WordS × (Int × Unit)) × Unit) := (q_z0g (bytesOf (cutL (0 : Int) y3.2.2.1 0 y3.1.1)) (IntKind.wrap .i64 (a0 - (IntKind.wrap .i64 ((8 : Int) * y3.1.2.1)))) a1)
 cond (ok_z0g (bytesOf (cutL (0 : Int) y3.2.2.1 0 y3.1.1)) (IntKind.wrap .i64 (a0 - (IntKind.wrap .i64 ((8 : Int) * y3.1.2.1)))) a1)
 (some (encRes ro_z0h rh_z0h ((y4.1.1, (y4.1.2.1, ())), ((y3.2.1.1, ()), (y3.2.2.1, ())))))
 (none))
 (let y1 : (((Nat × Nat) × (Int × Unit)) × ((Nat × Unit) × ((List Int) × Unit))) := (q_z06_1 a0 a1 a2 a3)
 cond (ok_z06_1 a0 a1 a2 a3)
 (let y2 : ((WordS × (Int × Unit)) × Unit) := (q_z0g (bytesOf (cutL (0 : Int) y1.2.2.1 y1.1.1.1 y1.1.1.2)) (IntKind.wrap .i64 (a0 - (IntKind.wrap .i64 ((8 : Int) * y1.1.2.1)))) a1)
 cond (ok_z0g (bytesOf (cutL (0 : Int) y1.2.2.1 y1.1.1.1 y1.1.1.2)) (IntKind.wrap .i64 (a0 - (IntKind.wrap .i64 ((8 : Int) * y1.1.2.1)))) a1)
 (some (encRes ro_z0h rh_z0h ((y2.1.1, (y2.1.2.1, ())), ((y1.2.1.1, ()), (y1.2.2.1, ())))))
 (none))
 (none))
noncomputable def Q_z0h (a0 : Int) (a1 : Int) (a2 : Nat) (a3 : (List Int)) : Option (RS ro_z0h rh_z0h) := decRes ro_z0h rh_z0h (M_z0h FUEL a0 a1 a2 a3)
noncomputable def ok_z0h (a0 : Int) (a1 : Int) (a2 : Nat) (a3 : (List Int)) : Bool := (Q_z0h a0 a1 a2 a3).isSome
noncomputable def q_z0h (a0 : Int) (a1 : Int) (a2 : Nat) (a3 : (List Int)) : RS ro_z0h rh_z0h := RS.get (Q_z0h a0 a1 a2 a3)
/-! z0i: pack_Packet_Getxe04 -/
abbrev ro_z0i : List EK := [.agg WordT, .ty (.int .i64)]
abbrev rh_z0i : List HK := [.one false [.ptr 1 0 0, .nul 4, .ptr 3 0 0, .ty (.int .i64)], .one false [.hs 2 0], .row (.int .u8), .one false [.hs 4 0], .row (.int .u8)]
noncomputable def M_z0i (n : Nat) (a0 : FieldS) (a1 : Int) (a2 : Nat) (a3 : (List Int)) (a4 : Nat) (a5 : (List Int)) : Option Res :=
 let y7 : ((Unit × (Int × (Int × Unit))) × ((Unit × (Unit × (Unit × (Int × Unit)))) × ((Nat × Unit) × ((List Int) × ((Nat × Unit) × ((List Int) × Unit)))))) := (q_z03 a0 a1 a2 a3 a4 a5)
 cond (ok_z03 a0 a1 a2 a3 a4 a5)
 (cond (y7.1.2.2.1 != (0 : Int))
 (some (encRes ro_z0i rh_z0i ((((0 : Int), ((0 : Int), ())), (y7.1.2.2.1, ())), (((), ((), ((), (y7.2.1.2.2.2.1, ())))), ((y7.2.2.1.1, ()), (y7.2.2.2.1, ((y7.2.2.2.2.1.1, ()), (y7.2.2.2.2.2.1, ()))))))))
 (let y8 : ((Int × Unit) × Unit) := (q_z04 y7.1.2.1 a0.2.2.2.1)
 cond (ok_z04 y7.1.2.1 a0.2.2.2.1)
 (let y9 : ((WordS × (Int × Unit)) × ((Nat × Unit) × ((List Int) × Unit))) := (q_z0h y8.1.1 a0.2.2.2.2.1 y7.2.2.1.1 y7.2.2.2.1)
 cond (ok_z0h y8.1.1 a0.2.2.2.2.1 y7.2.2.1.1 y7.2.2.2.1)
 (cond (y9.1.2.1 != (0 : Int))
 (some (encRes ro_z0i rh_z0i ((((0 : Int), ((0 : Int), ())), ((1 : Int), ())), (((), ((), ((), (y7.2.1.2.2.2.1, ())))), ((y9.2.1.1, ()), (y9.2.2.1, ((y7.2.2.2.2.1.1, ()), (y7.2.2.2.2.2.1, ()))))))))
 (some (encRes ro_z0i rh_z0i ((y9.1.1, ((0 : Int), ())), (((), ((), ((), (y7.2.1.2.2.2.1, ())))), ((y9.2.1.1, ()), (y9.2.2.1, ((y7.2.2.2.2.1.1, ()), (y7.2.2.2.2.2.1, ())))))))))
 (none))
 (none)))
 (let y4 : ((Unit × (Int × (Int × Unit))) × ((Unit × (Unit × (Unit × (Int × Unit)))) × ((Nat × Unit) × ((List Int) × ((Nat × Unit) × ((List Int) × Unit)))))) := (q_z03_1 a0 a1 a2 a3 a4 a5)
 cond (ok_z03_1 a0 a1 a2 a3 a4 a5)
 (cond (y4.1.2.2.1 != (0 : Int))
 (some (encRes ro_z0i rh_z0i ((((0 : Int), ((0 : Int), ())), (y4.1.2.2.1, ())), (((), ((), ((), (y4.2.1.2.2.2.1, ())))), ((y4.2.2.1.1, ()), (y4.2.2.2.1, ((y4.2.2.2.2.1.1, ()), (y4.2.2.2.2.2.1, ()))))))))
 (let y5 : ((Int × Unit) × Unit) := (q_z04 y4.1.2.1 a0.2.2.2.1)
 cond (ok_z04 y4.1.2.1 a0.2.2.2.1)
 (let y6 : ((WordS × (Int × Unit)) × ((Nat × Unit) × ((List Int) × Unit))) := (q_z0h y5.1.1 a0.2.2.2.2.1 y4.2.2.2.2.1.1 y4.2.2.2.2.2.1)
 cond (ok_z0h y5.1.1 a0.2.2.2.2.1 y4.2.2.2.2.1.1 y4.2.2.2.2.2.1)
 (cond (y6.1.2.1 != (0 : Int))
 (some (encRes ro_z0i rh_z0i ((((0 : Int), ((0 : Int), ())), ((1 : Int), ())), (((), ((), ((), (y4.2.1.2.2.2.1, ())))), ((y4.2.2.1.1, ()), (y4.2.2.2.1, ((y6.2.1.1, ()), (y6.2.2.1, ()))))))))
 (some (encRes ro_z0i rh_z0i ((y6.1.1, ((0 : Int), ())), (((), ((), ((), (y4.2.1.2.2.2.1, ())))), ((y4.2.2.1.1, ()), (y4.2.2.2.1, ((y6.2.1.1, ()), (y6.2.2.1, ())))))))))
 (none))
 (none)))
 (let y1 : ((Unit × (Int × (Int × Unit))) × ((Unit × (Unit × (Unit × (Int × Unit)))) × ((Nat × Unit) × ((List Int) × ((Nat × Unit) × ((List Int) × Unit)))))) := (q_z03_2 a0 a1 a2 a3 a4 a5)
 cond (ok_z03_2 a0 a1 a2 a3 a4 a5)
 (cond (y1.1.2.2.1 != (0 : Int))
 (some (encRes ro_z0i rh_z0i ((((0 : Int), ((0 : Int), ())), (y1.1.2.2.1, ())), (((), ((), ((), (y1.2.1.2.2.2.1, ())))), ((y1.2.2.1.1, ()), (y1.2.2.2.1, ((y1.2.2.2.2.1.1, ()), (y1.2.2.2.2.2.1, ()))))))))
 (let y2 : ((Int × Unit) × Unit) := (q_z04 y1.1.2.1 a0.2.2.2.1)
 cond (ok_z04 y1.1.2.1 a0.2.2.2.1)
 (let y3 : ((WordS × (Int × Unit)) × Unit) := (q_z05 y2.1.1 a0.2.2.2.2.1)
 cond (ok_z05 y2.1.1 a0.2.2.2.2.1)
 (cond (y3.1.2.1 != (0 : Int))
 (some (encRes ro_z0i rh_z0i ((((0 : Int), ((0 : Int), ())), ((1 : Int), ())), (((), ((), ((), (y1.2.1.2.2.2.1, ())))), ((y1.2.2.1.1, ()), (y1.2.2.2.1, ((y1.2.2.2.2.1.1, ()), (y1.2.2.2.2.2.1, ()))))))))
 (some (encRes ro_z0i rh_z0i ((y3.1.1, ((0 : Int), ())), (((), ((), ((), (y1.2.1.2.2.2.1, ())))), ((y1.2.2.1.1, ()), (y1.2.2.2.1, ((y1.2.2.2.2.1.1, ()), (y1.2.2.2.2.2.1, ())))))))))
 (none))
 (none)))
 (none)))
noncomputable def Q_z0i (a0 : FieldS) (a1 : Int) (a2 : Nat) (a3 : (List Int)) (a4 : Nat) (a5 : (List Int)) : Option (RS ro_z0i rh_z0i) := decRes ro_z0i rh_z0i (M_z0i FUEL a0 a1 a2 a3 a4 a5)
noncomputable def ok_z0i (a0 : FieldS) (a1 : Int) (a2 : Nat) (a3 : (List Int)) (a4 : Nat) (a5 : (List Int)) : Bool := (Q_z0i a0 a1 a2 a3 a4 a5).isSome
noncomputable def q_z0i (a0 : FieldS) (a1 : Int) (a2 : Nat) (a3 : (List Int)) (a4 : Nat) (a5 : (List Int)) : RS ro_z0i rh_z0i := RS.get (Q_z0i a0 a1 a2 a3 a4 a5)
/-! z0j: field_Bytes -/
abbrev ro_z0j : List EK := [.ty (.int .i64)]
abbrev rh_z0j : List HK := []
noncomputable def M_z0j (n : Nat) (a0 : Int) : Option Res :=
 cond (decide (a0 < (1 : Int)))
 (some (encRes ro_z0j rh_z0j (((0 : Int), ()), ())))
 (cond (decide (a0 > (128 : Int)))
 (some (encRes ro_z0j rh_z0j (((0 : Int), ()), ())))
 (cond ((8 : Int) != 0)
 (let y1 : Int := (IntKind.wrap .i64 (Int.tdiv (IntKind.wrap .i64 ((IntKind.wrap .i64 (a0 + (8 : Int))) - (1 : Int))) (8 : Int)))
 some (encRes ro_z0j rh_z0j ((y1, ()), ())))
 (none)))
noncomputable def Q_z0j (a0 : Int) : Option (RS ro_z0j rh_z0j) := decRes ro_z0j rh_z0j (M_z0j FUEL a0)
noncomputable def ok_z0j (a0 : Int) : Bool := (Q_z0j a0).isSome
noncomputable def q_z0j (a0 : Int) : RS ro_z0j rh_z0j := RS.get (Q_z0j a0)
/-! z0k: word_Text -/
abbrev ro_z0k : List EK := [.ty .str]
abbrev rh_z0k : List HK := []
noncomputable def F_z0k_0 (n : Nat) (k_t0 : (List Int) → Option Res) (x0_1 : WordS) (rec : Int → (List Int) → Option Res) (x0_0 : Int) (x0_2 : (List Int)) : Option Res :=
 cond (decide (x0_0 < (16 : Int)))
 (let y1 : Int := (IntKind.wrap .i64 ((128 : Int) - (IntKind.wrap .i64 ((8 : Int) * (IntKind.wrap .i64 (x0_0 + (1 : Int)))))))
 let y2 : ((WordS × Unit) × Unit) := (q_z0c x0_1 y1)
 cond (ok_z0c x0_1 y1)
 (cond (decide ((0 : Int) ≤ x0_0 ∧ x0_0 < ((16 : Nat) : Int)))
 (cond (decide (0 + 16 ≤ (List.length x0_2)))
 (rec (IntKind.wrap .i64 (x0_0 + (1 : Int))) (List.set x0_2 (Int.toNat x0_0) (IntKind.wrap .u8 y2.1.1.2.1)))
 (none))
 (none))
 (none))
 (k_t0 x0_2)
noncomputable def L_z0k_0 (n : Nat) (k_t0 : (List Int) → Option Res) (x0_1 : WordS) : Nat → Int → (List Int) → Option Res
  | 0, _, _ => none
  | m + 1, x0_0, x0_2 => F_z0k_0 n k_t0 x0_1 (L_z0k_0 n k_t0 x0_1 m) x0_0 x0_2
noncomputable def M_z0k (n : Nat) (a0 : WordS) : Option Res :=
 L_z0k_0 n
  (fun y3 => cond (decide ((0 : Int) ≤ (0 : Int) ∧ (0 : Int) ≤ ((16 : Nat) : Int) ∧ ((16 : Nat) : Int) ≤ ((16 : Nat) : Int) ∧ ((16 : Nat) : Int) ≤ ((16 : Nat) : Int) ∧ 0 + 16 ≤ (List.length y3)))
 (let y4 : ByteArray := (bytesOf (cutL (0 : Int) y3 0 (Int.toNat ((16 : Nat) : Int) - Int.toNat (0 : Int))))
 some (encRes ro_z0k rh_z0k ((y4, ()), ())))
 (none))
  a0
  n
  (0 : Int)
  ([(0 : Int), (0 : Int), (0 : Int), (0 : Int), (0 : Int), (0 : Int), (0 : Int), (0 : Int), (0 : Int), (0 : Int), (0 : Int), (0 : Int), (0 : Int), (0 : Int), (0 : Int), (0 : Int)])
noncomputable def Q_z0k (a0 : WordS) : Option (RS ro_z0k rh_z0k) := decRes ro_z0k rh_z0k (M_z0k FUEL a0)
noncomputable def ok_z0k (a0 : WordS) : Bool := (Q_z0k a0).isSome
noncomputable def q_z0k (a0 : WordS) : RS ro_z0k rh_z0k := RS.get (Q_z0k a0)
/-! z0l: field_Text -/
abbrev ro_z0l : List EK := [.ty .str, .ty (.int .i64)]
abbrev rh_z0l : List HK := []
noncomputable def M_z0l (n : Nat) (a0 : WordS) (a1 : Int) : Option Res :=
 let y1 : ((Int × Unit) × Unit) := (q_z0j a1)
 cond (ok_z0j a1)
 (cond (y1.1.1 == (0 : Int))
 (some (encRes ro_z0l rh_z0l (((ByteArray.mk #[]), ((1 : Int), ())), ())))
 (let y2 : ((WordS × Unit) × Unit) := (q_z0f a0 a1)
 cond (ok_z0f a0 a1)
 (let y3 : ((ByteArray × Unit) × Unit) := (q_z0k y2.1.1)
 cond (ok_z0k y2.1.1)
 (cond (decide ((0 : Int) ≤ (IntKind.wrap .i64 (((ByteArray.size y3.1.1 : Nat) : Int) - y1.1.1)) ∧ (IntKind.wrap .i64 (((ByteArray.size y3.1.1 : Nat) : Int) - y1.1.1)) ≤ ((ByteArray.size y3.1.1 : Nat) : Int) ∧ ((ByteArray.size y3.1.1 : Nat) : Int) ≤ ((ByteArray.size y3.1.1 : Nat) : Int)))
 (let y4 : ByteArray := (ByteArray.extract y3.1.1 (Int.toNat (IntKind.wrap .i64 (((ByteArray.size y3.1.1 : Nat) : Int) - y1.1.1))) (Int.toNat ((ByteArray.size y3.1.1 : Nat) : Int)))
 some (encRes ro_z0l rh_z0l ((y4, ((0 : Int), ())), ())))
 (none))
 (none))
 (none)))
 (none)
noncomputable def Q_z0l (a0 : WordS) (a1 : Int) : Option (RS ro_z0l rh_z0l) := decRes ro_z0l rh_z0l (M_z0l FUEL a0 a1)
noncomputable def ok_z0l (a0 : WordS) (a1 : Int) : Bool := (Q_z0l a0 a1).isSome
noncomputable def q_z0l (a0 : WordS) (a1 : Int) : RS ro_z0l rh_z0l := RS.get (Q_z0l a0 a1)
/-! z0m: key_textxac0 -/
abbrev ro_z0m : List EK := [.ty .str, .ty (.int .i64)]
abbrev rh_z0m : List HK := [.one false [.ptr 1 0 0, .nul 4, .ptr 3 0 0, .ty (.int .i64)], .one false [.hs 2 0], .row (.int .u8), .one false [.hs 4 0], .row (.int .u8)]
noncomputable def M_z0m (n : Nat) (a0 : FieldS) (a1 : Int) (a2 : Nat) (a3 : (List Int)) (a4 : Nat) (a5 : (List Int)) : Option Res :=
 let y1 : ((WordS × (Int × Unit)) × ((Unit × (Unit × (Unit × (Int × Unit)))) × ((Nat × Unit) × ((List Int) × ((Nat × Unit) × ((List Int) × Unit)))))) := (q_z0i a0 a1 a2 a3 a4 a5)
 cond (ok_z0i a0 a1 a2 a3 a4 a5)
 (cond (y1.1.2.1 != (0 : Int))
 (some (encRes ro_z0m rh_z0m (((ByteArray.mk #[]), (y1.1.2.1, ())), (((), ((), ((), (y1.2.1.2.2.2.1, ())))), ((y1.2.2.1.1, ()), (y1.2.2.2.1, ((y1.2.2.2.2.1.1, ()), (y1.2.2.2.2.2.1, ()))))))))
 (let y2 : ((ByteArray × (Int × Unit)) × Unit) := (q_z0l y1.1.1 a0.2.2.2.2.1)
 cond (ok_z0l y1.1.1 a0.2.2.2.2.1)
 (some (encRes ro_z0m rh_z0m ((y2.1.1, ((0 : Int), ())), (((), ((), ((), (y1.2.1.2.2.2.1, ())))), ((y1.2.2.1.1, ()), (y1.2.2.2.1, ((y1.2.2.2.2.1.1, ()), (y1.2.2.2.2.2.1, ()))))))))
 (none)))
 (none)
noncomputable def Q_z0m (a0 : FieldS) (a1 : Int) (a2 : Nat) (a3 : (List Int)) (a4 : Nat) (a5 : (List Int)) : Option (RS ro_z0m rh_z0m) := decRes ro_z0m rh_z0m (M_z0m FUEL a0 a1 a2 a3 a4 a5)
noncomputable def ok_z0m (a0 : FieldS) (a1 : Int) (a2 : Nat) (a3 : (List Int)) (a4 : Nat) (a5 : (List Int)) : Bool := (Q_z0m a0 a1 a2 a3 a4 a5).isSome
noncomputable def q_z0m (a0 : FieldS) (a1 : Int) (a2 : Nat) (a3 : (List Int)) (a4 : Nat) (a5 : (List Int)) : RS ro_z0m rh_z0m := RS.get (Q_z0m a0 a1 a2 a3 a4 a5)
/-! z0n: key_Ofxf63 -/
abbrev ro_z0n : List EK := [.ty .str, .ty (.int .i64)]
abbrev rh_z0n : List HK := [.one false [.ptr 1 0 0, .nul 4, .ptr 3 0 0, .ty (.int .i64)], .one false [.hs 2 0], .row (.int .u8), .one false [.hs 4 0], .row (.int .u8)]
noncomputable def Q_z0n (a0 : (List FieldS)) (a1 : Int) (a2 : Nat) (a3 : (List Int)) (a4 : Nat) (a5 : (List Int)) : Option (RS ro_z0n rh_z0n) := ofQ (fun f b => Q_z0m f b.1.2.2.2.1 b.2.1.1 b.2.2.1 b.2.2.2.1.1 b.2.2.2.2.1) a0 (((), ((), ((), (a1, ())))), ((a2, ()), (a3, ((a4, ()), (a5, ())))))
noncomputable def ok_z0n (a0 : (List FieldS)) (a1 : Int) (a2 : Nat) (a3 : (List Int)) (a4 : Nat) (a5 : (List Int)) : Bool := (Q_z0n a0 a1 a2 a3 a4 a5).isSome
noncomputable def q_z0n (a0 : (List FieldS)) (a1 : Int) (a2 : Nat) (a3 : (List Int)) (a4 : Nat) (a5 : (List Int)) : RS ro_z0n rh_z0n := RS.get (Q_z0n a0 a1 a2 a3 a4 a5)
/-! z0o: key_Widths -/
abbrev ro_z0o : List EK := [.hs 0 0]
abbrev rh_z0o : List HK := [.row (.int .i64)]
noncomputable def F_z0o_0 (n : Nat) (k_t0 : Nat → (List Int) → Option Res) (x0_1 : (List FieldS)) (x0_2 : Int) (rec : Nat → Int → (List Int) → Option Res) (x0_0 : Nat) (x0_3 : Int) (x0_4 : (List Int)) : Option Res :=
 cond (decide (x0_3 < x0_2))
 (cond (decide ((0 : Int) ≤ x0_3 ∧ x0_3 < (((List.length x0_1) : Nat) : Int)))
 (let y1 : ((Int × Unit) × Unit) := (q_z0j ((rdd zFieldS x0_1 (Int.toNat x0_3)).2.2.2.2.1))
 cond (ok_z0j ((rdd zFieldS x0_1 (Int.toNat x0_3)).2.2.2.2.1))
 (cond (decide (((List.length (cutL (0 : Int) x0_4 0 x0_0)) + 1) * 8 ≤ 2 ^ 46 ∧ ((List.length (cutL (0 : Int) x0_4 0 x0_0)) + 1) ≤ 2 ^ 46))
 (rec ((List.length (cutL (0 : Int) x0_4 0 x0_0)) + 1) (IntKind.wrap .i64 (x0_3 + (1 : Int))) ((cutL (0 : Int) x0_4 0 x0_0) ++ [y1.1.1]))
 (none))
 (none))
 (none))
 (k_t0 x0_0 x0_4)
noncomputable def L_z0o_0 (n : Nat) (k_t0 : Nat → (List Int) → Option Res) (x0_1 : (List FieldS)) (x0_2 : Int) : Nat → Nat → Int → (List Int) → Option Res
  | 0, _, _, _ => none
  | m + 1, x0_0, x0_3, x0_4 => F_z0o_0 n k_t0 x0_1 x0_2 (L_z0o_0 n k_t0 x0_1 x0_2 m) x0_0 x0_3 x0_4
noncomputable def M_z0o (n : Nat) (a0 : (List FieldS)) : Option Res :=
 L_z0o_0 n
  (fun y2 y3 => some (encRes ro_z0o rh_z0o ((y2, ()), (y3, ()))))
  a0
  (((List.length a0) : Nat) : Int)
  n
  0
  (0 : Int)
  ([])
noncomputable def Q_z0o (a0 : (List FieldS)) : Option (RS ro_z0o rh_z0o) := decRes ro_z0o rh_z0o (M_z0o FUEL a0)
noncomputable def ok_z0o (a0 : (List FieldS)) : Bool := (Q_z0o a0).isSome
noncomputable def q_z0o (a0 : (List FieldS)) : RS ro_z0o rh_z0o := RS.get (Q_z0o a0)
/-! z0p: key_Segments -/
abbrev ro_z0p : List EK := [.hs 0 0, .ty (.int .i64)]
abbrev rh_z0p : List HK := [.row .str]
noncomputable def F_z0p_0 (n : Nat) (k_r : Nat → Int → (List ByteArray) → Option Res) (k_t0 : Int → Option Res) (x0_3 : (List Int)) (x0_4 : Int) (rec : Int → Int → Option Res) (x0_2 : Int) (x0_5 : Int) : Option Res :=
 cond (decide (x0_5 < x0_4))
 (cond (decide ((0 : Int) ≤ x0_5 ∧ x0_5 < (((List.length x0_3) : Nat) : Int)))
 (cond (decide ((rdd (0 : Int) x0_3 (Int.toNat x0_5)) < (0 : Int)))
 (k_r 0 (1 : Int) ([]))
 (cond (decide ((rdd (0 : Int) x0_3 (Int.toNat x0_5)) > (16 : Int)))
 (k_r 0 (1 : Int) ([]))
 (rec (IntKind.wrap .i64 (x0_2 + (rdd (0 : Int) x0_3 (Int.toNat x0_5)))) (IntKind.wrap .i64 (x0_5 + (1 : Int))))))
 (none))
 (k_t0 x0_2)
noncomputable def L_z0p_0 (n : Nat) (k_r : Nat → Int → (List ByteArray) → Option Res) (k_t0 : Int → Option Res) (x0_3 : (List Int)) (x0_4 : Int) : Nat → Int → Int → Option Res
  | 0, _, _ => none
  | m + 1, x0_2, x0_5 => F_z0p_0 n k_r k_t0 x0_3 x0_4 (L_z0p_0 n k_r k_t0 x0_3 x0_4 m) x0_2 x0_5
noncomputable def F_z0p_3 (n : Nat) (k_t3 : Nat → (List ByteArray) → Option Res) (x3_2 : (List Int)) (x3_3 : Int) (rec : ByteArray → Nat → Int → (List ByteArray) → Option Res) (x3_0 : ByteArray) (x3_1 : Nat) (x3_4 : Int) (x3_5 : (List ByteArray)) : Option Res :=
 cond (decide (x3_4 < x3_3))
 (cond (decide ((0 : Int) ≤ x3_4 ∧ x3_4 < (((List.length x3_2) : Nat) : Int)))
 (cond (decide ((0 : Int) ≤ (0 : Int) ∧ (0 : Int) ≤ (rdd (0 : Int) x3_2 (Int.toNat x3_4)) ∧ (rdd (0 : Int) x3_2 (Int.toNat x3_4)) ≤ ((ByteArray.size x3_0 : Nat) : Int)))
 (let y5 : ByteArray := (ByteArray.extract x3_0 (Int.toNat (0 : Int)) (Int.toNat (rdd (0 : Int) x3_2 (Int.toNat x3_4))))
 cond (decide (((List.length (cutL ByteArray.empty x3_5 0 x3_1)) + 1) * 16 ≤ 2 ^ 46 ∧ ((List.length (cutL ByteArray.empty x3_5 0 x3_1)) + 1) ≤ 2 ^ 46))
 (cond (decide ((0 : Int) ≤ (rdd (0 : Int) x3_2 (Int.toNat x3_4)) ∧ (rdd (0 : Int) x3_2 (Int.toNat x3_4)) ≤ ((ByteArray.size x3_0 : Nat) : Int) ∧ ((ByteArray.size x3_0 : Nat) : Int) ≤ ((ByteArray.size x3_0 : Nat) : Int)))
 (let y6 : ByteArray := (ByteArray.extract x3_0 (Int.toNat (rdd (0 : Int) x3_2 (Int.toNat x3_4))) (Int.toNat ((ByteArray.size x3_0 : Nat) : Int)))
 rec y6 ((List.length (cutL ByteArray.empty x3_5 0 x3_1)) + 1) (IntKind.wrap .i64 (x3_4 + (1 : Int))) ((cutL ByteArray.empty x3_5 0 x3_1) ++ [y5]))
 (none))
 (none))
 (none))
 (none))
 (k_t3 x3_1 x3_5)
noncomputable def L_z0p_3 (n : Nat) (k_t3 : Nat → (List ByteArray) → Option Res) (x3_2 : (List Int)) (x3_3 : Int) : Nat → ByteArray → Nat → Int → (List ByteArray) → Option Res
  | 0, _, _, _, _ => none
  | m + 1, x3_0, x3_1, x3_4, x3_5 => F_z0p_3 n k_t3 x3_2 x3_3 (L_z0p_3 n k_t3 x3_2 x3_3 m) x3_0 x3_1 x3_4 x3_5
noncomputable def M_z0p (n : Nat) (a0 : ByteArray) (a1 : (List Int)) : Option Res :=
 L_z0p_0 n
  (fun y1 y2 y3 => some (encRes ro_z0p rh_z0p ((y1, (y2, ())), (y3, ()))))
  (fun y4 => cond (decide (((ByteArray.size a0 : Nat) : Int) < y4))
 (some (encRes ro_z0p rh_z0p ((0, ((4 : Int), ())), ([], ()))))
 (cond (decide (((ByteArray.size a0 : Nat) : Int) > y4))
 (some (encRes ro_z0p rh_z0p ((0, ((5 : Int), ())), ([], ()))))
 (L_z0p_3 n
  (fun y7 y8 => some (encRes ro_z0p rh_z0p ((y7, ((0 : Int), ())), (y8, ()))))
  a1
  (((List.length a1) : Nat) : Int)
  n
  a0
  0
  (0 : Int)
  ([]))))
  a1
  (((List.length a1) : Nat) : Int)
  n
  (0 : Int)
  (0 : Int)
noncomputable def Q_z0p (a0 : ByteArray) (a1 : (List Int)) : Option (RS ro_z0p rh_z0p) := decRes ro_z0p rh_z0p (M_z0p FUEL a0 a1)
noncomputable def ok_z0p (a0 : ByteArray) (a1 : (List Int)) : Bool := (Q_z0p a0 a1).isSome
noncomputable def q_z0p (a0 : ByteArray) (a1 : (List Int)) : RS ro_z0p rh_z0p := RS.get (Q_z0p a0 a1)
/-! z0q: hash_More -/
abbrev ro_z0q : List EK := [.ty (.int .u32)]
abbrev rh_z0q : List HK := []
noncomputable def F_z0q_0 (n : Nat) (k_t0 : Int → Option Res) (x0_1 : ByteArray) (x0_2 : Int) (rec : Int → Int → Option Res) (x0_0 : Int) (x0_3 : Int) : Option Res :=
 cond (decide (x0_3 < x0_2))
 (cond (decide ((0 : Int) ≤ x0_3 ∧ x0_3 < ((ByteArray.size x0_1 : Nat) : Int)))
 (let y1 : Int := (IntKind.wrap .u32 (BitVec.toNat (BitVec.ofInt (IntKind.bits .u32) x0_0 ^^^ BitVec.ofInt (IntKind.bits .u32) (IntKind.wrap .u32 (byteAt x0_1 (Int.toNat x0_3)))) : Nat))
 rec (IntKind.wrap .u32 (y1 * (16777619 : Int))) (IntKind.wrap .i64 (x0_3 + (1 : Int))))
 (none))
 (k_t0 x0_0)
noncomputable def L_z0q_0 (n : Nat) (k_t0 : Int → Option Res) (x0_1 : ByteArray) (x0_2 : Int) : Nat → Int → Int → Option Res
  | 0, _, _ => none
  | m + 1, x0_0, x0_3 => F_z0q_0 n k_t0 x0_1 x0_2 (L_z0q_0 n k_t0 x0_1 x0_2 m) x0_0 x0_3
noncomputable def M_z0q (n : Nat) (a0 : Int) (a1 : ByteArray) : Option Res :=
 L_z0q_0 n
  (fun y2 => some (encRes ro_z0q rh_z0q ((y2, ()), ())))
  a1
  ((ByteArray.size a1 : Nat) : Int)
  n
  a0
  (0 : Int)
noncomputable def Q_z0q (a0 : Int) (a1 : ByteArray) : Option (RS ro_z0q rh_z0q) := decRes ro_z0q rh_z0q (M_z0q FUEL a0 a1)
noncomputable def ok_z0q (a0 : Int) (a1 : ByteArray) : Bool := (Q_z0q a0 a1).isSome
noncomputable def q_z0q (a0 : Int) (a1 : ByteArray) : RS ro_z0q rh_z0q := RS.get (Q_z0q a0 a1)
/-! z0r: hash_Of -/
abbrev ro_z0r : List EK := [.ty (.int .u32)]
abbrev rh_z0r : List HK := []
noncomputable def F_z0r_0 (n : Nat) (k_t0 : Int → Option Res) (x0_1 : (List ByteArray)) (x0_2 : Int) (rec : Int → Int → Option Res) (x0_0 : Int) (x0_3 : Int) : Option Res :=
 cond (decide (x0_3 < x0_2))
 (cond (decide ((0 : Int) ≤ x0_3 ∧ x0_3 < (((List.length x0_1) : Nat) : Int)))
 (let y1 : ((Int × Unit) × Unit) := (q_z0q x0_0 (rdd ByteArray.empty x0_1 (Int.toNat x0_3)))
 cond (ok_z0q x0_0 (rdd ByteArray.empty x0_1 (Int.toNat x0_3)))
 (rec y1.1.1 (IntKind.wrap .i64 (x0_3 + (1 : Int))))
 (none))
 (none))
 (k_t0 x0_0)
noncomputable def L_z0r_0 (n : Nat) (k_t0 : Int → Option Res) (x0_1 : (List ByteArray)) (x0_2 : Int) : Nat → Int → Int → Option Res
  | 0, _, _ => none
  | m + 1, x0_0, x0_3 => F_z0r_0 n k_t0 x0_1 x0_2 (L_z0r_0 n k_t0 x0_1 x0_2 m) x0_0 x0_3
noncomputable def M_z0r (n : Nat) (a0 : (List ByteArray)) : Option Res :=
 L_z0r_0 n
  (fun y2 => some (encRes ro_z0r rh_z0r ((y2, ()), ())))
  a0
  (((List.length a0) : Nat) : Int)
  n
  (2166136261 : Int)
  (0 : Int)
noncomputable def Q_z0r (a0 : (List ByteArray)) : Option (RS ro_z0r rh_z0r) := decRes ro_z0r rh_z0r (M_z0r FUEL a0)
noncomputable def ok_z0r (a0 : (List ByteArray)) : Bool := (Q_z0r a0).isSome
noncomputable def q_z0r (a0 : (List ByteArray)) : RS ro_z0r rh_z0r := RS.get (Q_z0r a0)
/-! z0s: hash_Mix -/
abbrev ro_z0s : List EK := [.ty (.int .u32)]
abbrev rh_z0s : List HK := []
noncomputable def M_z0s (n : Nat) (a0 : Int) : Option Res :=
 cond (decide ((0 : Int) ≤ (16 : Int)))
 (let y1 : Int := (IntKind.wrap .u32 (BitVec.toNat (BitVec.ofInt (IntKind.bits .u32) a0 ^^^ BitVec.ofInt (IntKind.bits .u32) (Int.fdiv a0 (2 ^ (min (Int.toNat (16 : Int)) (IntKind.bits .u32))))) : Nat))
 cond (decide ((0 : Int) ≤ (13 : Int)))
 (let y2 : Int := (Int.fdiv (IntKind.wrap .u32 (y1 * (2246822507 : Int))) (2 ^ (min (Int.toNat (13 : Int)) (IntKind.bits .u32))))
 let y3 : Int := (IntKind.wrap .u32 (BitVec.toNat (BitVec.ofInt (IntKind.bits .u32) (IntKind.wrap .u32 (y1 * (2246822507 : Int))) ^^^ BitVec.ofInt (IntKind.bits .u32) y2) : Nat))
 cond (decide ((0 : Int) ≤ (16 : Int)))
 (let y4 : Int := (Int.fdiv (IntKind.wrap .u32 (y3 * (3266489909 : Int))) (2 ^ (min (Int.toNat (16 : Int)) (IntKind.bits .u32))))
 let y5 : Int := (IntKind.wrap .u32 (BitVec.toNat (BitVec.ofInt (IntKind.bits .u32) (IntKind.wrap .u32 (y3 * (3266489909 : Int))) ^^^ BitVec.ofInt (IntKind.bits .u32) y4) : Nat))
 some (encRes ro_z0s rh_z0s ((y5, ()), ())))
 (none))
 (none))
 (none)
noncomputable def Q_z0s (a0 : Int) : Option (RS ro_z0s rh_z0s) := decRes ro_z0s rh_z0s (M_z0s FUEL a0)
noncomputable def ok_z0s (a0 : Int) : Bool := (Q_z0s a0).isSome
noncomputable def q_z0s (a0 : Int) : RS ro_z0s rh_z0s := RS.get (Q_z0s a0)
/-! z0t: key_Numberxe04 -/
abbrev ro_z0t : List EK := [.ty (.int .u32), .ty (.int .i64)]
abbrev rh_z0t : List HK := [.one false [.ptr 1 0 0, .nul 4, .ptr 3 0 0, .ty (.int .i64)], .one false [.hs 2 0], .row (.int .u8), .one false [.hs 4 0], .row (.int .u8)]
noncomputable def M_z0t (n : Nat) (a0 : FieldS) (a1 : Int) (a2 : Nat) (a3 : (List Int)) (a4 : Nat) (a5 : (List Int)) : Option Res :=
 let y1 : ((ByteArray × (Int × Unit)) × ((Unit × (Unit × (Unit × (Int × Unit)))) × ((Nat × Unit) × ((List Int) × ((Nat × Unit) × ((List Int) × Unit)))))) := (q_z0m a0 a1 a2 a3 a4 a5)
 cond (ok_z0m a0 a1 a2 a3 a4 a5)
 (cond (y1.1.2.1 != (0 : Int))
 (some (encRes ro_z0t rh_z0t (((0 : Int), (y1.1.2.1, ())), (((), ((), ((), (y1.2.1.2.2.2.1, ())))), ((y1.2.2.1.1, ()), (y1.2.2.2.1, ((y1.2.2.2.2.1.1, ()), (y1.2.2.2.2.2.1, ()))))))))
 (let y2 : ((Int × Unit) × Unit) := (q_z0r ([y1.1.1]))
 cond (ok_z0r ([y1.1.1]))
 (let y3 : ((Int × Unit) × Unit) := (q_z0s y2.1.1)
 cond (ok_z0s y2.1.1)
 (some (encRes ro_z0t rh_z0t ((y3.1.1, ((0 : Int), ())), (((), ((), ((), (y1.2.1.2.2.2.1, ())))), ((y1.2.2.1.1, ()), (y1.2.2.2.1, ((y1.2.2.2.2.1.1, ()), (y1.2.2.2.2.2.1, ()))))))))
 (none))
 (none)))
 (none)
noncomputable def Q_z0t (a0 : FieldS) (a1 : Int) (a2 : Nat) (a3 : (List Int)) (a4 : Nat) (a5 : (List Int)) : Option (RS ro_z0t rh_z0t) := decRes ro_z0t rh_z0t (M_z0t FUEL a0 a1 a2 a3 a4 a5)
noncomputable def ok_z0t (a0 : FieldS) (a1 : Int) (a2 : Nat) (a3 : (List Int)) (a4 : Nat) (a5 : (List Int)) : Bool := (Q_z0t a0 a1 a2 a3 a4 a5).isSome
noncomputable def q_z0t (a0 : FieldS) (a1 : Int) (a2 : Nat) (a3 : (List Int)) (a4 : Nat) (a5 : (List Int)) : RS ro_z0t rh_z0t := RS.get (Q_z0t a0 a1 a2 a3 a4 a5)
/-! z0u: turnoutref06_Texts -/
abbrev ro_z0u : List EK := [.ty .bool]
abbrev rh_z0u : List HK := []
noncomputable def F_z0u_0 (n : Nat) (k_r : Bool → Option Res) (k_t0 : Unit → Option Res) (x0_0 : (List ByteArray)) (x0_1 : (List ByteArray)) (rec : Int → Option Res) (x0_2 : Int) : Option Res :=
 cond (decide (x0_2 < (((List.length x0_0) : Nat) : Int)))
 (cond (decide ((0 : Int) ≤ x0_2 ∧ x0_2 < (((List.length x0_0) : Nat) : Int)))
 (cond (decide ((0 : Int) ≤ x0_2 ∧ x0_2 < (((List.length x0_1) : Nat) : Int)))
 (cond (!(ByteArray.toList (rdd ByteArray.empty x0_0 (Int.toNat x0_2)) == ByteArray.toList (rdd ByteArray.empty x0_1 (Int.toNat x0_2))))
 (k_r false)
 (rec (IntKind.wrap .i64 (x0_2 + (1 : Int)))))
 (none))
 (none))
 (k_t0 ())
noncomputable def L_z0u_0 (n : Nat) (k_r : Bool → Option Res) (k_t0 : Unit → Option Res) (x0_0 : (List ByteArray)) (x0_1 : (List ByteArray)) : Nat → Int → Option Res
  | 0, _ => none
  | m + 1, x0_2 => F_z0u_0 n k_r k_t0 x0_0 x0_1 (L_z0u_0 n k_r k_t0 x0_0 x0_1 m) x0_2
noncomputable def M_z0u (n : Nat) (a0 : (List ByteArray)) (a1 : (List ByteArray)) : Option Res :=
 cond ((((List.length a0) : Nat) : Int) != (((List.length a1) : Nat) : Int))
 (some (encRes ro_z0u rh_z0u ((false, ()), ())))
 (L_z0u_0 n
  (fun y1 => some (encRes ro_z0u rh_z0u ((y1, ()), ())))
  (fun _ => some (encRes ro_z0u rh_z0u ((true, ()), ())))
  a0
  a1
  n
  (0 : Int))
noncomputable def Q_z0u (a0 : (List ByteArray)) (a1 : (List ByteArray)) : Option (RS ro_z0u rh_z0u) := decRes ro_z0u rh_z0u (M_z0u FUEL a0 a1)
noncomputable def ok_z0u (a0 : (List ByteArray)) (a1 : (List ByteArray)) : Bool := (Q_z0u a0 a1).isSome
noncomputable def q_z0u (a0 : (List ByteArray)) (a1 : (List ByteArray)) : RS ro_z0u rh_z0u := RS.get (Q_z0u a0 a1)
/-! z0v: turnoutlaw18_awake -/
abbrev ro_z0v : List EK := [.ty .bool]
abbrev rh_z0v : List HK := []
noncomputable def M_z0v (n : Nat) : Option Res :=
 let y4 : ((Unit × (Unit × Unit)) × ((Unit × (Unit × (Unit × (Int × Unit)))) × ((Nat × Unit) × ((List Int) × ((Nat × Unit) × ((List Int) × Unit)))))) := (q_z01 (1 : Int) (ByteArray.mk #[18, 52, 86]))
 cond (ok_z01 (1 : Int) (ByteArray.mk #[18, 52, 86]))
 (let y6 : ((Unit × (Unit × Unit)) × ((Unit × (Unit × (Unit × (Int × Unit)))) × ((Nat × Unit) × ((List Int) × ((Nat × Unit) × ((List Int) × Unit)))))) := (q_z01 (1 : Int) (ByteArray.mk #[97]))
 cond (ok_z01 (1 : Int) (ByteArray.mk #[97]))
 (let y7 : ((FieldS × Unit) × Unit) := (q_z02 (0 : Int) (8 : Int))
 cond (ok_z02 (0 : Int) (8 : Int))
 (let y8 : ((FieldS × Unit) × Unit) := (q_z02 (12 : Int) (4 : Int))
 cond (ok_z02 (12 : Int) (4 : Int))
 (let y9 : ((ByteArray × (Int × Unit)) × ((Unit × (Unit × (Unit × (Int × Unit)))) × ((Nat × Unit) × ((List Int) × ((Nat × Unit) × ((List Int) × Unit)))))) := (q_z0n ([y7.1.1, y8.1.1]) y4.2.1.2.2.2.1 y4.2.2.1.1 y4.2.2.2.1 y4.2.2.2.2.1.1 y4.2.2.2.2.2.1)
 cond (ok_z0n ([y7.1.1, y8.1.1]) y4.2.1.2.2.2.1 y4.2.2.1.1 y4.2.2.2.1 y4.2.2.2.2.1.1 y4.2.2.2.2.2.1)
 (let y10 : ((FieldS × Unit) × Unit) := (q_z02 (0 : Int) (1 : Int))
 cond (ok_z02 (0 : Int) (1 : Int))
 (let y11 : ((FieldS × Unit) × Unit) := (q_z02 (0 : Int) (8 : Int))
 cond (ok_z02 (0 : Int) (8 : Int))
 (let y12 : ((FieldS × Unit) × Unit) := (q_z02 (0 : Int) (9 : Int))
 cond (ok_z02 (0 : Int) (9 : Int))
 (let y13 : ((Nat × Unit) × ((List Int) × Unit)) := (q_z0o ([y10.1.1, y11.1.1, y12.1.1]))
 cond (ok_z0o ([y10.1.1, y11.1.1, y12.1.1]))
 (let y14 : ((Nat × (Int × Unit)) × ((List ByteArray) × Unit)) := (q_z0p (ByteArray.mk #[97, 98, 99]) ([(1 : Int), (2 : Int)]))
 cond (ok_z0p (ByteArray.mk #[97, 98, 99]) ([(1 : Int), (2 : Int)]))
 (let y15 : ((Nat × (Int × Unit)) × ((List ByteArray) × Unit)) := (q_z0p (ByteArray.mk #[97, 98, 99]) ([(1 : Int), (1 : Int)]))
 cond (ok_z0p (ByteArray.mk #[97, 98, 99]) ([(1 : Int), (1 : Int)]))
 (let y16 : ((Nat × (Int × Unit)) × ((List ByteArray) × Unit)) := (q_z0p (ByteArray.mk #[97, 98, 99]) ([(2 : Int), (2 : Int)]))
 cond (ok_z0p (ByteArray.mk #[97, 98, 99]) ([(2 : Int), (2 : Int)]))
 (let y17 : ((FieldS × Unit) × Unit) := (q_z02 (0 : Int) (8 : Int))
 cond (ok_z02 (0 : Int) (8 : Int))
 (let y18 : ((Int × (Int × Unit)) × ((Unit × (Unit × (Unit × (Int × Unit)))) × ((Nat × Unit) × ((List Int) × ((Nat × Unit) × ((List Int) × Unit)))))) := (q_z0t y17.1.1 y6.2.1.2.2.2.1 y6.2.2.1.1 y6.2.2.2.1 y6.2.2.2.2.1.1 y6.2.2.2.2.2.1)
 cond (ok_z0t y17.1.1 y6.2.1.2.2.2.1 y6.2.2.1.1 y6.2.2.2.1 y6.2.2.2.2.1.1 y6.2.2.2.2.2.1)
 (cond (y9.1.2.1 == (0 : Int))
 (cond (ByteArray.toList y9.1.1 == ByteArray.toList (ByteArray.mk #[18, 4]))
 (cond (((y13.1.1 : Nat) : Int) == (3 : Int))
 (cond (decide ((0 : Int) ≤ (0 : Int) ∧ (0 : Int) < ((y13.1.1 : Nat) : Int)))
 (cond ((rdd (0 : Int) y13.2.1 0) == (1 : Int))
 (cond (decide ((0 : Int) ≤ (1 : Int) ∧ (1 : Int) < ((y13.1.1 : Nat) : Int)))
 (cond ((rdd (0 : Int) y13.2.1 1) == (1 : Int))
 (cond (decide ((0 : Int) ≤ (2 : Int) ∧ (2 : Int) < ((y13.1.1 : Nat) : Int)))
 (cond ((rdd (0 : Int) y13.2.1 2) == (2 : Int))
 (cond (y14.1.2.1 == (0 : Int))
 (let y19 : ((Bool × Unit) × Unit) := (q_z0u (cutL ByteArray.empty y14.2.1 0 y14.1.1) ([(ByteArray.mk #[97]), (ByteArray.mk #[98, 99])]))
 cond (ok_z0u (cutL ByteArray.empty y14.2.1 0 y14.1.1) ([(ByteArray.mk #[97]), (ByteArray.mk #[98, 99])]))
 (cond y19.1.1
 (cond (y15.1.2.1 == (5 : Int))
 (cond (y16.1.2.1 == (4 : Int))
 (cond (y18.1.2.1 == (0 : Int))
 (let y20 : ((Int × Unit) × Unit) := (q_z0r ([(ByteArray.mk #[97])]))
 cond (ok_z0r ([(ByteArray.mk #[97])]))
 (let y21 : ((Int × Unit) × Unit) := (q_z0s y20.1.1)
 cond (ok_z0s y20.1.1)
 (some (encRes ro_z0v rh_z0v (((y18.1.1 == y21.1.1), ()), ())))
 (none))
 (none))
 (some (encRes ro_z0v rh_z0v ((false, ()), ()))))
 (some (encRes ro_z0v rh_z0v ((false, ()), ()))))
 (some (encRes ro_z0v rh_z0v ((false, ()), ()))))
 (some (encRes ro_z0v rh_z0v ((false, ()), ()))))
 (none))
 (some (encRes ro_z0v rh_z0v ((false, ()), ()))))
 (some (encRes ro_z0v rh_z0v ((false, ()), ()))))
 (none))
 (some (encRes ro_z0v rh_z0v ((false, ()), ()))))
 (none))
 (some (encRes ro_z0v rh_z0v ((false, ()), ()))))
 (none))
 (some (encRes ro_z0v rh_z0v ((false, ()), ()))))
 (some (encRes ro_z0v rh_z0v ((false, ()), ()))))
 (some (encRes ro_z0v rh_z0v ((false, ()), ()))))
 (none))
 (none))
 (none))
 (none))
 (none))
 (none))
 (none))
 (none))
 (none))
 (none))
 (none))
 (none))
 (let y5 : ((Unit × (Unit × Unit)) × Unit) := (q_z01_2 (1 : Int) (ByteArray.mk #[97]))
 cond (ok_z01_2 (1 : Int) (ByteArray.mk #[97]))
 (some (encRes ro_z0v rh_z0v ((false, ()), ())))
 (none)))
 (let y1 : ((Unit × (Unit × Unit)) × Unit) := (q_z01_2 (1 : Int) (ByteArray.mk #[18, 52, 86]))
 cond (ok_z01_2 (1 : Int) (ByteArray.mk #[18, 52, 86]))
 (let y3 : ((Unit × (Unit × Unit)) × ((Unit × (Unit × (Unit × (Int × Unit)))) × ((Nat × Unit) × ((List Int) × ((Nat × Unit) × ((List Int) × Unit)))))) := (q_z01 (1 : Int) (ByteArray.mk #[97]))
 cond (ok_z01 (1 : Int) (ByteArray.mk #[97]))
 (some (encRes ro_z0v rh_z0v ((false, ()), ())))
 (let y2 : ((Unit × (Unit × Unit)) × Unit) := (q_z01_2 (1 : Int) (ByteArray.mk #[97]))
 cond (ok_z01_2 (1 : Int) (ByteArray.mk #[97]))
 (some (encRes ro_z0v rh_z0v ((false, ()), ())))
 (none)))
 (none))
noncomputable def Q_z0v : Option (RS ro_z0v rh_z0v) := decRes ro_z0v rh_z0v (M_z0v FUEL)
noncomputable def ok_z0v : Bool := (Q_z0v).isSome
noncomputable def q_z0v : RS ro_z0v rh_z0v := RS.get (Q_z0v)
/-! z0w: strings_Join -/
abbrev ro_z0w : List EK := [.ty .str]
abbrev rh_z0w : List HK := []
noncomputable def Q_z0w (a0 : List ByteArray) (a1 : ByteArray) : Option (RS ro_z0w rh_z0w) := joinQ a0 a1
noncomputable def ok_z0w (a0 : List ByteArray) (a1 : ByteArray) : Bool := (Q_z0w a0 a1).isSome
noncomputable def q_z0w (a0 : List ByteArray) (a1 : ByteArray) : RS ro_z0w rh_z0w := RS.get (Q_z0w a0 a1)
/-! z0x: key_Join -/
abbrev ro_z0x : List EK := [.ty .str]
abbrev rh_z0x : List HK := []
noncomputable def M_z0x (n : Nat) (a0 : (List ByteArray)) : Option Res :=
 let y1 : ((ByteArray × Unit) × Unit) := (q_z0w a0 (ByteArray.mk #[]))
 cond (ok_z0w a0 (ByteArray.mk #[]))
 (some (encRes ro_z0x rh_z0x ((y1.1.1, ()), ())))
 (none)
noncomputable def Q_z0x (a0 : (List ByteArray)) : Option (RS ro_z0x rh_z0x) := decRes ro_z0x rh_z0x (M_z0x FUEL a0)
noncomputable def ok_z0x (a0 : (List ByteArray)) : Bool := (Q_z0x a0).isSome
noncomputable def q_z0x (a0 : (List ByteArray)) : RS ro_z0x rh_z0x := RS.get (Q_z0x a0)
/-! z0y: turnoutlaw18_KeyBack -/
abbrev ro_z0y : List EK := [.ty .bool]
abbrev rh_z0y : List HK := []
noncomputable def F_z0y_0 (n : Nat) (k_r : Bool → Option Res) (k_t0 : Nat → (List Int) → Option Res) (x0_0 : (List ByteArray)) (rec : Nat → Int → (List Int) → Option Res) (x0_3 : Nat) (x0_4 : Int) (x0_5 : (List Int)) : Option Res :=
 cond (decide (x0_4 < (((List.length x0_0) : Nat) : Int)))
 (cond (decide ((0 : Int) ≤ x0_4 ∧ x0_4 < (((List.length x0_0) : Nat) : Int)))
 (cond (decide (((ByteArray.size (rdd ByteArray.empty x0_0 (Int.toNat x0_4)) : Nat) : Int) > (16 : Int)))
 (k_r true)
 (cond (decide ((0 : Int) ≤ x0_4 ∧ x0_4 < (((List.length x0_0) : Nat) : Int)))
 (cond (decide (((List.length (cutL (0 : Int) x0_5 0 x0_3)) + 1) * 8 ≤ 2 ^ 46 ∧ ((List.length (cutL (0 : Int) x0_5 0 x0_3)) + 1) ≤ 2 ^ 46))
 (rec ((List.length (cutL (0 : Int) x0_5 0 x0_3)) + 1) (IntKind.wrap .i64 (x0_4 + (1 : Int))) ((cutL (0 : Int) x0_5 0 x0_3) ++ [((ByteArray.size (rdd ByteArray.empty x0_0 (Int.toNat x0_4)) : Nat) : Int)]))
 (none))
 (none)))
 (none))
 (k_t0 x0_3 x0_5)
noncomputable def L_z0y_0 (n : Nat) (k_r : Bool → Option Res) (k_t0 : Nat → (List Int) → Option Res) (x0_0 : (List ByteArray)) : Nat → Nat → Int → (List Int) → Option Res
  | 0, _, _, _ => none
  | m + 1, x0_3, x0_4, x0_5 => F_z0y_0 n k_r k_t0 x0_0 (L_z0y_0 n k_r k_t0 x0_0 m) x0_3 x0_4 x0_5
noncomputable def M_z0y (n : Nat) (a0 : (List ByteArray)) (a1 : ByteArray) (a2 : (List Int)) : Option Res :=
 cond (decide ((((List.length a0) : Nat) : Int) > (300 : Int)))
 (let y1 : ((Bool × Unit) × Unit) := q_z0v
 cond ok_z0v
 (some (encRes ro_z0y rh_z0y ((y1.1.1, ()), ())))
 (none))
 (cond (decide (((ByteArray.size a1 : Nat) : Int) > (5000 : Int)))
 (let y2 : ((Bool × Unit) × Unit) := q_z0v
 cond ok_z0v
 (some (encRes ro_z0y rh_z0y ((y2.1.1, ()), ())))
 (none))
 (cond (decide ((((List.length a2) : Nat) : Int) > (500 : Int)))
 (let y3 : ((Bool × Unit) × Unit) := q_z0v
 cond ok_z0v
 (some (encRes ro_z0y rh_z0y ((y3.1.1, ()), ())))
 (none))
 (let y4 : ((Bool × Unit) × Unit) := q_z0v
 cond ok_z0v
 (cond (!y4.1.1)
 (let y5 : ((Bool × Unit) × Unit) := q_z0v
 cond ok_z0v
 (some (encRes ro_z0y rh_z0y ((y5.1.1, ()), ())))
 (none))
 (L_z0y_0 n
  (fun y6 => some (encRes ro_z0y rh_z0y ((y6, ()), ())))
  (fun y7 y8 => let y9 : ((ByteArray × Unit) × Unit) := (q_z0x a0)
 cond (ok_z0x a0)
 (let y10 : ((Nat × (Int × Unit)) × ((List ByteArray) × Unit)) := (q_z0p y9.1.1 (cutL (0 : Int) y8 0 y7))
 cond (ok_z0p y9.1.1 (cutL (0 : Int) y8 0 y7))
 (cond (y10.1.2.1 != (0 : Int))
 (some (encRes ro_z0y rh_z0y ((false, ()), ())))
 (let y11 : ((Bool × Unit) × Unit) := (q_z0u (cutL ByteArray.empty y10.2.1 0 y10.1.1) a0)
 cond (ok_z0u (cutL ByteArray.empty y10.2.1 0 y10.1.1) a0)
 (cond (!y11.1.1)
 (some (encRes ro_z0y rh_z0y ((false, ()), ())))
 (let y12 : ((Nat × (Int × Unit)) × ((List ByteArray) × Unit)) := (q_z0p a1 a2)
 cond (ok_z0p a1 a2)
 (cond (y12.1.2.1 != (0 : Int))
 (cond (((y12.1.1 : Nat) : Int) == (0 : Int))
 (some (encRes ro_z0y rh_z0y ((true, ()), ())))
 (cond (y12.1.2.1 == (0 : Int))
 (let y13 : ((ByteArray × Unit) × Unit) := (q_z0x (cutL ByteArray.empty y12.2.1 0 y12.1.1))
 cond (ok_z0x (cutL ByteArray.empty y12.2.1 0 y12.1.1))
 (cond (ByteArray.toList y13.1.1 == ByteArray.toList a1)
 (some (encRes ro_z0y rh_z0y (((((y12.1.1 : Nat) : Int) == (((List.length a2) : Nat) : Int)), ()), ())))
 (some (encRes ro_z0y rh_z0y ((false, ()), ()))))
 (none))
 (some (encRes ro_z0y rh_z0y ((false, ()), ())))))
 (cond (y12.1.2.1 == (0 : Int))
 (let y14 : ((ByteArray × Unit) × Unit) := (q_z0x (cutL ByteArray.empty y12.2.1 0 y12.1.1))
 cond (ok_z0x (cutL ByteArray.empty y12.2.1 0 y12.1.1))
 (cond (ByteArray.toList y14.1.1 == ByteArray.toList a1)
 (some (encRes ro_z0y rh_z0y (((((y12.1.1 : Nat) : Int) == (((List.length a2) : Nat) : Int)), ()), ())))
 (some (encRes ro_z0y rh_z0y ((false, ()), ()))))
 (none))
 (some (encRes ro_z0y rh_z0y ((false, ()), ())))))
 (none)))
 (none)))
 (none))
 (none))
  a0
  n
  0
  (0 : Int)
  ([])))
 (none))))
noncomputable def Q_z0y (a0 : (List ByteArray)) (a1 : ByteArray) (a2 : (List Int)) : Option (RS ro_z0y rh_z0y) := decRes ro_z0y rh_z0y (M_z0y FUEL a0 a1 a2)
noncomputable def ok_z0y (a0 : (List ByteArray)) (a1 : ByteArray) (a2 : (List Int)) : Bool := (Q_z0y a0 a1 a2).isSome
noncomputable def q_z0y (a0 : (List ByteArray)) (a1 : ByteArray) (a2 : (List Int)) : RS ro_z0y rh_z0y := RS.get (Q_z0y a0 a1 a2)
/-! z0z: turnoutlaw18_large -/
abbrev ro_z0z : List EK := [.ty .bool]
abbrev rh_z0z : List HK := []
noncomputable def F_z0z_0 (n : Nat) (k_t0 : Int → Option Res) (x0_0 : (List NodeS)) (rec : Int → Int → Option Res) (x0_1 : Int) (x0_2 : Int) : Option Res :=
 cond (decide (x0_2 < (((List.length x0_0) : Nat) : Int)))
 (cond (decide (x0_1 < (2000 : Int)))
 (cond (decide ((0 : Int) ≤ x0_2 ∧ x0_2 < (((List.length x0_0) : Nat) : Int)))
 (let y1 : Int := (if (((List.length (rdd zNodeS x0_0 (Int.toNat x0_2)).2.2.2.2.2.2.2.1) : Nat) : Int) < (2000 : Int) then (((List.length (rdd zNodeS x0_0 (Int.toNat x0_2)).2.2.2.2.2.2.2.1) : Nat) : Int) else (2000 : Int))
 rec (IntKind.wrap .i64 ((IntKind.wrap .i64 (x0_1 + (5 : Int))) + y1)) (IntKind.wrap .i64 (x0_2 + (1 : Int))))
 (none))
 (k_t0 x0_1))
 (k_t0 x0_1)
noncomputable def L_z0z_0 (n : Nat) (k_t0 : Int → Option Res) (x0_0 : (List NodeS)) : Nat → Int → Int → Option Res
  | 0, _, _ => none
  | m + 1, x0_1, x0_2 => F_z0z_0 n k_t0 x0_0 (L_z0z_0 n k_t0 x0_0 m) x0_1 x0_2
noncomputable def M_z0z (n : Nat) (a0 : (List NodeS)) : Option Res :=
 L_z0z_0 n
  (fun y2 => some (encRes ro_z0z rh_z0z (((decide (y2 ≥ (2000 : Int))), ()), ())))
  a0
  n
  (0 : Int)
  (0 : Int)
noncomputable def Q_z0z (a0 : (List NodeS)) : Option (RS ro_z0z rh_z0z) := decRes ro_z0z rh_z0z (M_z0z FUEL a0)
noncomputable def ok_z0z (a0 : (List NodeS)) : Bool := (Q_z0z a0).isSome
noncomputable def q_z0z (a0 : (List NodeS)) : RS ro_z0z rh_z0z := RS.get (Q_z0z a0)
/-! z10: buf_Buf_Textx455 -/
abbrev ro_z10 : List EK := [.ty .str]
abbrev rh_z10 : List HK := [.one false [.hs 1 0], .row (.int .u8)]
noncomputable def M_z10 (n : Nat) (a0 : Nat) (a1 : (List Int)) : Option Res :=
 some (encRes ro_z10 rh_z10 (((bytesOf (cutL (0 : Int) a1 0 a0)), ()), ((a0, ()), (a1, ()))))
noncomputable def Q_z10 (a0 : Nat) (a1 : (List Int)) : Option (RS ro_z10 rh_z10) := decRes ro_z10 rh_z10 (M_z10 FUEL a0 a1)
noncomputable def ok_z10 (a0 : Nat) (a1 : (List Int)) : Bool := (Q_z10 a0 a1).isSome
noncomputable def q_z10 (a0 : Nat) (a1 : (List Int)) : RS ro_z10 rh_z10 := RS.get (Q_z10 a0 a1)
/-! z11: pack_Packet_Textx626 -/
abbrev ro_z11 : List EK := [.ty .str]
abbrev rh_z11 : List HK := [.one false [.ptr 1 0 0, .nul 4, .ptr 3 0 0, .ty (.int .i64)], .one false [.hs 2 0], .row (.int .u8), .one false [.hs 4 0], .row (.int .u8)]
noncomputable def M_z11 (n : Nat) (a0 : Int) (a1 : Nat) (a2 : (List Int)) (a3 : Nat) (a4 : (List Int)) : Option Res :=
 let y1 : ((ByteArray × Unit) × ((Nat × Unit) × ((List Int) × Unit))) := (q_z10 a1 a2)
 cond (ok_z10 a1 a2)
 (some (encRes ro_z11 rh_z11 ((y1.1.1, ()), (((), ((), ((), (a0, ())))), ((y1.2.1.1, ()), (y1.2.2.1, ((a3, ()), (a4, ()))))))))
 (none)
noncomputable def Q_z11 (a0 : Int) (a1 : Nat) (a2 : (List Int)) (a3 : Nat) (a4 : (List Int)) : Option (RS ro_z11 rh_z11) := decRes ro_z11 rh_z11 (M_z11 FUEL a0 a1 a2 a3 a4)
noncomputable def ok_z11 (a0 : Int) (a1 : Nat) (a2 : (List Int)) (a3 : Nat) (a4 : (List Int)) : Bool := (Q_z11 a0 a1 a2 a3 a4).isSome
noncomputable def q_z11 (a0 : Int) (a1 : Nat) (a2 : (List Int)) (a3 : Nat) (a4 : (List Int)) : RS ro_z11 rh_z11 := RS.get (Q_z11 a0 a1 a2 a3 a4)
/-! z12: graph_to -/
abbrev ro_z12 : List EK := [.ty .bool]
abbrev rh_z12 : List HK := []
noncomputable def M_z12 (n : Nat) (a0 : Int) : Option Res :=
 cond (decide (a0 ≥ (0 : Int)))
 (some (encRes ro_z12 rh_z12 (((decide (a0 ≤ (65535 : Int))), ()), ())))
 (some (encRes ro_z12 rh_z12 ((false, ()), ())))
noncomputable def Q_z12 (a0 : Int) : Option (RS ro_z12 rh_z12) := decRes ro_z12 rh_z12 (M_z12 FUEL a0)
noncomputable def ok_z12 (a0 : Int) : Bool := (Q_z12 a0).isSome
noncomputable def q_z12 (a0 : Int) : RS ro_z12 rh_z12 := RS.get (Q_z12 a0)
/-! z13: graph_span_may -/
abbrev ro_z13 : List EK := [.ty .bool]
abbrev rh_z13 : List HK := []
noncomputable def M_z13 (n : Nat) (a0 : SpanS) : Option Res :=
 cond (a0.2.1 == (0 : Int))
 (some (encRes ro_z13 rh_z13 (((a0.1 == (0 : Int)), ()), ())))
 (cond (decide (a0.2.1 > (0 : Int)))
 (cond (decide (a0.2.1 ≤ a0.2.2.1))
 (cond (decide (a0.1 ≥ (0 : Int)))
 (some (encRes ro_z13 rh_z13 (((decide (a0.1 ≤ (2048 : Int))), ()), ())))
 (some (encRes ro_z13 rh_z13 ((false, ()), ()))))
 (some (encRes ro_z13 rh_z13 ((false, ()), ()))))
 (some (encRes ro_z13 rh_z13 ((false, ()), ()))))
noncomputable def Q_z13 (a0 : SpanS) : Option (RS ro_z13 rh_z13) := decRes ro_z13 rh_z13 (M_z13 FUEL a0)
noncomputable def ok_z13 (a0 : SpanS) : Bool := (Q_z13 a0).isSome
noncomputable def q_z13 (a0 : SpanS) : RS ro_z13 rh_z13 := RS.get (Q_z13 a0)
/-! z14: graph_unit -/
abbrev ro_z14 : List EK := [.ty .bool]
abbrev rh_z14 : List HK := []
noncomputable def M_z14 (n : Nat) (a0 : NodeS) : Option Res :=
 cond (a0.2.2.2.1 == (0 : Int))
 (some (encRes ro_z14 rh_z14 (((a0.2.2.2.2.1 == (0 : Int)), ()), ())))
 (cond (decide (a0.2.2.2.2.1 ≥ (1 : Int)))
 (some (encRes ro_z14 rh_z14 (((decide (a0.2.2.2.2.1 ≤ (256 : Int))), ()), ())))
 (some (encRes ro_z14 rh_z14 ((false, ()), ()))))
noncomputable def Q_z14 (a0 : NodeS) : Option (RS ro_z14 rh_z14) := decRes ro_z14 rh_z14 (M_z14 FUEL a0)
noncomputable def ok_z14 (a0 : NodeS) : Bool := (Q_z14 a0).isSome
noncomputable def q_z14 (a0 : NodeS) : RS ro_z14 rh_z14 := RS.get (Q_z14 a0)
/-! z15: graph_Form -/
abbrev ro_z15 : List EK := [.ty .bool]
abbrev rh_z15 : List HK := []
noncomputable def F_z15_0 (n : Nat) (k_r : Bool → Option Res) (k_t0 : Unit → Option Res) (x0_0 : (List ArmS)) (x0_1 : Int) (x0_3 : NodeS) (rec : Int → Option Res) (x0_2 : Int) : Option Res :=
 cond (decide (x0_2 < x0_1))
 (cond (decide ((0 : Int) ≤ x0_2 ∧ x0_2 < (((List.length x0_0) : Nat) : Int)))
 (cond (decide ((0 : Int) ≤ x0_3.2.2.2.2.2.2.1))
 (let y5 : Int := (Int.fdiv (IntKind.wrap .u64 (rdd zArmS x0_0 (Int.toNat x0_2)).1) (2 ^ (min (Int.toNat x0_3.2.2.2.2.2.2.1) (IntKind.bits .u64))))
 cond (decide (y5 > (0 : Int)))
 (k_r false)
 (cond (x0_3.2.2.2.2.2.2.1 == (0 : Int))
 (k_r false)
 (cond (decide (x0_2 > (0 : Int)))
 (cond (decide ((0 : Int) ≤ (IntKind.wrap .i64 (x0_2 - (1 : Int))) ∧ (IntKind.wrap .i64 (x0_2 - (1 : Int))) < (((List.length x0_3.2.2.2.2.2.2.2.1) : Nat) : Int)))
 (cond (decide ((rdd zArmS x0_0 (Int.toNat x0_2)).1 ≤ (rdd zArmS x0_3.2.2.2.2.2.2.2.1 (Int.toNat (IntKind.wrap .i64 (x0_2 - (1 : Int))))).1))
 (k_r false)
 (let y6 : ((Bool × Unit) × Unit) := (q_z12 ((rdd zArmS x0_0 (Int.toNat x0_2)).2.1))
 cond (ok_z12 ((rdd zArmS x0_0 (Int.toNat x0_2)).2.1))
 (cond (!y6.1.1)
 (k_r false)
 (rec (IntKind.wrap .i64 (x0_2 + (1 : Int)))))
 (none)))
 (none))
 (let y7 : ((Bool × Unit) × Unit) := (q_z12 ((rdd zArmS x0_0 (Int.toNat x0_2)).2.1))
 cond (ok_z12 ((rdd zArmS x0_0 (Int.toNat x0_2)).2.1))
 (cond (!y7.1.1)
 (k_r false)
 (rec (IntKind.wrap .i64 (x0_2 + (1 : Int)))))
 (none)))))
 (none))
 (none))
 (k_t0 ())
noncomputable def L_z15_0 (n : Nat) (k_r : Bool → Option Res) (k_t0 : Unit → Option Res) (x0_0 : (List ArmS)) (x0_1 : Int) (x0_3 : NodeS) : Nat → Int → Option Res
  | 0, _ => none
  | m + 1, x0_2 => F_z15_0 n k_r k_t0 x0_0 x0_1 x0_3 (L_z15_0 n k_r k_t0 x0_0 x0_1 x0_3 m) x0_2
noncomputable def M_z15 (n : Nat) (a0 : NodeS) : Option Res :=
 cond (decide (a0.1 < (1 : Int)))
 (some (encRes ro_z15 rh_z15 ((false, ()), ())))
 (cond (decide (a0.1 > (65534 : Int)))
 (some (encRes ro_z15 rh_z15 ((false, ()), ())))
 (cond (decide (a0.2.1 < (0 : Int)))
 (some (encRes ro_z15 rh_z15 ((false, ()), ())))
 (cond (decide (a0.2.1 > (256 : Int)))
 (some (encRes ro_z15 rh_z15 ((false, ()), ())))
 (let y1 : ((Bool × Unit) × Unit) := (q_z12 a0.2.2.2.2.2.2.2.2.1)
 cond (ok_z12 a0.2.2.2.2.2.2.2.2.1)
 (cond (!y1.1.1)
 (some (encRes ro_z15 rh_z15 ((false, ()), ())))
 (cond (decide ((((List.length a0.2.2.2.2.2.2.2.1) : Nat) : Int) > (32 : Int)))
 (some (encRes ro_z15 rh_z15 ((false, ()), ())))
 (let y2 : ((Bool × Unit) × Unit) := (q_z13 (a0.2.2.1, (a0.2.2.2.1, ((16 : Int), ()))))
 cond (ok_z13 (a0.2.2.1, (a0.2.2.2.1, ((16 : Int), ()))))
 (cond (!y2.1.1)
 (some (encRes ro_z15 rh_z15 ((false, ()), ())))
 (let y3 : ((Bool × Unit) × Unit) := (q_z14 a0)
 cond (ok_z14 a0)
 (cond (!y3.1.1)
 (some (encRes ro_z15 rh_z15 ((false, ()), ())))
 (let y4 : ((Bool × Unit) × Unit) := (q_z13 (a0.2.2.2.2.2.1, (a0.2.2.2.2.2.2.1, ((32 : Int), ()))))
 cond (ok_z13 (a0.2.2.2.2.2.1, (a0.2.2.2.2.2.2.1, ((32 : Int), ()))))
 (cond (!y4.1.1)
 (some (encRes ro_z15 rh_z15 ((false, ()), ())))
 (L_z15_0 n
  (fun y8 => some (encRes ro_z15 rh_z15 ((y8, ()), ())))
  (fun _ => some (encRes ro_z15 rh_z15 ((true, ()), ())))
  a0.2.2.2.2.2.2.2.1
  (((List.length a0.2.2.2.2.2.2.2.1) : Nat) : Int)
  a0
  n
  (0 : Int)))
 (none)))
 (none)))
 (none))))
 (none)))))
noncomputable def Q_z15 (a0 : NodeS) : Option (RS ro_z15 rh_z15) := decRes ro_z15 rh_z15 (M_z15 FUEL a0)
noncomputable def ok_z15 (a0 : NodeS) : Bool := (Q_z15 a0).isSome
noncomputable def q_z15 (a0 : NodeS) : RS ro_z15 rh_z15 := RS.get (Q_z15 a0)
/-! z16: graph_form -/
abbrev ro_z16 : List EK := [.ty .bool]
abbrev rh_z16 : List HK := []
noncomputable def F_z16_0 (n : Nat) (k_r : Bool → Option Res) (k_t0 : Unit → Option Res) (x0_0 : (List NodeS)) (x0_1 : (List NodeS)) (x0_2 : Int) (rec : Int → Option Res) (x0_3 : Int) : Option Res :=
 cond (decide (x0_3 < x0_2))
 (cond (decide ((0 : Int) ≤ x0_3 ∧ x0_3 < (((List.length x0_1) : Nat) : Int)))
 (let y1 : ((Bool × Unit) × Unit) := (q_z15 (rdd zNodeS x0_1 (Int.toNat x0_3)))
 cond (ok_z15 (rdd zNodeS x0_1 (Int.toNat x0_3)))
 (cond (!y1.1.1)
 (k_r false)
 (cond (decide (x0_3 > (0 : Int)))
 (cond (decide ((0 : Int) ≤ (IntKind.wrap .i64 (x0_3 - (1 : Int))) ∧ (IntKind.wrap .i64 (x0_3 - (1 : Int))) < (((List.length x0_0) : Nat) : Int)))
 (cond (decide ((rdd zNodeS x0_1 (Int.toNat x0_3)).1 ≤ (rdd zNodeS x0_0 (Int.toNat (IntKind.wrap .i64 (x0_3 - (1 : Int))))).1))
 (k_r false)
 (rec (IntKind.wrap .i64 (x0_3 + (1 : Int)))))
 (none))
 (rec (IntKind.wrap .i64 (x0_3 + (1 : Int))))))
 (none))
 (none))
 (k_t0 ())
noncomputable def L_z16_0 (n : Nat) (k_r : Bool → Option Res) (k_t0 : Unit → Option Res) (x0_0 : (List NodeS)) (x0_1 : (List NodeS)) (x0_2 : Int) : Nat → Int → Option Res
  | 0, _ => none
  | m + 1, x0_3 => F_z16_0 n k_r k_t0 x0_0 x0_1 x0_2 (L_z16_0 n k_r k_t0 x0_0 x0_1 x0_2 m) x0_3
noncomputable def M_z16 (n : Nat) (a0 : (List NodeS)) : Option Res :=
 L_z16_0 n
  (fun y2 => some (encRes ro_z16 rh_z16 ((y2, ()), ())))
  (fun _ => some (encRes ro_z16 rh_z16 ((true, ()), ())))
  a0
  a0
  (((List.length a0) : Nat) : Int)
  n
  (0 : Int)
noncomputable def Q_z16 (a0 : (List NodeS)) : Option (RS ro_z16 rh_z16) := decRes ro_z16 rh_z16 (M_z16 FUEL a0)
noncomputable def ok_z16 (a0 : (List NodeS)) : Bool := (Q_z16 a0).isSome
noncomputable def q_z16 (a0 : (List NodeS)) : RS ro_z16 rh_z16 := RS.get (Q_z16 a0)
/-! z17: graph_goes -/
abbrev ro_z17 : List EK := [.hs 0 0]
abbrev rh_z17 : List HK := [.row (.int .i64)]
noncomputable def F_z17_0 (n : Nat) (k_t0 : Nat → (List Int) → Option Res) (x0_1 : (List ArmS)) (x0_2 : Int) (rec : Nat → Int → (List Int) → Option Res) (x0_0 : Nat) (x0_3 : Int) (x0_4 : (List Int)) : Option Res :=
 cond (decide (x0_3 < x0_2))
 (cond (decide ((0 : Int) ≤ x0_3 ∧ x0_3 < (((List.length x0_1) : Nat) : Int)))
 (cond (decide (((List.length (cutL (0 : Int) x0_4 0 x0_0)) + 1) * 8 ≤ 2 ^ 46 ∧ ((List.length (cutL (0 : Int) x0_4 0 x0_0)) + 1) ≤ 2 ^ 46))
 (rec ((List.length (cutL (0 : Int) x0_4 0 x0_0)) + 1) (IntKind.wrap .i64 (x0_3 + (1 : Int))) ((cutL (0 : Int) x0_4 0 x0_0) ++ [(rdd zArmS x0_1 (Int.toNat x0_3)).2.1]))
 (none))
 (none))
 (k_t0 x0_0 x0_4)
noncomputable def L_z17_0 (n : Nat) (k_t0 : Nat → (List Int) → Option Res) (x0_1 : (List ArmS)) (x0_2 : Int) : Nat → Nat → Int → (List Int) → Option Res
  | 0, _, _, _ => none
  | m + 1, x0_0, x0_3, x0_4 => F_z17_0 n k_t0 x0_1 x0_2 (L_z17_0 n k_t0 x0_1 x0_2 m) x0_0 x0_3 x0_4
noncomputable def M_z17 (n : Nat) (a0 : NodeS) : Option Res :=
 L_z17_0 n
  (fun y1 y2 => some (encRes ro_z17 rh_z17 ((y1, ()), (y2, ()))))
  a0.2.2.2.2.2.2.2.1
  (((List.length a0.2.2.2.2.2.2.2.1) : Nat) : Int)
  n
  1
  (0 : Int)
  ([a0.2.2.2.2.2.2.2.2.1])
noncomputable def Q_z17 (a0 : NodeS) : Option (RS ro_z17 rh_z17) := decRes ro_z17 rh_z17 (M_z17 FUEL a0)
noncomputable def ok_z17 (a0 : NodeS) : Bool := (Q_z17 a0).isSome
noncomputable def q_z17 (a0 : NodeS) : RS ro_z17 rh_z17 := RS.get (Q_z17 a0)
/-! z18: graph_Find -/
abbrev ro_z18 : List EK := [.agg NodeT, .ty .bool]
abbrev rh_z18 : List HK := []
noncomputable def F_z18_0 (n : Nat) (k_r : Bool → NodeS → Option Res) (k_t0 : Unit → Option Res) (x0_0 : Int) (x0_1 : (List NodeS)) (x0_2 : Int) (x0_4 : NodeS) (rec : Int → Option Res) (x0_3 : Int) : Option Res :=
 cond (decide (x0_3 < x0_2))
 (cond (decide ((0 : Int) ≤ x0_3 ∧ x0_3 < (((List.length x0_1) : Nat) : Int)))
 (cond ((rdd zNodeS x0_1 (Int.toNat x0_3)).1 == x0_0)
 (k_r true (rdd zNodeS x0_1 (Int.toNat x0_3)))
 (rec (IntKind.wrap .i64 (x0_3 + (1 : Int)))))
 (none))
 (k_t0 ())
noncomputable def L_z18_0 (n : Nat) (k_r : Bool → NodeS → Option Res) (k_t0 : Unit → Option Res) (x0_0 : Int) (x0_1 : (List NodeS)) (x0_2 : Int) (x0_4 : NodeS) : Nat → Int → Option Res
  | 0, _ => none
  | m + 1, x0_3 => F_z18_0 n k_r k_t0 x0_0 x0_1 x0_2 x0_4 (L_z18_0 n k_r k_t0 x0_0 x0_1 x0_2 x0_4 m) x0_3
noncomputable def M_z18 (n : Nat) (a0 : (List NodeS)) (a1 : Int) : Option Res :=
 L_z18_0 n
  (fun y1 y2 => some (encRes ro_z18 rh_z18 ((y2, (y1, ())), ())))
  (fun _ => some (encRes ro_z18 rh_z18 ((((0 : Int), ((0 : Int), ((0 : Int), ((0 : Int), ((0 : Int), ((0 : Int), ((0 : Int), ([], ((0 : Int), ()))))))))), (false, ())), ())))
  a1
  a0
  (((List.length a0) : Nat) : Int)
  ((0 : Int), ((0 : Int), ((0 : Int), ((0 : Int), ((0 : Int), ((0 : Int), ((0 : Int), ([], ((0 : Int), ())))))))))
  n
  (0 : Int)
noncomputable def Q_z18 (a0 : (List NodeS)) (a1 : Int) : Option (RS ro_z18 rh_z18) := decRes ro_z18 rh_z18 (M_z18 FUEL a0 a1)
noncomputable def ok_z18 (a0 : (List NodeS)) (a1 : Int) : Bool := (Q_z18 a0 a1).isSome
noncomputable def q_z18 (a0 : (List NodeS)) (a1 : Int) : RS ro_z18 rh_z18 := RS.get (Q_z18 a0 a1)
/-! z19: graph_refs -/
abbrev ro_z19 : List EK := [.ty .bool]
abbrev rh_z19 : List HK := []
noncomputable def F_z19_2 (n : Nat) (k_r : Bool → Option Res) (k_t2 : Unit → Option Res) (x2_0 : (List NodeS)) (x2_1 : (List NodeS)) (x2_2 : Int) (x2_3 : Int) (x2_4 : Nat) (x2_5 : Int) (x2_7 : (List Int)) (rec : Int → Option Res) (x2_6 : Int) : Option Res :=
 cond (decide (x2_6 < x2_5))
 (cond (decide ((0 : Int) ≤ x2_6 ∧ x2_6 < ((x2_4 : Nat) : Int)))
 (let y2 : ((NodeS × (Bool × Unit)) × Unit) := (q_z18 x2_0 (rdd (0 : Int) x2_7 (Int.toNat x2_6)))
 cond (ok_z18 x2_0 (rdd (0 : Int) x2_7 (Int.toNat x2_6)))
 (cond (!y2.1.2.1)
 (cond ((rdd (0 : Int) x2_7 (Int.toNat x2_6)) != (0 : Int))
 (cond ((rdd (0 : Int) x2_7 (Int.toNat x2_6)) != (65535 : Int))
 (k_r false)
 (rec (IntKind.wrap .i64 (x2_6 + (1 : Int)))))
 (rec (IntKind.wrap .i64 (x2_6 + (1 : Int)))))
 (rec (IntKind.wrap .i64 (x2_6 + (1 : Int)))))
 (none))
 (none))
 (k_t2 ())
noncomputable def L_z19_2 (n : Nat) (k_r : Bool → Option Res) (k_t2 : Unit → Option Res) (x2_0 : (List NodeS)) (x2_1 : (List NodeS)) (x2_2 : Int) (x2_3 : Int) (x2_4 : Nat) (x2_5 : Int) (x2_7 : (List Int)) : Nat → Int → Option Res
  | 0, _ => none
  | m + 1, x2_6 => F_z19_2 n k_r k_t2 x2_0 x2_1 x2_2 x2_3 x2_4 x2_5 x2_7 (L_z19_2 n k_r k_t2 x2_0 x2_1 x2_2 x2_3 x2_4 x2_5 x2_7 m) x2_6
noncomputable def F_z19_0 (n : Nat) (k_r : Bool → Option Res) (k_t0 : Unit → Option Res) (x0_0 : (List NodeS)) (x0_1 : (List NodeS)) (x0_2 : Int) (rec : Int → Option Res) (x0_3 : Int) : Option Res :=
 cond (decide (x0_3 < x0_2))
 (cond (decide ((0 : Int) ≤ x0_3 ∧ x0_3 < (((List.length x0_1) : Nat) : Int)))
 (let y1 : ((Nat × Unit) × ((List Int) × Unit)) := (q_z17 (rdd zNodeS x0_1 (Int.toNat x0_3)))
 cond (ok_z17 (rdd zNodeS x0_1 (Int.toNat x0_3)))
 (L_z19_2 n
  (fun y3 => k_r y3)
  (fun _ => rec (IntKind.wrap .i64 (x0_3 + (1 : Int))))
  x0_0
  x0_1
  x0_2
  x0_3
  y1.1.1
  ((y1.1.1 : Nat) : Int)
  y1.2.1
  n
  (0 : Int))
 (none))
 (none))
 (k_t0 ())
noncomputable def L_z19_0 (n : Nat) (k_r : Bool → Option Res) (k_t0 : Unit → Option Res) (x0_0 : (List NodeS)) (x0_1 : (List NodeS)) (x0_2 : Int) : Nat → Int → Option Res
  | 0, _ => none
  | m + 1, x0_3 => F_z19_0 n k_r k_t0 x0_0 x0_1 x0_2 (L_z19_0 n k_r k_t0 x0_0 x0_1 x0_2 m) x0_3
noncomputable def M_z19 (n : Nat) (a0 : (List NodeS)) : Option Res :=
 L_z19_0 n
  (fun y4 => some (encRes ro_z19 rh_z19 ((y4, ()), ())))
  (fun _ => some (encRes ro_z19 rh_z19 ((true, ()), ())))
  a0
  a0
  (((List.length a0) : Nat) : Int)
  n
  (0 : Int)
noncomputable def Q_z19 (a0 : (List NodeS)) : Option (RS ro_z19 rh_z19) := decRes ro_z19 rh_z19 (M_z19 FUEL a0)
noncomputable def ok_z19 (a0 : (List NodeS)) : Bool := (Q_z19 a0).isSome
noncomputable def q_z19 (a0 : (List NodeS)) : RS ro_z19 rh_z19 := RS.get (Q_z19 a0)
/-! z1a: graph_longest_walk -/
abbrev ro_z1a : List EK := [.ty (.int .i64)]
abbrev rh_z1a : List HK := [.one true [.ty (.slice NodeT)], .one false [.mp 2], .mf (.int .i64) (.int .i64), .one true [.ty .bool], .one false [.mp 5], .mf (.int .i64) (.int .i64), .one false [.fn 106 [(0, 0, 0), (1, 0, 0), (3, 0, 0), (4, 0, 0), (6, 0, 0)]]]
noncomputable def F_z1a_1 (n : Nat) (qr_z1a : Int → (List NodeS) → (Int → Option (Int)) → Bool → (Int → Option (Int)) → Option (RS ro_z1a rh_z1a)) (k_t1 : Int → (List NodeS) → (Int → Option (Int)) → Bool → (Int → Option (Int)) → Option Res) (x1_0 : Int) (x1_2 : Nat) (x1_3 : Int) (x1_9 : (List Int)) (rec : Int → Int → (List NodeS) → (Int → Option (Int)) → Bool → (Int → Option (Int)) → Option Res) (x1_1 : Int) (x1_4 : Int) (x1_5 : (List NodeS)) (x1_6 : (Int → Option (Int))) (x1_7 : Bool) (x1_8 : (Int → Option (Int))) : Option Res :=
 cond (decide (x1_4 < x1_3))
 (cond (decide ((0 : Int) ≤ x1_4 ∧ x1_4 < ((x1_2 : Nat) : Int)))
 (let y3 : ((Int × Unit) × (((List NodeS) × Unit) × ((Unit × Unit) × ((Int → Option (Int)) × ((Bool × Unit) × ((Unit × Unit) × ((Int → Option (Int)) × ((Unit × Unit) × Unit)))))))) := (RS.get (qr_z1a (rdd (0 : Int) x1_9 (Int.toNat x1_4)) x1_5 x1_6 x1_7 x1_8))
 cond (Option.isSome (qr_z1a (rdd (0 : Int) x1_9 (Int.toNat x1_4)) x1_5 x1_6 x1_7 x1_8))
 (rec (if y3.1.1 > x1_1 then y3.1.1 else x1_1) (IntKind.wrap .i64 (x1_4 + (1 : Int))) y3.2.1.1 y3.2.2.2.1 y3.2.2.2.2.1.1 y3.2.2.2.2.2.2.1)
 (none))
 (none))
 (k_t1 x1_1 x1_5 x1_6 x1_7 x1_8)
noncomputable def L_z1a_1 (n : Nat) (qr_z1a : Int → (List NodeS) → (Int → Option (Int)) → Bool → (Int → Option (Int)) → Option (RS ro_z1a rh_z1a)) (k_t1 : Int → (List NodeS) → (Int → Option (Int)) → Bool → (Int → Option (Int)) → Option Res) (x1_0 : Int) (x1_2 : Nat) (x1_3 : Int) (x1_9 : (List Int)) : Nat → Int → Int → (List NodeS) → (Int → Option (Int)) → Bool → (Int → Option (Int)) → Option Res
  | 0, _, _, _, _, _, _ => none
  | m + 1, x1_1, x1_4, x1_5, x1_6, x1_7, x1_8 => F_z1a_1 n qr_z1a k_t1 x1_0 x1_2 x1_3 x1_9 (L_z1a_1 n qr_z1a k_t1 x1_0 x1_2 x1_3 x1_9 m) x1_1 x1_4 x1_5 x1_6 x1_7 x1_8
noncomputable def M_z1a (n : Nat) (qr_z1a : Int → (List NodeS) → (Int → Option (Int)) → Bool → (Int → Option (Int)) → Option (RS ro_z1a rh_z1a)) (a0 : Int) (a1 : (List NodeS)) (a2 : (Int → Option (Int))) (a3 : Bool) (a4 : (Int → Option (Int))) : Option Res :=
 let y1 : ((NodeS × (Bool × Unit)) × Unit) := (q_z18 a1 a0)
 cond (ok_z18 a1 a0)
 (cond (!y1.1.2.1)
 (some (encRes ro_z1a rh_z1a (((0 : Int), ()), ((a1, ()), (((), ()), (a2, ((a3, ()), (((), ()), (a4, (((), ()), ()))))))))))
 (cond (decide ((Option.getD (a2 a0) (0 : Int)) > (0 : Int)))
 (some (encRes ro_z1a rh_z1a (((0 : Int), ()), ((a1, ()), (((), ()), (a2, ((false, ()), (((), ()), (a4, (((), ()), ()))))))))))
 (cond (decide ((Option.getD (a4 a0) (0 : Int)) > (0 : Int)))
 (some (encRes ro_z1a rh_z1a (((Option.getD (a4 a0) (0 : Int)), ()), ((a1, ()), (((), ()), (a2, ((a3, ()), (((), ()), (a4, (((), ()), ()))))))))))
 (let y2 : ((Nat × Unit) × ((List Int) × Unit)) := (q_z17 y1.1.1)
 cond (ok_z17 y1.1.1)
 (L_z1a_1 n qr_z1a
  (fun y4 y5 y6 y7 y8 => some (encRes ro_z1a rh_z1a (((IntKind.wrap .i64 (y4 + (1 : Int))), ()), ((y5, ()), (((), ()), ((fun i => cond (decide (i = a0)) (some (IntKind.wrap .i64 ((Option.getD (y6 a0) (0 : Int)) - (1 : Int)))) (y6 i)), ((y7, ()), (((), ()), ((fun i => cond (decide (i = a0)) (some (IntKind.wrap .i64 (y4 + (1 : Int)))) (y8 i)), (((), ()), ()))))))))))
  a0
  y2.1.1
  ((y2.1.1 : Nat) : Int)
  y2.2.1
  n
  (0 : Int)
  (0 : Int)
  a1
  (fun i => cond (decide (i = a0)) (some (IntKind.wrap .i64 ((Option.getD (a2 a0) (0 : Int)) + (1 : Int)))) (a2 i))
  a3
  a4)
 (none)))))
 (none)
noncomputable def Qd_z1a : Nat → Int → (List NodeS) → (Int → Option (Int)) → Bool → (Int → Option (Int)) → Option (RS ro_z1a rh_z1a)
  | 0, _, _, _, _, _ => none
  | dp + 1, a0, a1, a2, a3, a4 => decRes ro_z1a rh_z1a (M_z1a FUEL (Qd_z1a dp) a0 a1 a2 a3 a4)
noncomputable def Q_z1a (a0 : Int) (a1 : (List NodeS)) (a2 : (Int → Option (Int))) (a3 : Bool) (a4 : (Int → Option (Int))) : Option (RS ro_z1a rh_z1a) := Qd_z1a FUEL a0 a1 a2 a3 a4
noncomputable def ok_z1a (a0 : Int) (a1 : (List NodeS)) (a2 : (Int → Option (Int))) (a3 : Bool) (a4 : (Int → Option (Int))) : Bool := (Q_z1a a0 a1 a2 a3 a4).isSome
noncomputable def q_z1a (a0 : Int) (a1 : (List NodeS)) (a2 : (Int → Option (Int))) (a3 : Bool) (a4 : (Int → Option (Int))) : RS ro_z1a rh_z1a := RS.get (Q_z1a a0 a1 a2 a3 a4)
/-! z1b: graph_longest -/
abbrev ro_z1b : List EK := [.fn 106 [(0, 0, 0), (1, 0, 0), (3, 0, 0), (4, 0, 0), (6, 0, 0)], .ty .bool]
abbrev rh_z1b : List HK := [.one true [.ty (.slice NodeT)], .one false [.mp 2], .mf (.int .i64) (.int .i64), .one true [.ty .bool], .one false [.mp 5], .mf (.int .i64) (.int .i64), .one false [.fn 106 [(0, 0, 0), (1, 0, 0), (3, 0, 0), (4, 0, 0), (6, 0, 0)]]]
noncomputable def F_z1b_0 (n : Nat) (k_t0 : Bool → (List NodeS) → (Int → Option (Int)) → (Int → Option (Int)) → Option Res) (x0_0 : (List NodeS)) (x0_1 : Int) (rec : Int → Bool → (List NodeS) → (Int → Option (Int)) → (Int → Option (Int)) → Option Res) (x0_2 : Int) (x0_3 : Bool) (x0_4 : (List NodeS)) (x0_5 : (Int → Option (Int))) (x0_6 : (Int → Option (Int))) : Option Res :=
 cond (decide (x0_2 < x0_1))
 (cond (decide ((0 : Int) ≤ x0_2 ∧ x0_2 < (((List.length x0_0) : Nat) : Int)))
 (let y1 : ((Int × Unit) × (((List NodeS) × Unit) × ((Unit × Unit) × ((Int → Option (Int)) × ((Bool × Unit) × ((Unit × Unit) × ((Int → Option (Int)) × ((Unit × Unit) × Unit)))))))) := (q_z1a ((rdd zNodeS x0_0 (Int.toNat x0_2)).1) x0_4 x0_5 x0_3 x0_6)
 cond (ok_z1a ((rdd zNodeS x0_0 (Int.toNat x0_2)).1) x0_4 x0_5 x0_3 x0_6)
 (rec (IntKind.wrap .i64 (x0_2 + (1 : Int))) y1.2.2.2.2.1.1 y1.2.1.1 y1.2.2.2.1 y1.2.2.2.2.2.2.1)
 (none))
 (none))
 (k_t0 x0_3 x0_4 x0_5 x0_6)
noncomputable def L_z1b_0 (n : Nat) (k_t0 : Bool → (List NodeS) → (Int → Option (Int)) → (Int → Option (Int)) → Option Res) (x0_0 : (List NodeS)) (x0_1 : Int) : Nat → Int → Bool → (List NodeS) → (Int → Option (Int)) → (Int → Option (Int)) → Option Res
  | 0, _, _, _, _, _ => none
  | m + 1, x0_2, x0_3, x0_4, x0_5, x0_6 => F_z1b_0 n k_t0 x0_0 x0_1 (L_z1b_0 n k_t0 x0_0 x0_1 m) x0_2 x0_3 x0_4 x0_5 x0_6
noncomputable def M_z1b (n : Nat) (a0 : (List NodeS)) : Option Res :=
 L_z1b_0 n
  (fun y2 y3 y4 y5 => some (encRes ro_z1b rh_z1b (((), (y2, ())), ((y3, ()), (((), ()), (y4, ((y2, ()), (((), ()), (y5, (((), ()), ()))))))))))
  a0
  (((List.length a0) : Nat) : Int)
  n
  (0 : Int)
  true
  a0
  (fun _ => none)
  (fun _ => none)
noncomputable def Q_z1b (a0 : (List NodeS)) : Option (RS ro_z1b rh_z1b) := decRes ro_z1b rh_z1b (M_z1b FUEL a0)
noncomputable def ok_z1b (a0 : (List NodeS)) : Bool := (Q_z1b a0).isSome
noncomputable def q_z1b (a0 : (List NodeS)) : RS ro_z1b rh_z1b := RS.get (Q_z1b a0)
/-! z1c: graph_May -/
abbrev ro_z1c : List EK := [.ty (.int .i64)]
abbrev rh_z1c : List HK := []
noncomputable def M_z1c (n : Nat) (a0 : (List NodeS)) : Option Res :=
 let y1 : ((Bool × Unit) × Unit) := (q_z16 a0)
 cond (ok_z16 a0)
 (cond (!y1.1.1)
 (some (encRes ro_z1c rh_z1c (((3 : Int), ()), ())))
 (cond (decide ((((List.length a0) : Nat) : Int) > (32 : Int)))
 (some (encRes ro_z1c rh_z1c (((12 : Int), ()), ())))
 (let y2 : ((Bool × Unit) × Unit) := (q_z19 a0)
 cond (ok_z19 a0)
 (cond (!y2.1.1)
 (some (encRes ro_z1c rh_z1c (((8 : Int), ()), ())))
 (let y3 : ((Unit × (Bool × Unit)) × (((List NodeS) × Unit) × ((Unit × Unit) × ((Int → Option (Int)) × ((Bool × Unit) × ((Unit × Unit) × ((Int → Option (Int)) × ((Unit × Unit) × Unit)))))))) := (q_z1b a0)
 cond (ok_z1b a0)
 (cond (!y3.1.2.1)
 (some (encRes ro_z1c rh_z1c (((10 : Int), ()), ())))
 (some (encRes ro_z1c rh_z1c (((0 : Int), ()), ()))))
 (none)))
 (none))))
 (none)
noncomputable def Q_z1c (a0 : (List NodeS)) : Option (RS ro_z1c rh_z1c) := decRes ro_z1c rh_z1c (M_z1c FUEL a0)
noncomputable def ok_z1c (a0 : (List NodeS)) : Bool := (Q_z1c a0).isSome
noncomputable def q_z1c (a0 : (List NodeS)) : RS ro_z1c rh_z1c := RS.get (Q_z1c a0)
/-! z1d: walk_steps -/
abbrev ro_z1d : List EK := [.fn 95 [(0, 0, 0), (1, 0, 0)]]
abbrev rh_z1d : List HK := [.one true [.ty (.slice NodeT)], .one true [.ty .str]]
noncomputable def M_z1d (n : Nat) (a0 : (List NodeS)) (a1 : ByteArray) : Option Res :=
 some (encRes ro_z1d rh_z1d (((), ()), ((a0, ()), ((a1, ()), ()))))
noncomputable def Q_z1d (a0 : (List NodeS)) (a1 : ByteArray) : Option (RS ro_z1d rh_z1d) := decRes ro_z1d rh_z1d (M_z1d FUEL a0 a1)
noncomputable def ok_z1d (a0 : (List NodeS)) (a1 : ByteArray) : Bool := (Q_z1d a0 a1).isSome
noncomputable def q_z1d (a0 : (List NodeS)) (a1 : ByteArray) : RS ro_z1d rh_z1d := RS.get (Q_z1d a0 a1)
/-! z1e: walk_may -/
abbrev ro_z1e : List EK := [.ty .bool]
abbrev rh_z1e : List HK := []
noncomputable def M_z1e (n : Nat) (a0 : NodeS) : Option Res :=
 cond (decide (a0.2.1 < (0 : Int)))
 (some (encRes ro_z1e rh_z1e ((false, ()), ())))
 (cond (decide (a0.2.1 > (256 : Int)))
 (some (encRes ro_z1e rh_z1e ((false, ()), ())))
 (cond (decide (a0.2.2.1 < (0 : Int)))
 (some (encRes ro_z1e rh_z1e ((false, ()), ())))
 (cond (decide (a0.2.2.1 > (2048 : Int)))
 (some (encRes ro_z1e rh_z1e ((false, ()), ())))
 (cond (decide (a0.2.2.2.1 < (0 : Int)))
 (some (encRes ro_z1e rh_z1e ((false, ()), ())))
 (cond (decide (a0.2.2.2.1 > (16 : Int)))
 (some (encRes ro_z1e rh_z1e ((false, ()), ())))
 (cond (a0.2.2.2.1 == (0 : Int))
 (cond (a0.2.2.1 == (0 : Int))
 (some (encRes ro_z1e rh_z1e (((a0.2.2.2.2.1 == (0 : Int)), ()), ())))
 (some (encRes ro_z1e rh_z1e ((false, ()), ()))))
 (cond (decide (a0.2.2.2.2.1 ≥ (1 : Int)))
 (some (encRes ro_z1e rh_z1e (((decide (a0.2.2.2.2.1 ≤ (256 : Int))), ()), ())))
 (some (encRes ro_z1e rh_z1e ((false, ()), ()))))))))))
noncomputable def Q_z1e (a0 : NodeS) : Option (RS ro_z1e rh_z1e) := decRes ro_z1e rh_z1e (M_z1e FUEL a0)
noncomputable def ok_z1e (a0 : NodeS) : Bool := (Q_z1e a0).isSome
noncomputable def q_z1e (a0 : NodeS) : RS ro_z1e rh_z1e := RS.get (Q_z1e a0)
/-! z1f: walk_number -/
abbrev ro_z1f : List EK := [.ty (.int .i64), .ty .bool]
abbrev rh_z1f : List HK := []
noncomputable def M_z1f (n : Nat) (a0 : ByteArray) (a1 : Int) (a2 : Int) (a3 : Int) : Option Res :=
 cond (decide (a1 < (0 : Int)))
 (some (encRes ro_z1f rh_z1f (((0 : Int), (false, ())), ())))
 (cond (decide (a1 > ((ByteArray.size a0 : Nat) : Int)))
 (some (encRes ro_z1f rh_z1f (((0 : Int), (false, ())), ())))
 (cond (decide ((0 : Int) ≤ a1 ∧ a1 ≤ ((ByteArray.size a0 : Nat) : Int) ∧ ((ByteArray.size a0 : Nat) : Int) ≤ ((ByteArray.size a0 : Nat) : Int)))
 (let y1 : ByteArray := (ByteArray.extract a0 (Int.toNat a1) (Int.toNat ((ByteArray.size a0 : Nat) : Int)))
 let y2 : ((WordS × (Int × Unit)) × Unit) := (q_z0g y1 a2 a3)
 cond (ok_z0g y1 a2 a3)
 (some (encRes ro_z1f rh_z1f (((IntKind.wrap .i64 y2.1.1.2.1), ((y2.1.2.1 == (0 : Int)), ())), ())))
 (none))
 (none)))
noncomputable def Q_z1f (a0 : ByteArray) (a1 : Int) (a2 : Int) (a3 : Int) : Option (RS ro_z1f rh_z1f) := decRes ro_z1f rh_z1f (M_z1f FUEL a0 a1 a2 a3)
noncomputable def ok_z1f (a0 : ByteArray) (a1 : Int) (a2 : Int) (a3 : Int) : Bool := (Q_z1f a0 a1 a2 a3).isSome
noncomputable def q_z1f (a0 : ByteArray) (a1 : Int) (a2 : Int) (a3 : Int) : RS ro_z1f rh_z1f := RS.get (Q_z1f a0 a1 a2 a3)
/-! z1g: walk_Size -/
abbrev ro_z1g : List EK := [.ty (.int .i64), .ty (.int .i64)]
abbrev rh_z1g : List HK := []
noncomputable def M_z1g (n : Nat) (a0 : NodeS) (a1 : ByteArray) (a2 : Int) : Option Res :=
 let y1 : ((Bool × Unit) × Unit) := (q_z1e a0)
 cond (ok_z1e a0)
 (cond (!y1.1.1)
 (some (encRes ro_z1g rh_z1g (((0 : Int), ((4 : Int), ())), ())))
 (cond (decide (a0.2.2.2.1 > (0 : Int)))
 (let y2 : ((Int × (Bool × Unit)) × Unit) := (q_z1f a1 a2 a0.2.2.1 a0.2.2.2.1)
 cond (ok_z1f a1 a2 a0.2.2.1 a0.2.2.2.1)
 (cond (!y2.1.2.1)
 (some (encRes ro_z1g rh_z1g (((0 : Int), ((1 : Int), ())), ())))
 (cond (decide ((IntKind.wrap .i64 (a0.2.1 + (IntKind.wrap .i64 (a0.2.2.2.2.1 * y2.1.1)))) > (256 : Int)))
 (some (encRes ro_z1g rh_z1g (((0 : Int), ((2 : Int), ())), ())))
 (cond (decide (a2 < (0 : Int)))
 (some (encRes ro_z1g rh_z1g (((0 : Int), ((1 : Int), ())), ())))
 (cond (decide (a2 > ((ByteArray.size a1 : Nat) : Int)))
 (some (encRes ro_z1g rh_z1g (((0 : Int), ((1 : Int), ())), ())))
 (cond (decide ((IntKind.wrap .i64 (a0.2.1 + (IntKind.wrap .i64 (a0.2.2.2.2.1 * y2.1.1)))) > (IntKind.wrap .i64 (((ByteArray.size a1 : Nat) : Int) - a2))))
 (some (encRes ro_z1g rh_z1g (((0 : Int), ((1 : Int), ())), ())))
 (some (encRes ro_z1g rh_z1g (((IntKind.wrap .i64 (a0.2.1 + (IntKind.wrap .i64 (a0.2.2.2.2.1 * y2.1.1)))), ((0 : Int), ())), ()))))))))
 (none))
 (cond (decide (a0.2.1 > (256 : Int)))
 (some (encRes ro_z1g rh_z1g (((0 : Int), ((2 : Int), ())), ())))
 (cond (decide (a2 < (0 : Int)))
 (some (encRes ro_z1g rh_z1g (((0 : Int), ((1 : Int), ())), ())))
 (cond (decide (a2 > ((ByteArray.size a1 : Nat) : Int)))
 (some (encRes ro_z1g rh_z1g (((0 : Int), ((1 : Int), ())), ())))
 (cond (decide (a0.2.1 > (IntKind.wrap .i64 (((ByteArray.size a1 : Nat) : Int) - a2))))
 (some (encRes ro_z1g rh_z1g (((0 : Int), ((1 : Int), ())), ())))
 (some (encRes ro_z1g rh_z1g ((a0.2.1, ((0 : Int), ())), ())))))))))
 (none)
noncomputable def Q_z1g (a0 : NodeS) (a1 : ByteArray) (a2 : Int) : Option (RS ro_z1g rh_z1g) := decRes ro_z1g rh_z1g (M_z1g FUEL a0 a1 a2)
noncomputable def ok_z1g (a0 : NodeS) (a1 : ByteArray) (a2 : Int) : Bool := (Q_z1g a0 a1 a2).isSome
noncomputable def q_z1g (a0 : NodeS) (a1 : ByteArray) (a2 : Int) : RS ro_z1g rh_z1g := RS.get (Q_z1g a0 a1 a2)
/-! z1h: graph_Next -/
abbrev ro_z1h : List EK := [.ty (.int .i64)]
abbrev rh_z1h : List HK := []
noncomputable def F_z1h_0 (n : Nat) (k_r : Int → Option Res) (k_t0 : Unit → Option Res) (x0_0 : Int) (x0_1 : (List ArmS)) (x0_2 : Int) (x0_4 : NodeS) (rec : Int → Option Res) (x0_3 : Int) : Option Res :=
 cond (decide (x0_3 < x0_2))
 (cond (decide ((0 : Int) ≤ x0_3 ∧ x0_3 < (((List.length x0_1) : Nat) : Int)))
 (cond ((rdd zArmS x0_1 (Int.toNat x0_3)).1 == x0_0)
 (k_r ((rdd zArmS x0_1 (Int.toNat x0_3)).2.1))
 (rec (IntKind.wrap .i64 (x0_3 + (1 : Int)))))
 (none))
 (k_t0 ())
noncomputable def L_z1h_0 (n : Nat) (k_r : Int → Option Res) (k_t0 : Unit → Option Res) (x0_0 : Int) (x0_1 : (List ArmS)) (x0_2 : Int) (x0_4 : NodeS) : Nat → Int → Option Res
  | 0, _ => none
  | m + 1, x0_3 => F_z1h_0 n k_r k_t0 x0_0 x0_1 x0_2 x0_4 (L_z1h_0 n k_r k_t0 x0_0 x0_1 x0_2 x0_4 m) x0_3
noncomputable def M_z1h (n : Nat) (a0 : (List NodeS)) (a1 : Int) (a2 : Int) : Option Res :=
 let y1 : ((NodeS × (Bool × Unit)) × Unit) := (q_z18 a0 a1)
 cond (ok_z18 a0 a1)
 (L_z1h_0 n
  (fun y2 => some (encRes ro_z1h rh_z1h ((y2, ()), ())))
  (fun _ => some (encRes ro_z1h rh_z1h ((y1.1.1.2.2.2.2.2.2.2.2.1, ()), ())))
  a2
  y1.1.1.2.2.2.2.2.2.2.1
  (((List.length y1.1.1.2.2.2.2.2.2.2.1) : Nat) : Int)
  y1.1.1
  n
  (0 : Int))
 (none)
noncomputable def Q_z1h (a0 : (List NodeS)) (a1 : Int) (a2 : Int) : Option (RS ro_z1h rh_z1h) := decRes ro_z1h rh_z1h (M_z1h FUEL a0 a1 a2)
noncomputable def ok_z1h (a0 : (List NodeS)) (a1 : Int) (a2 : Int) : Bool := (Q_z1h a0 a1 a2).isSome
noncomputable def q_z1h (a0 : (List NodeS)) (a1 : Int) (a2 : Int) : RS ro_z1h rh_z1h := RS.get (Q_z1h a0 a1 a2)
/-! z1i: walk_next -/
abbrev ro_z1i : List EK := [.ty (.int .i64), .ty (.int .i64)]
abbrev rh_z1i : List HK := []
noncomputable def M_z1i (n : Nat) (a0 : (List NodeS)) (a1 : NodeS) (a2 : ByteArray) (a3 : Int) : Option Res :=
 cond (decide (a1.2.2.2.2.2.2.1 > (0 : Int)))
 (let y1 : ((Int × (Bool × Unit)) × Unit) := (q_z1f a2 a3 a1.2.2.2.2.2.1 a1.2.2.2.2.2.2.1)
 cond (ok_z1f a2 a3 a1.2.2.2.2.2.1 a1.2.2.2.2.2.2.1)
 (cond (!y1.1.2.1)
 (some (encRes ro_z1i rh_z1i (((0 : Int), ((1 : Int), ())), ())))
 (let y2 : ((Int × Unit) × Unit) := (q_z1h a0 a1.1 (IntKind.wrap .u32 y1.1.1))
 cond (ok_z1h a0 a1.1 (IntKind.wrap .u32 y1.1.1))
 (cond (y2.1.1 == (65535 : Int))
 (some (encRes ro_z1i rh_z1i (((0 : Int), ((4 : Int), ())), ())))
 (some (encRes ro_z1i rh_z1i ((y2.1.1, ((0 : Int), ())), ()))))
 (none)))
 (none))
 (let y3 : ((Int × Unit) × Unit) := (q_z1h a0 a1.1 (IntKind.wrap .u32 (0 : Int)))
 cond (ok_z1h a0 a1.1 (IntKind.wrap .u32 (0 : Int)))
 (cond (y3.1.1 == (65535 : Int))
 (some (encRes ro_z1i rh_z1i (((0 : Int), ((4 : Int), ())), ())))
 (some (encRes ro_z1i rh_z1i ((y3.1.1, ((0 : Int), ())), ()))))
 (none))
noncomputable def Q_z1i (a0 : (List NodeS)) (a1 : NodeS) (a2 : ByteArray) (a3 : Int) : Option (RS ro_z1i rh_z1i) := decRes ro_z1i rh_z1i (M_z1i FUEL a0 a1 a2 a3)
noncomputable def ok_z1i (a0 : (List NodeS)) (a1 : NodeS) (a2 : ByteArray) (a3 : Int) : Bool := (Q_z1i a0 a1 a2 a3).isSome
noncomputable def q_z1i (a0 : (List NodeS)) (a1 : NodeS) (a2 : ByteArray) (a3 : Int) : RS ro_z1i rh_z1i := RS.get (Q_z1i a0 a1 a2 a3)
/-! z1j: walk_steps_1 -/
abbrev ro_z1j : List EK := []
abbrev rh_z1j : List HK := [.lp 0 [.junk, .junk, .junk, .junk, .junk, .junk, .junk, .ptr 1 0 0, .ptr 3 0 0, .ptr 4 0 0, .junk, .junk, .junk, .junk, .junk, .junk, .junk, .junk, .junk, .junk, .junk, .junk, .junk, .junk, .junk, .junk, .junk, .junk, .junk, .junk, .junk, .junk], .one false [.hs 7 0], .gone, .one true [.ty (.int .i64)], .one true [.ty (.int .i64)], .one true [.ty (.slice NodeT)], .one true [.ty .str], .row HeadT]
noncomputable def F_z1j_0 (n : Nat) (k_r : Nat → Int → Int → (List HeadS) → Option Res) (k_t0 : Nat → Int → Int → (List HeadS) → Option Res) (x0_5 : (List NodeS)) (x0_6 : ByteArray) (rec : Int → Bool → Nat → Int → Int → (List HeadS) → NodeS → Option Res) (x0_0 : Int) (x0_1 : Bool) (x0_2 : Nat) (x0_3 : Int) (x0_4 : Int) (x0_7 : (List HeadS)) (x0_8 : NodeS) : Option Res :=
 cond x0_1
 (let y2 : ((Int × (Int × Unit)) × Unit) := (q_z1g x0_8 x0_6 x0_0)
 cond (ok_z1g x0_8 x0_6 x0_0)
 (cond (y2.1.2.1 != (0 : Int))
 (k_r x0_2 (IntKind.wrap .i64 (x0_3 + (1 : Int))) y2.1.2.1 x0_7)
 (let y3 : ((Int × (Int × Unit)) × Unit) := (q_z1i x0_5 x0_8 x0_6 x0_0)
 cond (ok_z1i x0_5 x0_8 x0_6 x0_0)
 (cond (decide (((List.length (cutL zHeadS x0_7 0 x0_2)) + 1) * 16 ≤ 2 ^ 46 ∧ ((List.length (cutL zHeadS x0_7 0 x0_2)) + 1) ≤ 2 ^ 46))
 (cond (!true)
 (k_r ((List.length (cutL zHeadS x0_7 0 x0_2)) + 1) (IntKind.wrap .i64 (x0_3 + (1 : Int))) y3.1.2.1 ((cutL zHeadS x0_7 0 x0_2) ++ [(x0_8.1, (x0_0, ()))]))
 (cond (y3.1.2.1 != (0 : Int))
 (k_r ((List.length (cutL zHeadS x0_7 0 x0_2)) + 1) (IntKind.wrap .i64 (x0_3 + (1 : Int))) y3.1.2.1 ((cutL zHeadS x0_7 0 x0_2) ++ [(x0_8.1, (x0_0, ()))]))
 (let y4 : ((NodeS × (Bool × Unit)) × Unit) := (q_z18 x0_5 y3.1.1)
 cond (ok_z18 x0_5 y3.1.1)
 (rec (IntKind.wrap .i64 (x0_0 + y2.1.1)) y4.1.2.1 ((List.length (cutL zHeadS x0_7 0 x0_2)) + 1) (IntKind.wrap .i64 (x0_3 + (1 : Int))) y3.1.2.1 ((cutL zHeadS x0_7 0 x0_2) ++ [(x0_8.1, (x0_0, ()))]) y4.1.1)
 (none))))
 (none))
 (none)))
 (none))
 (k_t0 x0_2 x0_3 x0_4 x0_7)
noncomputable def L_z1j_0 (n : Nat) (k_r : Nat → Int → Int → (List HeadS) → Option Res) (k_t0 : Nat → Int → Int → (List HeadS) → Option Res) (x0_5 : (List NodeS)) (x0_6 : ByteArray) : Nat → Int → Bool → Nat → Int → Int → (List HeadS) → NodeS → Option Res
  | 0, _, _, _, _, _, _, _ => none
  | m + 1, x0_0, x0_1, x0_2, x0_3, x0_4, x0_7, x0_8 => F_z1j_0 n k_r k_t0 x0_5 x0_6 (L_z1j_0 n k_r k_t0 x0_5 x0_6 m) x0_0 x0_1 x0_2 x0_3 x0_4 x0_7 x0_8
noncomputable def M_z1j (n : Nat) (a0 : Nat) (a1 : (List HeadS)) (a2 : Int) (a3 : Int) (a4 : (List NodeS)) (a5 : ByteArray) : Option Res :=
 let y1 : ((NodeS × (Bool × Unit)) × Unit) := (q_z18 a4 (1 : Int))
 cond (ok_z18 a4 (1 : Int))
 (L_z1j_0 n
  (fun y5 y6 y7 y8 => some (encRes ro_z1j rh_z1j ((), (((), ((), ((), ((), ((), ((), ((), ((), ((), ((), ((), ((), ((), ((), ((), ((), ((), ((), ((), ((), ((), ((), ((), ((), ((), ((), ((), ((), ((), ((), ((), ((), ())))))))))))))))))))))))))))))))), ((y5, ()), ((), ((y6, ()), ((y7, ()), ((a4, ()), ((a5, ()), (y8, ())))))))))))
  (fun y9 y10 y11 y12 => some (encRes ro_z1j rh_z1j ((), (((), ((), ((), ((), ((), ((), ((), ((), ((), ((), ((), ((), ((), ((), ((), ((), ((), ((), ((), ((), ((), ((), ((), ((), ((), ((), ((), ((), ((), ((), ((), ((), ())))))))))))))))))))))))))))))))), ((y9, ()), ((), ((y10, ()), ((y11, ()), ((a4, ()), ((a5, ()), (y12, ())))))))))))
  a4
  a5
  n
  (0 : Int)
  y1.1.2.1
  a0
  a2
  a3
  a1
  y1.1.1)
 (none)
noncomputable def Q_z1j (a0 : Nat) (a1 : (List HeadS)) (a2 : Int) (a3 : Int) (a4 : (List NodeS)) (a5 : ByteArray) : Option (RS ro_z1j rh_z1j) := decRes ro_z1j rh_z1j (M_z1j FUEL a0 a1 a2 a3 a4 a5)
noncomputable def ok_z1j (a0 : Nat) (a1 : (List HeadS)) (a2 : Int) (a3 : Int) (a4 : (List NodeS)) (a5 : ByteArray) : Bool := (Q_z1j a0 a1 a2 a3 a4 a5).isSome
noncomputable def q_z1j (a0 : Nat) (a1 : (List HeadS)) (a2 : Int) (a3 : Int) (a4 : (List NodeS)) (a5 : ByteArray) : RS ro_z1j rh_z1j := RS.get (Q_z1j a0 a1 a2 a3 a4 a5)
/-! z1k: walk_Walk -/
abbrev ro_z1k : List EK := [.hs 0 0, .ty (.int .i64), .ty (.int .i64)]
abbrev rh_z1k : List HK := [.row HeadT]
noncomputable def M_z1k (n : Nat) (a0 : (List NodeS)) (a1 : ByteArray) : Option Res :=
 let y1 : ((Int × Unit) × Unit) := (q_z1c a0)
 cond (ok_z1c a0)
 (cond (y1.1.1 != (0 : Int))
 (some (encRes ro_z1k rh_z1k ((0, ((0 : Int), ((0 : Int), ()))), ([], ()))))
 (let y2 : ((Unit × Unit) × (((List NodeS) × Unit) × ((ByteArray × Unit) × Unit))) := (q_z1d a0 a1)
 cond (ok_z1d a0 a1)
 (let y3 : (Unit × ((Unit × (Unit × (Unit × (Unit × (Unit × (Unit × (Unit × (Unit × (Unit × (Unit × (Unit × (Unit × (Unit × (Unit × (Unit × (Unit × (Unit × (Unit × (Unit × (Unit × (Unit × (Unit × (Unit × (Unit × (Unit × (Unit × (Unit × (Unit × (Unit × (Unit × (Unit × (Unit × Unit)))))))))))))))))))))))))))))))) × ((Nat × Unit) × (Unit × ((Int × Unit) × ((Int × Unit) × (((List NodeS) × Unit) × ((ByteArray × Unit) × ((List HeadS) × Unit))))))))) := (q_z1j 0 ([]) (0 : Int) (0 : Int) y2.2.1.1 y2.2.2.1.1)
 cond (ok_z1j 0 ([]) (0 : Int) (0 : Int) y2.2.1.1 y2.2.2.1.1)
 (some (encRes ro_z1k rh_z1k ((y3.2.2.1.1, (y3.2.2.2.2.1.1, (y3.2.2.2.2.2.1.1, ()))), (y3.2.2.2.2.2.2.2.2.1, ()))))
 (none))
 (none)))
 (none)
noncomputable def Q_z1k (a0 : (List NodeS)) (a1 : ByteArray) : Option (RS ro_z1k rh_z1k) := decRes ro_z1k rh_z1k (M_z1k FUEL a0 a1)
noncomputable def ok_z1k (a0 : (List NodeS)) (a1 : ByteArray) : Bool := (Q_z1k a0 a1).isSome
noncomputable def q_z1k (a0 : (List NodeS)) (a1 : ByteArray) : RS ro_z1k rh_z1k := RS.get (Q_z1k a0 a1)
/-! z1l: pack_Packet_Walkx81b -/
abbrev ro_z1l : List EK := [.ty (.int .i64), .ty (.int .i64)]
abbrev rh_z1l : List HK := [.one false [.ptr 1 0 0, .hs 5 0, .ptr 3 0 0, .ty (.int .i64)], .one false [.hs 2 0], .row (.int .u8), .one false [.hs 4 0], .row (.int .u8), .row HeadT]
noncomputable def M_z1l (n : Nat) (a0 : (List NodeS)) (a1 : Int) (a2 : Nat) (a3 : (List Int)) (a4 : Nat) (a5 : (List Int)) : Option Res :=
 let y1 : ((ByteArray × Unit) × ((Unit × (Unit × (Unit × (Int × Unit)))) × ((Nat × Unit) × ((List Int) × ((Nat × Unit) × ((List Int) × Unit)))))) := (q_z11 a1 a2 a3 a4 a5)
 cond (ok_z11 a1 a2 a3 a4 a5)
 (let y2 : ((Nat × (Int × (Int × Unit))) × ((List HeadS) × Unit)) := (q_z1k a0 y1.1.1)
 cond (ok_z1k a0 y1.1.1)
 (some (encRes ro_z1l rh_z1l ((y2.1.2.1, (y2.1.2.2.1, ())), (((), (y2.1.1, ((), (y1.2.1.2.2.2.1, ())))), ((y1.2.2.1.1, ()), (y1.2.2.2.1, ((y1.2.2.2.2.1.1, ()), (y1.2.2.2.2.2.1, (y2.2.1, ())))))))))
 (none))
 (none)
noncomputable def Q_z1l (a0 : (List NodeS)) (a1 : Int) (a2 : Nat) (a3 : (List Int)) (a4 : Nat) (a5 : (List Int)) : Option (RS ro_z1l rh_z1l) := decRes ro_z1l rh_z1l (M_z1l FUEL a0 a1 a2 a3 a4 a5)
noncomputable def ok_z1l (a0 : (List NodeS)) (a1 : Int) (a2 : Nat) (a3 : (List Int)) (a4 : Nat) (a5 : (List Int)) : Bool := (Q_z1l a0 a1 a2 a3 a4 a5).isSome
noncomputable def q_z1l (a0 : (List NodeS)) (a1 : Int) (a2 : Nat) (a3 : (List Int)) (a4 : Nat) (a5 : (List Int)) : RS ro_z1l rh_z1l := RS.get (Q_z1l a0 a1 a2 a3 a4 a5)
/-! z1m: turnoutref15_Form -/
abbrev ro_z1m : List EK := [.ty .bool]
abbrev rh_z1m : List HK := []
noncomputable def F_z1m_0 (n : Nat) (k_t0 : Int → Option Res) (x0_2 : NodeS) (rec : Int → Int → Option Res) (x0_0 : Int) (x0_1 : Int) : Option Res :=
 cond (decide (x0_1 < x0_2.2.2.2.2.2.2.1))
 (rec (IntKind.wrap .u64 (x0_0 * (2 : Int))) (IntKind.wrap .i64 (x0_1 + (1 : Int))))
 (k_t0 x0_0)
noncomputable def L_z1m_0 (n : Nat) (k_t0 : Int → Option Res) (x0_2 : NodeS) : Nat → Int → Int → Option Res
  | 0, _, _ => none
  | m + 1, x0_0, x0_1 => F_z1m_0 n k_t0 x0_2 (L_z1m_0 n k_t0 x0_2 m) x0_0 x0_1
noncomputable def F_z1m_2 (n : Nat) (k_r : Bool → Option Res) (k_t2 : Unit → Option Res) (x2_0 : Int) (x2_2 : NodeS) (rec : Int → Option Res) (x2_1 : Int) : Option Res :=
 cond (decide (x2_1 < (((List.length x2_2.2.2.2.2.2.2.2.1) : Nat) : Int)))
 (cond (decide ((0 : Int) ≤ x2_1 ∧ x2_1 < (((List.length x2_2.2.2.2.2.2.2.2.1) : Nat) : Int)))
 (cond (decide ((IntKind.wrap .u64 (rdd zArmS x2_2.2.2.2.2.2.2.2.1 (Int.toNat x2_1)).1) ≥ x2_0))
 (k_r false)
 (cond (decide (x2_1 > (0 : Int)))
 (cond (decide ((0 : Int) ≤ (IntKind.wrap .i64 (x2_1 - (1 : Int))) ∧ (IntKind.wrap .i64 (x2_1 - (1 : Int))) < (((List.length x2_2.2.2.2.2.2.2.2.1) : Nat) : Int)))
 (cond (decide ((rdd zArmS x2_2.2.2.2.2.2.2.2.1 (Int.toNat x2_1)).1 ≤ (rdd zArmS x2_2.2.2.2.2.2.2.2.1 (Int.toNat (IntKind.wrap .i64 (x2_1 - (1 : Int))))).1))
 (k_r false)
 (cond (decide ((rdd zArmS x2_2.2.2.2.2.2.2.2.1 (Int.toNat x2_1)).2.1 < (0 : Int)))
 (k_r false)
 (cond (decide ((rdd zArmS x2_2.2.2.2.2.2.2.2.1 (Int.toNat x2_1)).2.1 > (65535 : Int)))
 (k_r false)
 (rec (IntKind.wrap .i64 (x2_1 + (1 : Int)))))))
 (none))
 (cond (decide ((rdd zArmS x2_2.2.2.2.2.2.2.2.1 (Int.toNat x2_1)).2.1 < (0 : Int)))
 (k_r false)
 (cond (decide ((rdd zArmS x2_2.2.2.2.2.2.2.2.1 (Int.toNat x2_1)).2.1 > (65535 : Int)))
 (k_r false)
 (rec (IntKind.wrap .i64 (x2_1 + (1 : Int))))))))
 (none))
 (k_t2 ())
noncomputable def L_z1m_2 (n : Nat) (k_r : Bool → Option Res) (k_t2 : Unit → Option Res) (x2_0 : Int) (x2_2 : NodeS) : Nat → Int → Option Res
  | 0, _ => none
  | m + 1, x2_1 => F_z1m_2 n k_r k_t2 x2_0 x2_2 (L_z1m_2 n k_r k_t2 x2_0 x2_2 m) x2_1
noncomputable def M_z1m (n : Nat) (a0 : NodeS) : Option Res :=
 cond (decide (a0.1 < (1 : Int)))
 (some (encRes ro_z1m rh_z1m ((false, ()), ())))
 (cond (decide (a0.1 > (65534 : Int)))
 (some (encRes ro_z1m rh_z1m ((false, ()), ())))
 (cond (decide (a0.2.1 < (0 : Int)))
 (some (encRes ro_z1m rh_z1m ((false, ()), ())))
 (cond (decide (a0.2.1 > (256 : Int)))
 (some (encRes ro_z1m rh_z1m ((false, ()), ())))
 (cond (decide (a0.2.2.2.2.2.2.2.2.1 < (0 : Int)))
 (some (encRes ro_z1m rh_z1m ((false, ()), ())))
 (cond (decide (a0.2.2.2.2.2.2.2.2.1 > (65535 : Int)))
 (some (encRes ro_z1m rh_z1m ((false, ()), ())))
 (cond (a0.2.2.2.1 == (0 : Int))
 (cond (a0.2.2.1 != (0 : Int))
 (some (encRes ro_z1m rh_z1m ((false, ()), ())))
 (cond (a0.2.2.2.2.1 != (0 : Int))
 (some (encRes ro_z1m rh_z1m ((false, ()), ())))
 (cond (a0.2.2.2.1 != (0 : Int))
 (cond (decide (a0.2.2.2.1 < (1 : Int)))
 (some (encRes ro_z1m rh_z1m ((false, ()), ())))
 (cond (decide (a0.2.2.2.1 > (16 : Int)))
 (some (encRes ro_z1m rh_z1m ((false, ()), ())))
 (cond (decide (a0.2.2.2.2.1 < (1 : Int)))
 (some (encRes ro_z1m rh_z1m ((false, ()), ())))
 (cond (decide (a0.2.2.2.2.1 > (256 : Int)))
 (some (encRes ro_z1m rh_z1m ((false, ()), ())))
 (cond (decide (a0.2.2.1 < (0 : Int)))
 (some (encRes ro_z1m rh_z1m ((false, ()), ())))
 (cond (decide (a0.2.2.1 > (2048 : Int)))
 (some (encRes ro_z1m rh_z1m ((false, ()), ())))
 (cond (a0.2.2.2.2.2.2.1 == (0 : Int))
 (cond (a0.2.2.2.2.2.1 != (0 : Int))
 (some (encRes ro_z1m rh_z1m ((false, ()), ())))
 (cond (decide ((((List.length a0.2.2.2.2.2.2.2.1) : Nat) : Int) > (0 : Int)))
 (some (encRes ro_z1m rh_z1m ((false, ()), ())))
 (cond (a0.2.2.2.2.2.2.1 != (0 : Int))
 (cond (decide (a0.2.2.2.2.2.2.1 < (1 : Int)))
 (some (encRes ro_z1m rh_z1m ((false, ()), ())))
 (cond (decide (a0.2.2.2.2.2.2.1 > (32 : Int)))
 (some (encRes ro_z1m rh_z1m ((false, ()), ())))
 (cond (decide (a0.2.2.2.2.2.1 < (0 : Int)))
 (some (encRes ro_z1m rh_z1m ((false, ()), ())))
 (cond (decide (a0.2.2.2.2.2.1 > (2048 : Int)))
 (some (encRes ro_z1m rh_z1m ((false, ()), ())))
 (cond (decide ((((List.length a0.2.2.2.2.2.2.2.1) : Nat) : Int) > (32 : Int)))
 (some (encRes ro_z1m rh_z1m ((false, ()), ())))
 (L_z1m_0 n
  (fun y1 => L_z1m_2 n
  (fun y2 => some (encRes ro_z1m rh_z1m ((y2, ()), ())))
  (fun _ => some (encRes ro_z1m rh_z1m ((true, ()), ())))
  y1
  a0
  n
  (0 : Int))
  a0
  n
  (1 : Int)
  (0 : Int)))))))
 (cond (decide ((((List.length a0.2.2.2.2.2.2.2.1) : Nat) : Int) > (32 : Int)))
 (some (encRes ro_z1m rh_z1m ((false, ()), ())))
 (L_z1m_0 n
  (fun y3 => L_z1m_2 n
  (fun y4 => some (encRes ro_z1m rh_z1m ((y4, ()), ())))
  (fun _ => some (encRes ro_z1m rh_z1m ((true, ()), ())))
  y3
  a0
  n
  (0 : Int))
  a0
  n
  (1 : Int)
  (0 : Int))))))
 (cond (a0.2.2.2.2.2.2.1 != (0 : Int))
 (cond (decide (a0.2.2.2.2.2.2.1 < (1 : Int)))
 (some (encRes ro_z1m rh_z1m ((false, ()), ())))
 (cond (decide (a0.2.2.2.2.2.2.1 > (32 : Int)))
 (some (encRes ro_z1m rh_z1m ((false, ()), ())))
 (cond (decide (a0.2.2.2.2.2.1 < (0 : Int)))
 (some (encRes ro_z1m rh_z1m ((false, ()), ())))
 (cond (decide (a0.2.2.2.2.2.1 > (2048 : Int)))
 (some (encRes ro_z1m rh_z1m ((false, ()), ())))
 (cond (decide ((((List.length a0.2.2.2.2.2.2.2.1) : Nat) : Int) > (32 : Int)))
 (some (encRes ro_z1m rh_z1m ((false, ()), ())))
 (L_z1m_0 n
  (fun y5 => L_z1m_2 n
  (fun y6 => some (encRes ro_z1m rh_z1m ((y6, ()), ())))
  (fun _ => some (encRes ro_z1m rh_z1m ((true, ()), ())))
  y5
  a0
  n
  (0 : Int))
  a0
  n
  (1 : Int)
  (0 : Int)))))))
 (cond (decide ((((List.length a0.2.2.2.2.2.2.2.1) : Nat) : Int) > (32 : Int)))
 (some (encRes ro_z1m rh_z1m ((false, ()), ())))
 (L_z1m_0 n
  (fun y7 => L_z1m_2 n
  (fun y8 => some (encRes ro_z1m rh_z1m ((y8, ()), ())))
  (fun _ => some (encRes ro_z1m rh_z1m ((true, ()), ())))
  y7
  a0
  n
  (0 : Int))
  a0
  n
  (1 : Int)
  (0 : Int)))))))))))
 (cond (a0.2.2.2.2.2.2.1 == (0 : Int))
 (cond (a0.2.2.2.2.2.1 != (0 : Int))
 (some (encRes ro_z1m rh_z1m ((false, ()), ())))
 (cond (decide ((((List.length a0.2.2.2.2.2.2.2.1) : Nat) : Int) > (0 : Int)))
 (some (encRes ro_z1m rh_z1m ((false, ()), ())))
 (cond (a0.2.2.2.2.2.2.1 != (0 : Int))
 (cond (decide (a0.2.2.2.2.2.2.1 < (1 : Int)))
 (some (encRes ro_z1m rh_z1m ((false, ()), ())))
 (cond (decide (a0.2.2.2.2.2.2.1 > (32 : Int)))
 (some (encRes ro_z1m rh_z1m ((false, ()), ())))
 (cond (decide (a0.2.2.2.2.2.1 < (0 : Int)))
 (some (encRes ro_z1m rh_z1m ((false, ()), ())))
 (cond (decide (a0.2.2.2.2.2.1 > (2048 : Int)))
 (some (encRes ro_z1m rh_z1m ((false, ()), ())))
 (cond (decide ((((List.length a0.2.2.2.2.2.2.2.1) : Nat) : Int) > (32 : Int)))
 (some (encRes ro_z1m rh_z1m ((false, ()), ())))
 (L_z1m_0 n
  (fun y9 => L_z1m_2 n
  (fun y10 => some (encRes ro_z1m rh_z1m ((y10, ()), ())))
  (fun _ => some (encRes ro_z1m rh_z1m ((true, ()), ())))
  y9
  a0
  n
  (0 : Int))
  a0
  n
  (1 : Int)
  (0 : Int)))))))
 (cond (decide ((((List.length a0.2.2.2.2.2.2.2.1) : Nat) : Int) > (32 : Int)))
 (some (encRes ro_z1m rh_z1m ((false, ()), ())))
 (L_z1m_0 n
  (fun y11 => L_z1m_2 n
  (fun y12 => some (encRes ro_z1m rh_z1m ((y12, ()), ())))
  (fun _ => some (encRes ro_z1m rh_z1m ((true, ()), ())))
  y11
  a0
  n
  (0 : Int))
  a0
  n
  (1 : Int)
  (0 : Int))))))
 (cond (a0.2.2.2.2.2.2.1 != (0 : Int))
 (cond (decide (a0.2.2.2.2.2.2.1 < (1 : Int)))
 (some (encRes ro_z1m rh_z1m ((false, ()), ())))
 (cond (decide (a0.2.2.2.2.2.2.1 > (32 : Int)))
 (some (encRes ro_z1m rh_z1m ((false, ()), ())))
 (cond (decide (a0.2.2.2.2.2.1 < (0 : Int)))
 (some (encRes ro_z1m rh_z1m ((false, ()), ())))
 (cond (decide (a0.2.2.2.2.2.1 > (2048 : Int)))
 (some (encRes ro_z1m rh_z1m ((false, ()), ())))
 (cond (decide ((((List.length a0.2.2.2.2.2.2.2.1) : Nat) : Int) > (32 : Int)))
 (some (encRes ro_z1m rh_z1m ((false, ()), ())))
 (L_z1m_0 n
  (fun y13 => L_z1m_2 n
  (fun y14 => some (encRes ro_z1m rh_z1m ((y14, ()), ())))
  (fun _ => some (encRes ro_z1m rh_z1m ((true, ()), ())))
  y13
  a0
  n
  (0 : Int))
  a0
  n
  (1 : Int)
  (0 : Int)))))))
 (cond (decide ((((List.length a0.2.2.2.2.2.2.2.1) : Nat) : Int) > (32 : Int)))
 (some (encRes ro_z1m rh_z1m ((false, ()), ())))
 (L_z1m_0 n
  (fun y15 => L_z1m_2 n
  (fun y16 => some (encRes ro_z1m rh_z1m ((y16, ()), ())))
  (fun _ => some (encRes ro_z1m rh_z1m ((true, ()), ())))
  y15
  a0
  n
  (0 : Int))
  a0
  n
  (1 : Int)
  (0 : Int))))))))
 (cond (a0.2.2.2.1 != (0 : Int))
 (cond (decide (a0.2.2.2.1 < (1 : Int)))
 (some (encRes ro_z1m rh_z1m ((false, ()), ())))
 (cond (decide (a0.2.2.2.1 > (16 : Int)))
 (some (encRes ro_z1m rh_z1m ((false, ()), ())))
 (cond (decide (a0.2.2.2.2.1 < (1 : Int)))
 (some (encRes ro_z1m rh_z1m ((false, ()), ())))
 (cond (decide (a0.2.2.2.2.1 > (256 : Int)))
 (some (encRes ro_z1m rh_z1m ((false, ()), ())))
 (cond (decide (a0.2.2.1 < (0 : Int)))
 (some (encRes ro_z1m rh_z1m ((false, ()), ())))
 (cond (decide (a0.2.2.1 > (2048 : Int)))
 (some (encRes ro_z1m rh_z1m ((false, ()), ())))
 (cond (a0.2.2.2.2.2.2.1 == (0 : Int))
 (cond (a0.2.2.2.2.2.1 != (0 : Int))
 (some (encRes ro_z1m rh_z1m ((false, ()), ())))
 (cond (decide ((((List.length a0.2.2.2.2.2.2.2.1) : Nat) : Int) > (0 : Int)))
 (some (encRes ro_z1m rh_z1m ((false, ()), ())))
 (cond (a0.2.2.2.2.2.2.1 != (0 : Int))
 (cond (decide (a0.2.2.2.2.2.2.1 < (1 : Int)))
 (some (encRes ro_z1m rh_z1m ((false, ()), ())))
 (cond (decide (a0.2.2.2.2.2.2.1 > (32 : Int)))
 (some (encRes ro_z1m rh_z1m ((false, ()), ())))
 (cond (decide (a0.2.2.2.2.2.1 < (0 : Int)))
 (some (encRes ro_z1m rh_z1m ((false, ()), ())))
 (cond (decide (a0.2.2.2.2.2.1 > (2048 : Int)))
 (some (encRes ro_z1m rh_z1m ((false, ()), ())))
 (cond (decide ((((List.length a0.2.2.2.2.2.2.2.1) : Nat) : Int) > (32 : Int)))
 (some (encRes ro_z1m rh_z1m ((false, ()), ())))
 (L_z1m_0 n
  (fun y17 => L_z1m_2 n
  (fun y18 => some (encRes ro_z1m rh_z1m ((y18, ()), ())))
  (fun _ => some (encRes ro_z1m rh_z1m ((true, ()), ())))
  y17
  a0
  n
  (0 : Int))
  a0
  n
  (1 : Int)
  (0 : Int)))))))
 (cond (decide ((((List.length a0.2.2.2.2.2.2.2.1) : Nat) : Int) > (32 : Int)))
 (some (encRes ro_z1m rh_z1m ((false, ()), ())))
 (L_z1m_0 n
  (fun y19 => L_z1m_2 n
  (fun y20 => some (encRes ro_z1m rh_z1m ((y20, ()), ())))
  (fun _ => some (encRes ro_z1m rh_z1m ((true, ()), ())))
  y19
  a0
  n
  (0 : Int))
  a0
  n
  (1 : Int)
  (0 : Int))))))
 (cond (a0.2.2.2.2.2.2.1 != (0 : Int))
 (cond (decide (a0.2.2.2.2.2.2.1 < (1 : Int)))
 (some (encRes ro_z1m rh_z1m ((false, ()), ())))
 (cond (decide (a0.2.2.2.2.2.2.1 > (32 : Int)))
 (some (encRes ro_z1m rh_z1m ((false, ()), ())))
 (cond (decide (a0.2.2.2.2.2.1 < (0 : Int)))
 (some (encRes ro_z1m rh_z1m ((false, ()), ())))
 (cond (decide (a0.2.2.2.2.2.1 > (2048 : Int)))
 (some (encRes ro_z1m rh_z1m ((false, ()), ())))
 (cond (decide ((((List.length a0.2.2.2.2.2.2.2.1) : Nat) : Int) > (32 : Int)))
 (some (encRes ro_z1m rh_z1m ((false, ()), ())))
 (L_z1m_0 n
  (fun y21 => L_z1m_2 n
  (fun y22 => some (encRes ro_z1m rh_z1m ((y22, ()), ())))
  (fun _ => some (encRes ro_z1m rh_z1m ((true, ()), ())))
  y21
  a0
  n
  (0 : Int))
  a0
  n
  (1 : Int)
  (0 : Int)))))))
 (cond (decide ((((List.length a0.2.2.2.2.2.2.2.1) : Nat) : Int) > (32 : Int)))
 (some (encRes ro_z1m rh_z1m ((false, ()), ())))
 (L_z1m_0 n
  (fun y23 => L_z1m_2 n
  (fun y24 => some (encRes ro_z1m rh_z1m ((y24, ()), ())))
  (fun _ => some (encRes ro_z1m rh_z1m ((true, ()), ())))
  y23
  a0
  n
  (0 : Int))
  a0
  n
  (1 : Int)
  (0 : Int)))))))))))
 (cond (a0.2.2.2.2.2.2.1 == (0 : Int))
 (cond (a0.2.2.2.2.2.1 != (0 : Int))
 (some (encRes ro_z1m rh_z1m ((false, ()), ())))
 (cond (decide ((((List.length a0.2.2.2.2.2.2.2.1) : Nat) : Int) > (0 : Int)))
 (some (encRes ro_z1m rh_z1m ((false, ()), ())))
 (cond (a0.2.2.2.2.2.2.1 != (0 : Int))
 (cond (decide (a0.2.2.2.2.2.2.1 < (1 : Int)))
 (some (encRes ro_z1m rh_z1m ((false, ()), ())))
 (cond (decide (a0.2.2.2.2.2.2.1 > (32 : Int)))
 (some (encRes ro_z1m rh_z1m ((false, ()), ())))
 (cond (decide (a0.2.2.2.2.2.1 < (0 : Int)))
 (some (encRes ro_z1m rh_z1m ((false, ()), ())))
 (cond (decide (a0.2.2.2.2.2.1 > (2048 : Int)))
 (some (encRes ro_z1m rh_z1m ((false, ()), ())))
 (cond (decide ((((List.length a0.2.2.2.2.2.2.2.1) : Nat) : Int) > (32 : Int)))
 (some (encRes ro_z1m rh_z1m ((false, ()), ())))
 (L_z1m_0 n
  (fun y25 => L_z1m_2 n
  (fun y26 => some (encRes ro_z1m rh_z1m ((y26, ()), ())))
  (fun _ => some (encRes ro_z1m rh_z1m ((true, ()), ())))
  y25
  a0
  n
  (0 : Int))
  a0
  n
  (1 : Int)
  (0 : Int)))))))
 (cond (decide ((((List.length a0.2.2.2.2.2.2.2.1) : Nat) : Int) > (32 : Int)))
 (some (encRes ro_z1m rh_z1m ((false, ()), ())))
 (L_z1m_0 n
  (fun y27 => L_z1m_2 n
  (fun y28 => some (encRes ro_z1m rh_z1m ((y28, ()), ())))
  (fun _ => some (encRes ro_z1m rh_z1m ((true, ()), ())))
  y27
  a0
  n
  (0 : Int))
  a0
  n
  (1 : Int)
  (0 : Int))))))
 (cond (a0.2.2.2.2.2.2.1 != (0 : Int))
 (cond (decide (a0.2.2.2.2.2.2.1 < (1 : Int)))
 (some (encRes ro_z1m rh_z1m ((false, ()), ())))
 (cond (decide (a0.2.2.2.2.2.2.1 > (32 : Int)))
 (some (encRes ro_z1m rh_z1m ((false, ()), ())))
 (cond (decide (a0.2.2.2.2.2.1 < (0 : Int)))
 (some (encRes ro_z1m rh_z1m ((false, ()), ())))
 (cond (decide (a0.2.2.2.2.2.1 > (2048 : Int)))
 (some (encRes ro_z1m rh_z1m ((false, ()), ())))
 (cond (decide ((((List.length a0.2.2.2.2.2.2.2.1) : Nat) : Int) > (32 : Int)))
 (some (encRes ro_z1m rh_z1m ((false, ()), ())))
 (L_z1m_0 n
  (fun y29 => L_z1m_2 n
  (fun y30 => some (encRes ro_z1m rh_z1m ((y30, ()), ())))
  (fun _ => some (encRes ro_z1m rh_z1m ((true, ()), ())))
  y29
  a0
  n
  (0 : Int))
  a0
  n
  (1 : Int)
  (0 : Int)))))))
 (cond (decide ((((List.length a0.2.2.2.2.2.2.2.1) : Nat) : Int) > (32 : Int)))
 (some (encRes ro_z1m rh_z1m ((false, ()), ())))
 (L_z1m_0 n
  (fun y31 => L_z1m_2 n
  (fun y32 => some (encRes ro_z1m rh_z1m ((y32, ()), ())))
  (fun _ => some (encRes ro_z1m rh_z1m ((true, ()), ())))
  y31
  a0
  n
  (0 : Int))
  a0
  n
  (1 : Int)
  (0 : Int))))))))))))
noncomputable def Q_z1m (a0 : NodeS) : Option (RS ro_z1m rh_z1m) := decRes ro_z1m rh_z1m (M_z1m FUEL a0)
noncomputable def ok_z1m (a0 : NodeS) : Bool := (Q_z1m a0).isSome
noncomputable def q_z1m (a0 : NodeS) : RS ro_z1m rh_z1m := RS.get (Q_z1m a0)
/-! z1n: turnoutref15_Goes -/
abbrev ro_z1n : List EK := [.hs 0 0]
abbrev rh_z1n : List HK := [.row (.int .i64)]
noncomputable def F_z1n_0 (n : Nat) (k_t0 : Nat → (List Int) → Option Res) (x0_2 : NodeS) (rec : Nat → Int → (List Int) → Option Res) (x0_0 : Nat) (x0_1 : Int) (x0_3 : (List Int)) : Option Res :=
 cond (decide (x0_1 < (((List.length x0_2.2.2.2.2.2.2.2.1) : Nat) : Int)))
 (cond (decide ((0 : Int) ≤ x0_1 ∧ x0_1 < (((List.length x0_2.2.2.2.2.2.2.2.1) : Nat) : Int)))
 (cond (decide (((List.length (cutL (0 : Int) x0_3 0 x0_0)) + 1) * 8 ≤ 2 ^ 46 ∧ ((List.length (cutL (0 : Int) x0_3 0 x0_0)) + 1) ≤ 2 ^ 46))
 (rec ((List.length (cutL (0 : Int) x0_3 0 x0_0)) + 1) (IntKind.wrap .i64 (x0_1 + (1 : Int))) ((cutL (0 : Int) x0_3 0 x0_0) ++ [(rdd zArmS x0_2.2.2.2.2.2.2.2.1 (Int.toNat x0_1)).2.1]))
 (none))
 (none))
 (k_t0 x0_0 x0_3)
noncomputable def L_z1n_0 (n : Nat) (k_t0 : Nat → (List Int) → Option Res) (x0_2 : NodeS) : Nat → Nat → Int → (List Int) → Option Res
  | 0, _, _, _ => none
  | m + 1, x0_0, x0_1, x0_3 => F_z1n_0 n k_t0 x0_2 (L_z1n_0 n k_t0 x0_2 m) x0_0 x0_1 x0_3
noncomputable def M_z1n (n : Nat) (a0 : NodeS) : Option Res :=
 L_z1n_0 n
  (fun y1 y2 => cond (decide (((List.length (cutL (0 : Int) y2 0 y1)) + 1) * 8 ≤ 2 ^ 46 ∧ ((List.length (cutL (0 : Int) y2 0 y1)) + 1) ≤ 2 ^ 46))
 (some (encRes ro_z1n rh_z1n ((((List.length (cutL (0 : Int) y2 0 y1)) + 1), ()), (((cutL (0 : Int) y2 0 y1) ++ [a0.2.2.2.2.2.2.2.2.1]), ()))))
 (none))
  a0
  n
  0
  (0 : Int)
  ([])
noncomputable def Q_z1n (a0 : NodeS) : Option (RS ro_z1n rh_z1n) := decRes ro_z1n rh_z1n (M_z1n FUEL a0)
noncomputable def ok_z1n (a0 : NodeS) : Bool := (Q_z1n a0).isSome
noncomputable def q_z1n (a0 : NodeS) : RS ro_z1n rh_z1n := RS.get (Q_z1n a0)
/-! z1o: pack_Packet_placexc4b -/
abbrev ro_z1o : List EK := [.ptr 1 0 0, .ty (.int .i64), .ty (.int .i64)]
abbrev rh_z1o : List HK := [.one false [.ptr 1 0 0, .hs 3 0, .ptr 4 0 0, .ty (.int .i64)], .one false [.hs 2 0], .row (.int .u8), .row HeadT, .one false [.hs 5 0], .row (.int .u8)]
abbrev ro_z1o_1 : List EK := [.ptr 4 0 0, .ty (.int .i64), .ty (.int .i64)]
abbrev rh_z1o_1 : List HK := [.one false [.ptr 1 0 0, .hs 3 0, .ptr 4 0 0, .ty (.int .i64)], .one false [.hs 2 0], .row (.int .u8), .row HeadT, .one false [.hs 5 0], .row (.int .u8)]
abbrev ro_z1o_2 : List EK := [.nul 0, .ty (.int .i64), .ty (.int .i64)]
abbrev rh_z1o_2 : List HK := [.one false [.ptr 1 0 0, .hs 3 0, .ptr 4 0 0, .ty (.int .i64)], .one false [.hs 2 0], .row (.int .u8), .row HeadT, .one false [.hs 5 0], .row (.int .u8)]
noncomputable def F_z1o_1 (n : Nat) (k_r : Int → Int → Option Res) (k_t1 : Unit → Option Res) (x1_0 : Nat) (x1_1 : Int) (x1_7 : (List HeadS)) (x1_10 : FieldS) (rec : Int → Option Res) (x1_2 : Int) : Option Res :=
 cond (decide (x1_2 < x1_1))
 (cond (decide ((0 : Int) ≤ x1_2 ∧ x1_2 < ((x1_0 : Nat) : Int)))
 (cond ((rdd zHeadS x1_7 (Int.toNat x1_2)).1 == x1_10.2.2.1)
 (k_r ((rdd zHeadS x1_7 (Int.toNat x1_2)).2.1) (0 : Int))
 (rec (IntKind.wrap .i64 (x1_2 + (1 : Int)))))
 (none))
 (k_t1 ())
noncomputable def L_z1o_1 (n : Nat) (k_r : Int → Int → Option Res) (k_t1 : Unit → Option Res) (x1_0 : Nat) (x1_1 : Int) (x1_7 : (List HeadS)) (x1_10 : FieldS) : Nat → Int → Option Res
  | 0, _ => none
  | m + 1, x1_2 => F_z1o_1 n k_r k_t1 x1_0 x1_1 x1_7 x1_10 (L_z1o_1 n k_r k_t1 x1_0 x1_1 x1_7 x1_10 m) x1_2
noncomputable def M_z1o (n : Nat) (a0 : FieldS) (a1 : Nat) (a2 : Int) (a3 : Nat) (a4 : (List Int)) (a5 : (List HeadS)) (a6 : Nat) (a7 : (List Int)) : Option Res :=
 cond (a0.2.1 == (1 : Int))
 (some (encRes ro_z1o rh_z1o (((), ((0 : Int), ((0 : Int), ()))), (((), (a1, ((), (a2, ())))), ((a3, ()), (a4, (a5, ((a6, ()), (a7, ())))))))))
 (cond (a0.2.1 == (3 : Int))
 (some (encRes ro_z1o_1 rh_z1o_1 (((), ((0 : Int), ((0 : Int), ()))), (((), (a1, ((), (a2, ())))), ((a3, ()), (a4, (a5, ((a6, ()), (a7, ())))))))))
 (cond (a0.2.1 == (2 : Int))
 (L_z1o_1 n
  (fun y1 y2 => some (encRes ro_z1o rh_z1o (((), (y1, (y2, ()))), (((), (a1, ((), (a2, ())))), ((a3, ()), (a4, (a5, ((a6, ()), (a7, ())))))))))
  (fun _ => some (encRes ro_z1o_2 rh_z1o_2 (((), ((0 : Int), ((3 : Int), ()))), (((), (a1, ((), (a2, ())))), ((a3, ()), (a4, (a5, ((a6, ()), (a7, ())))))))))
  a1
  ((a1 : Nat) : Int)
  a5
  a0
  n
  (0 : Int))
 (some (encRes ro_z1o_2 rh_z1o_2 (((), ((0 : Int), ((3 : Int), ()))), (((), (a1, ((), (a2, ())))), ((a3, ()), (a4, (a5, ((a6, ()), (a7, ())))))))))))
noncomputable def Q_z1o (a0 : FieldS) (a1 : Nat) (a2 : Int) (a3 : Nat) (a4 : (List Int)) (a5 : (List HeadS)) (a6 : Nat) (a7 : (List Int)) : Option (RS ro_z1o rh_z1o) := decRes ro_z1o rh_z1o (M_z1o FUEL a0 a1 a2 a3 a4 a5 a6 a7)
noncomputable def Q_z1o_1 (a0 : FieldS) (a1 : Nat) (a2 : Int) (a3 : Nat) (a4 : (List Int)) (a5 : (List HeadS)) (a6 : Nat) (a7 : (List Int)) : Option (RS ro_z1o_1 rh_z1o_1) := decRes ro_z1o_1 rh_z1o_1 (M_z1o FUEL a0 a1 a2 a3 a4 a5 a6 a7)
noncomputable def ok_z1o_1 (a0 : FieldS) (a1 : Nat) (a2 : Int) (a3 : Nat) (a4 : (List Int)) (a5 : (List HeadS)) (a6 : Nat) (a7 : (List Int)) : Bool := (Q_z1o_1 a0 a1 a2 a3 a4 a5 a6 a7).isSome
noncomputable def q_z1o_1 (a0 : FieldS) (a1 : Nat) (a2 : Int) (a3 : Nat) (a4 : (List Int)) (a5 : (List HeadS)) (a6 : Nat) (a7 : (List Int)) : RS ro_z1o_1 rh_z1o_1 := RS.get (Q_z1o_1 a0 a1 a2 a3 a4 a5 a6 a7)
noncomputable def Q_z1o_2 (a0 : FieldS) (a1 : Nat) (a2 : Int) (a3 : Nat) (a4 : (List Int)) (a5 : (List HeadS)) (a6 : Nat) (a7 : (List Int)) : Option (RS ro_z1o_2 rh_z1o_2) := decRes ro_z1o_2 rh_z1o_2 (M_z1o FUEL a0 a1 a2 a3 a4 a5 a6 a7)
noncomputable def ok_z1o_2 (a0 : FieldS) (a1 : Nat) (a2 : Int) (a3 : Nat) (a4 : (List Int)) (a5 : (List HeadS)) (a6 : Nat) (a7 : (List Int)) : Bool := (Q_z1o_2 a0 a1 a2 a3 a4 a5 a6 a7).isSome
noncomputable def q_z1o_2 (a0 : FieldS) (a1 : Nat) (a2 : Int) (a3 : Nat) (a4 : (List Int)) (a5 : (List HeadS)) (a6 : Nat) (a7 : (List Int)) : RS ro_z1o_2 rh_z1o_2 := RS.get (Q_z1o_2 a0 a1 a2 a3 a4 a5 a6 a7)
noncomputable def ok_z1o (a0 : FieldS) (a1 : Nat) (a2 : Int) (a3 : Nat) (a4 : (List Int)) (a5 : (List HeadS)) (a6 : Nat) (a7 : (List Int)) : Bool := (Q_z1o a0 a1 a2 a3 a4 a5 a6 a7).isSome
noncomputable def q_z1o (a0 : FieldS) (a1 : Nat) (a2 : Int) (a3 : Nat) (a4 : (List Int)) (a5 : (List HeadS)) (a6 : Nat) (a7 : (List Int)) : RS ro_z1o rh_z1o := RS.get (Q_z1o a0 a1 a2 a3 a4 a5 a6 a7)
/-! z1p: pack_Packet_Getxc4b -/
abbrev ro_z1p : List EK := [.agg WordT, .ty (.int .i64)]
abbrev rh_z1p : List HK := [.one false [.ptr 1 0 0, .hs 3 0, .ptr 4 0 0, .ty (.int .i64)], .one false [.hs 2 0], .row (.int .u8), .row HeadT, .one false [.hs 5 0], .row (.int .u8)]
noncomputable def M_z1p (n : Nat) (a0 : FieldS) (a1 : Nat) (a2 : Int) (a3 : Nat) (a4 : (List Int)) (a5 : (List HeadS)) (a6 : Nat) (a7 : (List Int)) : Option Res :=
 let y7 : ((Unit × (Int × (Int × Unit))) × ((Unit × (Nat × (Unit × (Int × Unit)))) × ((Nat × Unit) × ((List Int) × ((List HeadS) × ((Nat × Unit) × ((List Int) × Unit))))))) := (q_z1o a0 a1 a2 a3 a4 a5 a6 a7)
 cond (ok_z1o a0 a1 a2 a3 a4 a5 a6 a7)
 (cond (y7.1.2.2.1 != (0 : Int))
 (some (encRes ro_z1p rh_z1p ((((0 : Int), ((0 : Int), ())), (y7.1.2.2.1, ())), (((), (y7.2.1.2.1, ((), (y7.2.1.2.2.2.1, ())))), ((y7.2.2.1.1, ()), (y7.2.2.2.1, (y7.2.2.2.2.1, ((y7.2.2.2.2.2.1.1, ()), (y7.2.2.2.2.2.2.1, ())))))))))
 (let y8 : ((Int × Unit) × Unit) := (q_z04 y7.1.2.1 a0.2.2.2.1)
 cond (ok_z04 y7.1.2.1 a0.2.2.2.1)
 (let y9 : ((WordS × (Int × Unit)) × ((Nat × Unit) × ((List Int) × Unit))) := (q_z0h y8.1.1 a0.2.2.2.2.1 y7.2.2.1.1 y7.2.2.2.1)
 cond (ok_z0h y8.1.1 a0.2.2.2.2.1 y7.2.2.1.1 y7.2.2.2.1)
 (cond (y9.1.2.1 != (0 : Int))
 (some (encRes ro_z1p rh_z1p ((((0 : Int), ((0 : Int), ())), ((1 : Int), ())), (((), (y7.2.1.2.1, ((), (y7.2.1.2.2.2.1, ())))), ((y9.2.1.1, ()), (y9.2.2.1, (y7.2.2.2.2.1, ((y7.2.2.2.2.2.1.1, ()), (y7.2.2.2.2.2.2.1, ())))))))))
 (some (encRes ro_z1p rh_z1p ((y9.1.1, ((0 : Int), ())), (((), (y7.2.1.2.1, ((), (y7.2.1.2.2.2.1, ())))), ((y9.2.1.1, ()), (y9.2.2.1, (y7.2.2.2.2.1, ((y7.2.2.2.2.2.1.1, ()), (y7.2.2.2.2.2.2.1, ()))))))))))
 (none))
 (none)))
 (let y4 : ((Unit × (Int × (Int × Unit))) × ((Unit × (Nat × (Unit × (Int × Unit)))) × ((Nat × Unit) × ((List Int) × ((List HeadS) × ((Nat × Unit) × ((List Int) × Unit))))))) := (q_z1o_1 a0 a1 a2 a3 a4 a5 a6 a7)
 cond (ok_z1o_1 a0 a1 a2 a3 a4 a5 a6 a7)
 (cond (y4.1.2.2.1 != (0 : Int))
 (some (encRes ro_z1p rh_z1p ((((0 : Int), ((0 : Int), ())), (y4.1.2.2.1, ())), (((), (y4.2.1.2.1, ((), (y4.2.1.2.2.2.1, ())))), ((y4.2.2.1.1, ()), (y4.2.2.2.1, (y4.2.2.2.2.1, ((y4.2.2.2.2.2.1.1, ()), (y4.2.2.2.2.2.2.1, ())))))))))
 (let y5 : ((Int × Unit) × Unit) := (q_z04 y4.1.2.1 a0.2.2.2.1)
 cond (ok_z04 y4.1.2.1 a0.2.2.2.1)
 (let y6 : ((WordS × (Int × Unit)) × ((Nat × Unit) × ((List Int) × Unit))) := (q_z0h y5.1.1 a0.2.2.2.2.1 y4.2.2.2.2.2.1.1 y4.2.2.2.2.2.2.1)
 cond (ok_z0h y5.1.1 a0.2.2.2.2.1 y4.2.2.2.2.2.1.1 y4.2.2.2.2.2.2.1)
 (cond (y6.1.2.1 != (0 : Int))
 (some (encRes ro_z1p rh_z1p ((((0 : Int), ((0 : Int), ())), ((1 : Int), ())), (((), (y4.2.1.2.1, ((), (y4.2.1.2.2.2.1, ())))), ((y4.2.2.1.1, ()), (y4.2.2.2.1, (y4.2.2.2.2.1, ((y6.2.1.1, ()), (y6.2.2.1, ())))))))))
 (some (encRes ro_z1p rh_z1p ((y6.1.1, ((0 : Int), ())), (((), (y4.2.1.2.1, ((), (y4.2.1.2.2.2.1, ())))), ((y4.2.2.1.1, ()), (y4.2.2.2.1, (y4.2.2.2.2.1, ((y6.2.1.1, ()), (y6.2.2.1, ()))))))))))
 (none))
 (none)))
 (let y1 : ((Unit × (Int × (Int × Unit))) × ((Unit × (Nat × (Unit × (Int × Unit)))) × ((Nat × Unit) × ((List Int) × ((List HeadS) × ((Nat × Unit) × ((List Int) × Unit))))))) := (q_z1o_2 a0 a1 a2 a3 a4 a5 a6 a7)
 cond (ok_z1o_2 a0 a1 a2 a3 a4 a5 a6 a7)
 (cond (y1.1.2.2.1 != (0 : Int))
 (some (encRes ro_z1p rh_z1p ((((0 : Int), ((0 : Int), ())), (y1.1.2.2.1, ())), (((), (y1.2.1.2.1, ((), (y1.2.1.2.2.2.1, ())))), ((y1.2.2.1.1, ()), (y1.2.2.2.1, (y1.2.2.2.2.1, ((y1.2.2.2.2.2.1.1, ()), (y1.2.2.2.2.2.2.1, ())))))))))
 (let y2 : ((Int × Unit) × Unit) := (q_z04 y1.1.2.1 a0.2.2.2.1)
 cond (ok_z04 y1.1.2.1 a0.2.2.2.1)
 (let y3 : ((WordS × (Int × Unit)) × Unit) := (q_z05 y2.1.1 a0.2.2.2.2.1)
 cond (ok_z05 y2.1.1 a0.2.2.2.2.1)
 (cond (y3.1.2.1 != (0 : Int))
 (some (encRes ro_z1p rh_z1p ((((0 : Int), ((0 : Int), ())), ((1 : Int), ())), (((), (y1.2.1.2.1, ((), (y1.2.1.2.2.2.1, ())))), ((y1.2.2.1.1, ()), (y1.2.2.2.1, (y1.2.2.2.2.1, ((y1.2.2.2.2.2.1.1, ()), (y1.2.2.2.2.2.2.1, ())))))))))
 (some (encRes ro_z1p rh_z1p ((y3.1.1, ((0 : Int), ())), (((), (y1.2.1.2.1, ((), (y1.2.1.2.2.2.1, ())))), ((y1.2.2.1.1, ()), (y1.2.2.2.1, (y1.2.2.2.2.1, ((y1.2.2.2.2.2.1.1, ()), (y1.2.2.2.2.2.2.1, ()))))))))))
 (none))
 (none)))
 (none)))
noncomputable def Q_z1p (a0 : FieldS) (a1 : Nat) (a2 : Int) (a3 : Nat) (a4 : (List Int)) (a5 : (List HeadS)) (a6 : Nat) (a7 : (List Int)) : Option (RS ro_z1p rh_z1p) := decRes ro_z1p rh_z1p (M_z1p FUEL a0 a1 a2 a3 a4 a5 a6 a7)
noncomputable def ok_z1p (a0 : FieldS) (a1 : Nat) (a2 : Int) (a3 : Nat) (a4 : (List Int)) (a5 : (List HeadS)) (a6 : Nat) (a7 : (List Int)) : Bool := (Q_z1p a0 a1 a2 a3 a4 a5 a6 a7).isSome
noncomputable def q_z1p (a0 : FieldS) (a1 : Nat) (a2 : Int) (a3 : Nat) (a4 : (List Int)) (a5 : (List HeadS)) (a6 : Nat) (a7 : (List Int)) : RS ro_z1p rh_z1p := RS.get (Q_z1p a0 a1 a2 a3 a4 a5 a6 a7)
/-! z1q: key_textxb09 -/
abbrev ro_z1q : List EK := [.ty .str, .ty (.int .i64)]
abbrev rh_z1q : List HK := [.one false [.ptr 1 0 0, .hs 3 0, .ptr 4 0 0, .ty (.int .i64)], .one false [.hs 2 0], .row (.int .u8), .row HeadT, .one false [.hs 5 0], .row (.int .u8)]
noncomputable def M_z1q (n : Nat) (a0 : FieldS) (a1 : Nat) (a2 : Int) (a3 : Nat) (a4 : (List Int)) (a5 : (List HeadS)) (a6 : Nat) (a7 : (List Int)) : Option Res :=
 let y1 : ((WordS × (Int × Unit)) × ((Unit × (Nat × (Unit × (Int × Unit)))) × ((Nat × Unit) × ((List Int) × ((List HeadS) × ((Nat × Unit) × ((List Int) × Unit))))))) := (q_z1p a0 a1 a2 a3 a4 a5 a6 a7)
 cond (ok_z1p a0 a1 a2 a3 a4 a5 a6 a7)
 (cond (y1.1.2.1 != (0 : Int))
 (some (encRes ro_z1q rh_z1q (((ByteArray.mk #[]), (y1.1.2.1, ())), (((), (y1.2.1.2.1, ((), (y1.2.1.2.2.2.1, ())))), ((y1.2.2.1.1, ()), (y1.2.2.2.1, (y1.2.2.2.2.1, ((y1.2.2.2.2.2.1.1, ()), (y1.2.2.2.2.2.2.1, ())))))))))
 (let y2 : ((ByteArray × (Int × Unit)) × Unit) := (q_z0l y1.1.1 a0.2.2.2.2.1)
 cond (ok_z0l y1.1.1 a0.2.2.2.2.1)
 (some (encRes ro_z1q rh_z1q ((y2.1.1, ((0 : Int), ())), (((), (y1.2.1.2.1, ((), (y1.2.1.2.2.2.1, ())))), ((y1.2.2.1.1, ()), (y1.2.2.2.1, (y1.2.2.2.2.1, ((y1.2.2.2.2.2.1.1, ()), (y1.2.2.2.2.2.2.1, ())))))))))
 (none)))
 (none)
noncomputable def Q_z1q (a0 : FieldS) (a1 : Nat) (a2 : Int) (a3 : Nat) (a4 : (List Int)) (a5 : (List HeadS)) (a6 : Nat) (a7 : (List Int)) : Option (RS ro_z1q rh_z1q) := decRes ro_z1q rh_z1q (M_z1q FUEL a0 a1 a2 a3 a4 a5 a6 a7)
noncomputable def ok_z1q (a0 : FieldS) (a1 : Nat) (a2 : Int) (a3 : Nat) (a4 : (List Int)) (a5 : (List HeadS)) (a6 : Nat) (a7 : (List Int)) : Bool := (Q_z1q a0 a1 a2 a3 a4 a5 a6 a7).isSome
noncomputable def q_z1q (a0 : FieldS) (a1 : Nat) (a2 : Int) (a3 : Nat) (a4 : (List Int)) (a5 : (List HeadS)) (a6 : Nat) (a7 : (List Int)) : RS ro_z1q rh_z1q := RS.get (Q_z1q a0 a1 a2 a3 a4 a5 a6 a7)
/-! z1r: key_Ofxcab -/
abbrev ro_z1r : List EK := [.ty .str, .ty (.int .i64)]
abbrev rh_z1r : List HK := [.one false [.ptr 1 0 0, .hs 3 0, .ptr 4 0 0, .ty (.int .i64)], .one false [.hs 2 0], .row (.int .u8), .row HeadT, .one false [.hs 5 0], .row (.int .u8)]
noncomputable def Q_z1r (a0 : (List FieldS)) (a1 : Nat) (a2 : Int) (a3 : Nat) (a4 : (List Int)) (a5 : (List HeadS)) (a6 : Nat) (a7 : (List Int)) : Option (RS ro_z1r rh_z1r) := ofQ (fun f b => Q_z1q f b.1.2.1 b.1.2.2.2.1 b.2.1.1 b.2.2.1 b.2.2.2.1 b.2.2.2.2.1.1 b.2.2.2.2.2.1) a0 (((), (a1, ((), (a2, ())))), ((a3, ()), (a4, (a5, ((a6, ()), (a7, ()))))))
noncomputable def ok_z1r (a0 : (List FieldS)) (a1 : Nat) (a2 : Int) (a3 : Nat) (a4 : (List Int)) (a5 : (List HeadS)) (a6 : Nat) (a7 : (List Int)) : Bool := (Q_z1r a0 a1 a2 a3 a4 a5 a6 a7).isSome
noncomputable def q_z1r (a0 : (List FieldS)) (a1 : Nat) (a2 : Int) (a3 : Nat) (a4 : (List Int)) (a5 : (List HeadS)) (a6 : Nat) (a7 : (List Int)) : RS ro_z1r rh_z1r := RS.get (Q_z1r a0 a1 a2 a3 a4 a5 a6 a7)
/-! z1s: key_Numberxc4b -/
abbrev ro_z1s : List EK := [.ty (.int .u32), .ty (.int .i64)]
abbrev rh_z1s : List HK := [.one false [.ptr 1 0 0, .hs 3 0, .ptr 4 0 0, .ty (.int .i64)], .one false [.hs 2 0], .row (.int .u8), .row HeadT, .one false [.hs 5 0], .row (.int .u8)]
noncomputable def M_z1s (n : Nat) (a0 : FieldS) (a1 : Nat) (a2 : Int) (a3 : Nat) (a4 : (List Int)) (a5 : (List HeadS)) (a6 : Nat) (a7 : (List Int)) : Option Res :=
 let y1 : ((ByteArray × (Int × Unit)) × ((Unit × (Nat × (Unit × (Int × Unit)))) × ((Nat × Unit) × ((List Int) × ((List HeadS) × ((Nat × Unit) × ((List Int) × Unit))))))) := (q_z1q a0 a1 a2 a3 a4 a5 a6 a7)
 cond (ok_z1q a0 a1 a2 a3 a4 a5 a6 a7)
 (cond (y1.1.2.1 != (0 : Int))
 (some (encRes ro_z1s rh_z1s (((0 : Int), (y1.1.2.1, ())), (((), (y1.2.1.2.1, ((), (y1.2.1.2.2.2.1, ())))), ((y1.2.2.1.1, ()), (y1.2.2.2.1, (y1.2.2.2.2.1, ((y1.2.2.2.2.2.1.1, ()), (y1.2.2.2.2.2.2.1, ())))))))))
 (let y2 : ((Int × Unit) × Unit) := (q_z0r ([y1.1.1]))
 cond (ok_z0r ([y1.1.1]))
 (let y3 : ((Int × Unit) × Unit) := (q_z0s y2.1.1)
 cond (ok_z0s y2.1.1)
 (some (encRes ro_z1s rh_z1s ((y3.1.1, ((0 : Int), ())), (((), (y1.2.1.2.1, ((), (y1.2.1.2.2.2.1, ())))), ((y1.2.2.1.1, ()), (y1.2.2.2.1, (y1.2.2.2.2.1, ((y1.2.2.2.2.2.1.1, ()), (y1.2.2.2.2.2.2.1, ())))))))))
 (none))
 (none)))
 (none)
noncomputable def Q_z1s (a0 : FieldS) (a1 : Nat) (a2 : Int) (a3 : Nat) (a4 : (List Int)) (a5 : (List HeadS)) (a6 : Nat) (a7 : (List Int)) : Option (RS ro_z1s rh_z1s) := decRes ro_z1s rh_z1s (M_z1s FUEL a0 a1 a2 a3 a4 a5 a6 a7)
noncomputable def ok_z1s (a0 : FieldS) (a1 : Nat) (a2 : Int) (a3 : Nat) (a4 : (List Int)) (a5 : (List HeadS)) (a6 : Nat) (a7 : (List Int)) : Bool := (Q_z1s a0 a1 a2 a3 a4 a5 a6 a7).isSome
noncomputable def q_z1s (a0 : FieldS) (a1 : Nat) (a2 : Int) (a3 : Nat) (a4 : (List Int)) (a5 : (List HeadS)) (a6 : Nat) (a7 : (List Int)) : RS ro_z1s rh_z1s := RS.get (Q_z1s a0 a1 a2 a3 a4 a5 a6 a7)
/-! z1t: turnoutlaw18_found -/
abbrev ro_z1t : List EK := [.nul 0]
abbrev rh_z1t : List HK := []
abbrev ro_z1t_1 : List EK := [.ptr 0 0 0]
abbrev rh_z1t_1 : List HK := [.one false [.ptr 1 0 0, .hs 3 0, .ptr 4 0 0, .ty (.int .i64)], .one false [.hs 2 0], .row (.int .u8), .row HeadT, .one false [.hs 5 0], .row (.int .u8)]
noncomputable def M_z1t (n : Nat) (a0 : ByteArray) (a1 : (List NodeS)) : Option Res :=
 let y2 : ((Unit × (Unit × Unit)) × ((Unit × (Unit × (Unit × (Int × Unit)))) × ((Nat × Unit) × ((List Int) × ((Nat × Unit) × ((List Int) × Unit)))))) := (q_z01 (1 : Int) a0)
 cond (ok_z01 (1 : Int) a0)
 (let y3 : ((Int × (Int × Unit)) × ((Unit × (Nat × (Unit × (Int × Unit)))) × ((Nat × Unit) × ((List Int) × ((Nat × Unit) × ((List Int) × ((List HeadS) × Unit))))))) := (q_z1l a1 y2.2.1.2.2.2.1 y2.2.2.1.1 y2.2.2.2.1 y2.2.2.2.2.1.1 y2.2.2.2.2.2.1)
 cond (ok_z1l a1 y2.2.1.2.2.2.1 y2.2.2.1.1 y2.2.2.2.1 y2.2.2.2.2.1.1 y2.2.2.2.2.2.1)
 (some (encRes ro_z1t_1 rh_z1t_1 (((), ()), (((), (y3.2.1.2.1, ((), (y3.2.1.2.2.2.1, ())))), ((y3.2.2.1.1, ()), (y3.2.2.2.1, (y3.2.2.2.2.2.2.1, ((y3.2.2.2.2.1.1, ()), (y3.2.2.2.2.2.1, ())))))))))
 (none))
 (let y1 : ((Unit × (Unit × Unit)) × Unit) := (q_z01_2 (1 : Int) a0)
 cond (ok_z01_2 (1 : Int) a0)
 (some (encRes ro_z1t rh_z1t (((), ()), ())))
 (none))
noncomputable def Q_z1t (a0 : ByteArray) (a1 : (List NodeS)) : Option (RS ro_z1t rh_z1t) := decRes ro_z1t rh_z1t (M_z1t FUEL a0 a1)
noncomputable def Q_z1t_1 (a0 : ByteArray) (a1 : (List NodeS)) : Option (RS ro_z1t_1 rh_z1t_1) := decRes ro_z1t_1 rh_z1t_1 (M_z1t FUEL a0 a1)
noncomputable def ok_z1t_1 (a0 : ByteArray) (a1 : (List NodeS)) : Bool := (Q_z1t_1 a0 a1).isSome
noncomputable def q_z1t_1 (a0 : ByteArray) (a1 : (List NodeS)) : RS ro_z1t_1 rh_z1t_1 := RS.get (Q_z1t_1 a0 a1)
noncomputable def ok_z1t (a0 : ByteArray) (a1 : (List NodeS)) : Bool := (Q_z1t a0 a1).isSome
noncomputable def q_z1t (a0 : ByteArray) (a1 : (List NodeS)) : RS ro_z1t rh_z1t := RS.get (Q_z1t a0 a1)
/-! z1u: turnoutlaw18_KeyGone -/
abbrev ro_z1u : List EK := [.ty .bool]
abbrev rh_z1u : List HK := []
noncomputable def F_z1u_0 (n : Nat) (k_t0 : Int → Nat → Int → Nat → (List Int) → (List HeadS) → Nat → (List Int) → Option Res) (x0_0 : (List FieldS)) (rec : Int → Int → Nat → Int → Nat → (List Int) → (List HeadS) → Nat → (List Int) → Option Res) (x0_1 : Int) (x0_2 : Int) (x0_3 : Nat) (x0_4 : Int) (x0_5 : Nat) (x0_6 : (List Int)) (x0_7 : (List HeadS)) (x0_8 : Nat) (x0_9 : (List Int)) : Option Res :=
 cond (decide (x0_2 < (((List.length x0_0) : Nat) : Int)))
 (cond (decide ((0 : Int) ≤ x0_2 ∧ x0_2 < (((List.length x0_0) : Nat) : Int)))
 (let y8 : ((WordS × (Int × Unit)) × ((Unit × (Nat × (Unit × (Int × Unit)))) × ((Nat × Unit) × ((List Int) × ((List HeadS) × ((Nat × Unit) × ((List Int) × Unit))))))) := (q_z1p (rdd zFieldS x0_0 (Int.toNat x0_2)) x0_3 x0_4 x0_5 x0_6 x0_7 x0_8 x0_9)
 cond (ok_z1p (rdd zFieldS x0_0 (Int.toNat x0_2)) x0_3 x0_4 x0_5 x0_6 x0_7 x0_8 x0_9)
 (cond (x0_1 == (0 : Int))
 (rec y8.1.2.1 (IntKind.wrap .i64 (x0_2 + (1 : Int))) y8.2.1.2.1 y8.2.1.2.2.2.1 y8.2.2.1.1 y8.2.2.2.1 y8.2.2.2.2.1 y8.2.2.2.2.2.1.1 y8.2.2.2.2.2.2.1)
 (rec x0_1 (IntKind.wrap .i64 (x0_2 + (1 : Int))) y8.2.1.2.1 y8.2.1.2.2.2.1 y8.2.2.1.1 y8.2.2.2.1 y8.2.2.2.2.1 y8.2.2.2.2.2.1.1 y8.2.2.2.2.2.2.1))
 (none))
 (none))
 (k_t0 x0_1 x0_3 x0_4 x0_5 x0_6 x0_7 x0_8 x0_9)
noncomputable def L_z1u_0 (n : Nat) (k_t0 : Int → Nat → Int → Nat → (List Int) → (List HeadS) → Nat → (List Int) → Option Res) (x0_0 : (List FieldS)) : Nat → Int → Int → Nat → Int → Nat → (List Int) → (List HeadS) → Nat → (List Int) → Option Res
  | 0, _, _, _, _, _, _, _, _, _ => none
  | m + 1, x0_1, x0_2, x0_3, x0_4, x0_5, x0_6, x0_7, x0_8, x0_9 => F_z1u_0 n k_t0 x0_0 (L_z1u_0 n k_t0 x0_0 m) x0_1 x0_2 x0_3 x0_4 x0_5 x0_6 x0_7 x0_8 x0_9
noncomputable def M_z1u (n : Nat) (a0 : ByteArray) (a1 : (List NodeS)) (a2 : (List FieldS)) : Option Res :=
 let y1 : ((Bool × Unit) × Unit) := (q_z0z a1)
 cond (ok_z0z a1)
 (cond y1.1.1
 (let y2 : ((Bool × Unit) × Unit) := q_z0v
 cond ok_z0v
 (some (encRes ro_z1u rh_z1u ((y2.1.1, ()), ())))
 (none))
 (cond (decide (((ByteArray.size a0 : Nat) : Int) > (10000 : Int)))
 (let y3 : ((Bool × Unit) × Unit) := q_z0v
 cond ok_z0v
 (some (encRes ro_z1u rh_z1u ((y3.1.1, ()), ())))
 (none))
 (cond (decide ((((List.length a2) : Nat) : Int) > (100 : Int)))
 (let y4 : ((Bool × Unit) × Unit) := q_z0v
 cond ok_z0v
 (some (encRes ro_z1u rh_z1u ((y4.1.1, ()), ())))
 (none))
 (let y5 : ((Bool × Unit) × Unit) := q_z0v
 cond ok_z0v
 (cond (!y5.1.1)
 (let y6 : ((Bool × Unit) × Unit) := q_z0v
 cond ok_z0v
 (some (encRes ro_z1u rh_z1u ((y6.1.1, ()), ())))
 (none))
 (let y18 : ((Unit × Unit) × Unit) := (q_z1t a0 a1)
 cond (ok_z1t a0 a1)
 (some (encRes ro_z1u rh_z1u ((true, ()), ())))
 (let y7 : ((Unit × Unit) × ((Unit × (Nat × (Unit × (Int × Unit)))) × ((Nat × Unit) × ((List Int) × ((List HeadS) × ((Nat × Unit) × ((List Int) × Unit))))))) := (q_z1t_1 a0 a1)
 cond (ok_z1t_1 a0 a1)
 (L_z1u_0 n
  (fun y9 y10 y11 y12 y13 y14 y15 y16 => let y17 : ((ByteArray × (Int × Unit)) × ((Unit × (Nat × (Unit × (Int × Unit)))) × ((Nat × Unit) × ((List Int) × ((List HeadS) × ((Nat × Unit) × ((List Int) × Unit))))))) := (q_z1r a2 y10 y11 y12 y13 y14 y15 y16)
 cond (ok_z1r a2 y10 y11 y12 y13 y14 y15 y16)
 (cond (y17.1.2.1 == y9)
 (cond (y17.1.2.1 == (0 : Int))
 (some (encRes ro_z1u rh_z1u ((true, ()), ())))
 (some (encRes ro_z1u rh_z1u (((ByteArray.toList y17.1.1 == ByteArray.toList (ByteArray.mk #[])), ()), ()))))
 (some (encRes ro_z1u rh_z1u ((false, ()), ()))))
 (none))
  a2
  n
  (0 : Int)
  (0 : Int)
  y7.2.1.2.1
  y7.2.1.2.2.2.1
  y7.2.2.1.1
  y7.2.2.2.1
  y7.2.2.2.2.1
  y7.2.2.2.2.2.1.1
  y7.2.2.2.2.2.2.1)
 (none))))
 (none)))))
 (none)
noncomputable def Q_z1u (a0 : ByteArray) (a1 : (List NodeS)) (a2 : (List FieldS)) : Option (RS ro_z1u rh_z1u) := decRes ro_z1u rh_z1u (M_z1u FUEL a0 a1 a2)
noncomputable def ok_z1u (a0 : ByteArray) (a1 : (List NodeS)) (a2 : (List FieldS)) : Bool := (Q_z1u a0 a1 a2).isSome
noncomputable def q_z1u (a0 : ByteArray) (a1 : (List NodeS)) (a2 : (List FieldS)) : RS ro_z1u rh_z1u := RS.get (Q_z1u a0 a1 a2)
/-! z1v: buf_Buf_Putx0a7 -/
abbrev ro_z1v : List EK := [.ty (.int .i64)]
abbrev rh_z1v : List HK := []
noncomputable def M_z1v (n : Nat) (a0 : Int) (a1 : Int) (a2 : WordS) : Option Res :=
 some (encRes ro_z1v rh_z1v (((2 : Int), ()), ()))
noncomputable def Q_z1v (a0 : Int) (a1 : Int) (a2 : WordS) : Option (RS ro_z1v rh_z1v) := decRes ro_z1v rh_z1v (M_z1v FUEL a0 a1 a2)
noncomputable def ok_z1v (a0 : Int) (a1 : Int) (a2 : WordS) : Bool := (Q_z1v a0 a1 a2).isSome
noncomputable def q_z1v (a0 : Int) (a1 : Int) (a2 : WordS) : RS ro_z1v rh_z1v := RS.get (Q_z1v a0 a1 a2)
/-! z1w: field_Put -/
abbrev ro_z1w : List EK := [.ty .str, .ty (.int .i64)]
abbrev rh_z1w : List HK := []
noncomputable def F_z1w_0 (n : Nat) (k_t0 : (List Int) → Option Res) (x0_0 : Int) (x0_1 : Int) (x0_2 : Nat) (x0_3 : Int) (x0_5 : WordS) (rec : Int → (List Int) → Option Res) (x0_4 : Int) (x0_6 : (List Int)) : Option Res :=
 cond (decide (x0_4 < x0_3))
 (let y2 : Int := (IntKind.wrap .i64 ((IntKind.wrap .i64 ((IntKind.wrap .i64 (x0_0 + x0_1)) - (1 : Int))) - x0_4))
 cond ((8 : Int) != 0)
 (cond (decide ((0 : Int) ≤ (IntKind.wrap .i64 ((7 : Int) - (Int.tmod y2 (8 : Int))))))
 (let y3 : Int := (IntKind.wrap .u8 ((1 : Int) * 2 ^ (min (Int.toNat (IntKind.wrap .i64 ((7 : Int) - (Int.tmod y2 (8 : Int))))) (IntKind.bits .u8))))
 let y4 : ((WordS × Unit) × Unit) := (q_z0c x0_5 x0_4)
 cond (ok_z0c x0_5 x0_4)
 (let y5 : ((WordS × Unit) × Unit) := (q_z09 (1 : Int))
 cond (ok_z09 (1 : Int))
 (let y6 : ((WordS × Unit) × Unit) := (q_z0e y4.1.1 y5.1.1)
 cond (ok_z0e y4.1.1 y5.1.1)
 (cond (y6.1.1.2.1 == (1 : Int))
 (cond ((8 : Int) != 0)
 (cond (decide ((0 : Int) ≤ (IntKind.wrap .i64 (Int.tdiv y2 (8 : Int))) ∧ (IntKind.wrap .i64 (Int.tdiv y2 (8 : Int))) < ((x0_2 : Nat) : Int)))
 (let y7 : Int := (IntKind.wrap .u8 (BitVec.toNat (BitVec.ofInt (IntKind.bits .u8) (rdd (0 : Int) x0_6 (Int.toNat (IntKind.wrap .i64 (Int.tdiv y2 (8 : Int))))) ||| BitVec.ofInt (IntKind.bits .u8) y3) : Nat))
 cond (decide ((0 : Int) ≤ (IntKind.wrap .i64 (Int.tdiv y2 (8 : Int))) ∧ (IntKind.wrap .i64 (Int.tdiv y2 (8 : Int))) < ((x0_2 : Nat) : Int)))
 (rec (IntKind.wrap .i64 (x0_4 + (1 : Int))) (List.set x0_6 (Int.toNat (IntKind.wrap .i64 (Int.tdiv y2 (8 : Int)))) y7))
 (none))
 (none))
 (none))
 (cond ((8 : Int) != 0)
 (cond (decide ((0 : Int) ≤ (IntKind.wrap .i64 (Int.tdiv y2 (8 : Int))) ∧ (IntKind.wrap .i64 (Int.tdiv y2 (8 : Int))) < ((x0_2 : Nat) : Int)))
 (let y8 : Int := (IntKind.wrap .u8 (BitVec.toNat (BitVec.ofInt (IntKind.bits .u8) (rdd (0 : Int) x0_6 (Int.toNat (IntKind.wrap .i64 (Int.tdiv y2 (8 : Int))))) &&& ~~~(BitVec.ofInt (IntKind.bits .u8) y3)) : Nat))
 cond (decide ((0 : Int) ≤ (IntKind.wrap .i64 (Int.tdiv y2 (8 : Int))) ∧ (IntKind.wrap .i64 (Int.tdiv y2 (8 : Int))) < ((x0_2 : Nat) : Int)))
 (rec (IntKind.wrap .i64 (x0_4 + (1 : Int))) (List.set x0_6 (Int.toNat (IntKind.wrap .i64 (Int.tdiv y2 (8 : Int)))) y8))
 (none))
 (none))
 (none)))
 (none))
 (none))
 (none))
 (none))
 (none))
 (k_t0 x0_6)
noncomputable def L_z1w_0 (n : Nat) (k_t0 : (List Int) → Option Res) (x0_0 : Int) (x0_1 : Int) (x0_2 : Nat) (x0_3 : Int) (x0_5 : WordS) : Nat → Int → (List Int) → Option Res
  | 0, _, _ => none
  | m + 1, x0_4, x0_6 => F_z1w_0 n k_t0 x0_0 x0_1 x0_2 x0_3 x0_5 (L_z1w_0 n k_t0 x0_0 x0_1 x0_2 x0_3 x0_5 m) x0_4 x0_6
noncomputable def M_z1w (n : Nat) (a0 : ByteArray) (a1 : Int) (a2 : Int) (a3 : WordS) : Option Res :=
 let y1 : ((Int × Unit) × Unit) := (q_z07 a0 a1 a2)
 cond (ok_z07 a0 a1 a2)
 (cond (y1.1.1 != (0 : Int))
 (some (encRes ro_z1w rh_z1w (((ByteArray.mk #[]), (y1.1.1, ())), ())))
 (L_z1w_0 n
  (fun y9 => some (encRes ro_z1w rh_z1w (((bytesOf (cutL (0 : Int) y9 0 (ByteArray.size a0))), ((0 : Int), ())), ())))
  a1
  a2
  (ByteArray.size a0)
  a2
  a3
  n
  (0 : Int)
  (bytesL a0)))
 (none)
noncomputable def Q_z1w (a0 : ByteArray) (a1 : Int) (a2 : Int) (a3 : WordS) : Option (RS ro_z1w rh_z1w) := decRes ro_z1w rh_z1w (M_z1w FUEL a0 a1 a2 a3)
noncomputable def ok_z1w (a0 : ByteArray) (a1 : Int) (a2 : Int) (a3 : WordS) : Bool := (Q_z1w a0 a1 a2 a3).isSome
noncomputable def q_z1w (a0 : ByteArray) (a1 : Int) (a2 : Int) (a3 : WordS) : RS ro_z1w rh_z1w := RS.get (Q_z1w a0 a1 a2 a3)
/-! z1x: buf_Buf_Putx5d6 -/
abbrev ro_z1x : List EK := [.ty (.int .i64)]
abbrev rh_z1x : List HK := [.one false [.hs 1 0], .row (.int .u8)]
noncomputable def M_z1x (n : Nat) (a0 : Int) (a1 : Int) (a2 : WordS) (a3 : Nat) (a4 : (List Int)) : Option Res :=
 let y3 : ((Nat × (Int × Unit)) × ((Nat × Unit) × ((List Int) × Unit))) := (q_z06 a0 a1 a3 a4)
 cond (ok_z06 a0 a1 a3 a4)
 (let y4 : ((ByteArray × (Int × Unit)) × Unit) := (q_z1w (bytesOf (cutL (0 : Int) y3.2.2.1 0 y3.1.1)) (IntKind.wrap .i64 (a0 - (IntKind.wrap .i64 ((8 : Int) * y3.1.2.1)))) a1 a2)
 cond (ok_z1w (bytesOf (cutL (0 : Int) y3.2.2.1 0 y3.1.1)) (IntKind.wrap .i64 (a0 - (IntKind.wrap .i64 ((8 : Int) * y3.1.2.1)))) a1 a2)
 (cond (y4.1.2.1 == (0 : Int))
 (cond (decide (0 + y3.1.1 ≤ (List.length y3.2.2.1)))
 (some (encRes ro_z1x rh_z1x ((y4.1.2.1, ()), ((y3.2.1.1, ()), (((cutL (0 : Int) y3.2.2.1 0 0) ++ ((cutL (0 : Int) (bytesL y4.1.1) 0 (Nat.min (ByteArray.size y4.1.1) y3.1.1)) ++ (cutL (0 : Int) y3.2.2.1 (0 + (List.length (cutL (0 : Int) (bytesL y4.1.1) 0 (Nat.min (ByteArray.size y4.1.1) y3.1.1)))) ((List.length y3.2.2.1) - (0 + (List.length (cutL (0 : Int) (bytesL y4.1.1) 0 (Nat.min (ByteArray.size y4.1.1) y3.1.1)))))))), ())))))
 (none))
 (some (encRes ro_z1x rh_z1x ((y4.1.2.1, ()), ((y3.2.1.1, ()), (y3.2.2.1, ()))))))
 (none))
 (let y1 : (((Nat × Nat) × (Int × Unit)) × ((Nat × Unit) × ((List Int) × Unit))) := (q_z06_1 a0 a1 a3 a4)
 cond (ok_z06_1 a0 a1 a3 a4)
 (let y2 : ((ByteArray × (Int × Unit)) × Unit) := (q_z1w (bytesOf (cutL (0 : Int) y1.2.2.1 y1.1.1.1 y1.1.1.2)) (IntKind.wrap .i64 (a0 - (IntKind.wrap .i64 ((8 : Int) * y1.1.2.1)))) a1 a2)
 cond (ok_z1w (bytesOf (cutL (0 : Int) y1.2.2.1 y1.1.1.1 y1.1.1.2)) (IntKind.wrap .i64 (a0 - (IntKind.wrap .i64 ((8 : Int) * y1.1.2.1)))) a1 a2)
 (cond (y2.1.2.1 == (0 : Int))
 (cond (decide (y1.1.1.1 + y1.1.1.2 ≤ (List.length y1.2.2.1)))
 (some (encRes ro_z1x rh_z1x ((y2.1.2.1, ()), ((y1.2.1.1, ()), (((cutL (0 : Int) y1.2.2.1 0 y1.1.1.1) ++ ((cutL (0 : Int) (bytesL y2.1.1) 0 (Nat.min (ByteArray.size y2.1.1) y1.1.1.2)) ++ (cutL (0 : Int) y1.2.2.1 (y1.1.1.1 + (List.length (cutL (0 : Int) (bytesL y2.1.1) 0 (Nat.min (ByteArray.size y2.1.1) y1.1.1.2)))) ((List.length y1.2.2.1) - (y1.1.1.1 + (List.length (cutL (0 : Int) (bytesL y2.1.1) 0 (Nat.min (ByteArray.size y2.1.1) y1.1.1.2)))))))), ())))))
 (none))
 (some (encRes ro_z1x rh_z1x ((y2.1.2.1, ()), ((y1.2.1.1, ()), (y1.2.2.1, ()))))))
 (none))
 (none))
noncomputable def Q_z1x (a0 : Int) (a1 : Int) (a2 : WordS) (a3 : Nat) (a4 : (List Int)) : Option (RS ro_z1x rh_z1x) := decRes ro_z1x rh_z1x (M_z1x FUEL a0 a1 a2 a3 a4)
noncomputable def ok_z1x (a0 : Int) (a1 : Int) (a2 : WordS) (a3 : Nat) (a4 : (List Int)) : Bool := (Q_z1x a0 a1 a2 a3 a4).isSome
noncomputable def q_z1x (a0 : Int) (a1 : Int) (a2 : WordS) (a3 : Nat) (a4 : (List Int)) : RS ro_z1x rh_z1x := RS.get (Q_z1x a0 a1 a2 a3 a4)
/-! z1y: pack_Packet_Putx291 -/
abbrev ro_z1y : List EK := [.ty (.int .i64)]
abbrev rh_z1y : List HK := [.one false [.ptr 1 0 0, .hs 3 0, .ptr 4 0 0, .ty (.int .i64)], .one false [.hs 2 0], .row (.int .u8), .row HeadT, .one false [.hs 5 0], .row (.int .u8)]
noncomputable def M_z1y (n : Nat) (a0 : FieldS) (a1 : WordS) (a2 : Nat) (a3 : Int) (a4 : Nat) (a5 : (List Int)) (a6 : (List HeadS)) (a7 : Nat) (a8 : (List Int)) : Option Res :=
 let y7 : ((Unit × (Int × (Int × Unit))) × ((Unit × (Nat × (Unit × (Int × Unit)))) × ((Nat × Unit) × ((List Int) × ((List HeadS) × ((Nat × Unit) × ((List Int) × Unit))))))) := (q_z1o a0 a2 a3 a4 a5 a6 a7 a8)
 cond (ok_z1o a0 a2 a3 a4 a5 a6 a7 a8)
 (cond (y7.1.2.2.1 == (0 : Int))
 (let y8 : ((Int × Unit) × Unit) := (q_z04 y7.1.2.1 a0.2.2.2.1)
 cond (ok_z04 y7.1.2.1 a0.2.2.2.1)
 (let y9 : ((Int × Unit) × ((Nat × Unit) × ((List Int) × Unit))) := (q_z1x y8.1.1 a0.2.2.2.2.1 a1 y7.2.2.1.1 y7.2.2.2.1)
 cond (ok_z1x y8.1.1 a0.2.2.2.2.1 a1 y7.2.2.1.1 y7.2.2.2.1)
 (cond (y9.1.1 != (0 : Int))
 (some (encRes ro_z1y rh_z1y (((1 : Int), ()), (((), (y7.2.1.2.1, ((), (y7.2.1.2.2.2.1, ())))), ((y9.2.1.1, ()), (y9.2.2.1, (y7.2.2.2.2.1, ((y7.2.2.2.2.2.1.1, ()), (y7.2.2.2.2.2.2.1, ())))))))))
 (some (encRes ro_z1y rh_z1y ((y7.1.2.2.1, ()), (((), (y7.2.1.2.1, ((), (y7.2.1.2.2.2.1, ())))), ((y9.2.1.1, ()), (y9.2.2.1, (y7.2.2.2.2.1, ((y7.2.2.2.2.2.1.1, ()), (y7.2.2.2.2.2.2.1, ()))))))))))
 (none))
 (none))
 (some (encRes ro_z1y rh_z1y ((y7.1.2.2.1, ()), (((), (y7.2.1.2.1, ((), (y7.2.1.2.2.2.1, ())))), ((y7.2.2.1.1, ()), (y7.2.2.2.1, (y7.2.2.2.2.1, ((y7.2.2.2.2.2.1.1, ()), (y7.2.2.2.2.2.2.1, ()))))))))))
 (let y4 : ((Unit × (Int × (Int × Unit))) × ((Unit × (Nat × (Unit × (Int × Unit)))) × ((Nat × Unit) × ((List Int) × ((List HeadS) × ((Nat × Unit) × ((List Int) × Unit))))))) := (q_z1o_1 a0 a2 a3 a4 a5 a6 a7 a8)
 cond (ok_z1o_1 a0 a2 a3 a4 a5 a6 a7 a8)
 (cond (y4.1.2.2.1 == (0 : Int))
 (let y5 : ((Int × Unit) × Unit) := (q_z04 y4.1.2.1 a0.2.2.2.1)
 cond (ok_z04 y4.1.2.1 a0.2.2.2.1)
 (let y6 : ((Int × Unit) × ((Nat × Unit) × ((List Int) × Unit))) := (q_z1x y5.1.1 a0.2.2.2.2.1 a1 y4.2.2.2.2.2.1.1 y4.2.2.2.2.2.2.1)
 cond (ok_z1x y5.1.1 a0.2.2.2.2.1 a1 y4.2.2.2.2.2.1.1 y4.2.2.2.2.2.2.1)
 (cond (y6.1.1 != (0 : Int))
 (some (encRes ro_z1y rh_z1y (((1 : Int), ()), (((), (y4.2.1.2.1, ((), (y4.2.1.2.2.2.1, ())))), ((y4.2.2.1.1, ()), (y4.2.2.2.1, (y4.2.2.2.2.1, ((y6.2.1.1, ()), (y6.2.2.1, ())))))))))
 (some (encRes ro_z1y rh_z1y ((y4.1.2.2.1, ()), (((), (y4.2.1.2.1, ((), (y4.2.1.2.2.2.1, ())))), ((y4.2.2.1.1, ()), (y4.2.2.2.1, (y4.2.2.2.2.1, ((y6.2.1.1, ()), (y6.2.2.1, ()))))))))))
 (none))
 (none))
 (some (encRes ro_z1y rh_z1y ((y4.1.2.2.1, ()), (((), (y4.2.1.2.1, ((), (y4.2.1.2.2.2.1, ())))), ((y4.2.2.1.1, ()), (y4.2.2.2.1, (y4.2.2.2.2.1, ((y4.2.2.2.2.2.1.1, ()), (y4.2.2.2.2.2.2.1, ()))))))))))
 (let y1 : ((Unit × (Int × (Int × Unit))) × ((Unit × (Nat × (Unit × (Int × Unit)))) × ((Nat × Unit) × ((List Int) × ((List HeadS) × ((Nat × Unit) × ((List Int) × Unit))))))) := (q_z1o_2 a0 a2 a3 a4 a5 a6 a7 a8)
 cond (ok_z1o_2 a0 a2 a3 a4 a5 a6 a7 a8)
 (cond (y1.1.2.2.1 == (0 : Int))
 (let y2 : ((Int × Unit) × Unit) := (q_z04 y1.1.2.1 a0.2.2.2.1)
 cond (ok_z04 y1.1.2.1 a0.2.2.2.1)
 (let y3 : ((Int × Unit) × Unit) := (q_z1v y2.1.1 a0.2.2.2.2.1 a1)
 cond (ok_z1v y2.1.1 a0.2.2.2.2.1 a1)
 (cond (y3.1.1 != (0 : Int))
 (some (encRes ro_z1y rh_z1y (((1 : Int), ()), (((), (y1.2.1.2.1, ((), (y1.2.1.2.2.2.1, ())))), ((y1.2.2.1.1, ()), (y1.2.2.2.1, (y1.2.2.2.2.1, ((y1.2.2.2.2.2.1.1, ()), (y1.2.2.2.2.2.2.1, ())))))))))
 (some (encRes ro_z1y rh_z1y ((y1.1.2.2.1, ()), (((), (y1.2.1.2.1, ((), (y1.2.1.2.2.2.1, ())))), ((y1.2.2.1.1, ()), (y1.2.2.2.1, (y1.2.2.2.2.1, ((y1.2.2.2.2.2.1.1, ()), (y1.2.2.2.2.2.2.1, ()))))))))))
 (none))
 (none))
 (some (encRes ro_z1y rh_z1y ((y1.1.2.2.1, ()), (((), (y1.2.1.2.1, ((), (y1.2.1.2.2.2.1, ())))), ((y1.2.2.1.1, ()), (y1.2.2.2.1, (y1.2.2.2.2.1, ((y1.2.2.2.2.2.1.1, ()), (y1.2.2.2.2.2.2.1, ()))))))))))
 (none)))
noncomputable def Q_z1y (a0 : FieldS) (a1 : WordS) (a2 : Nat) (a3 : Int) (a4 : Nat) (a5 : (List Int)) (a6 : (List HeadS)) (a7 : Nat) (a8 : (List Int)) : Option (RS ro_z1y rh_z1y) := decRes ro_z1y rh_z1y (M_z1y FUEL a0 a1 a2 a3 a4 a5 a6 a7 a8)
noncomputable def ok_z1y (a0 : FieldS) (a1 : WordS) (a2 : Nat) (a3 : Int) (a4 : Nat) (a5 : (List Int)) (a6 : (List HeadS)) (a7 : Nat) (a8 : (List Int)) : Bool := (Q_z1y a0 a1 a2 a3 a4 a5 a6 a7 a8).isSome
noncomputable def q_z1y (a0 : FieldS) (a1 : WordS) (a2 : Nat) (a3 : Int) (a4 : Nat) (a5 : (List Int)) (a6 : (List HeadS)) (a7 : Nat) (a8 : (List Int)) : RS ro_z1y rh_z1y := RS.get (Q_z1y a0 a1 a2 a3 a4 a5 a6 a7 a8)
/-! z1z: turnoutlaw18_KeyPut -/
abbrev ro_z1z : List EK := [.ty .bool]
abbrev rh_z1z : List HK := []
noncomputable def M_z1z (n : Nat) (a0 : ByteArray) (a1 : (List NodeS)) (a2 : FieldS) (a3 : WordS) : Option Res :=
 let y1 : ((Bool × Unit) × Unit) := (q_z0z a1)
 cond (ok_z0z a1)
 (cond y1.1.1
 (let y2 : ((Bool × Unit) × Unit) := q_z0v
 cond ok_z0v
 (some (encRes ro_z1z rh_z1z ((y2.1.1, ()), ())))
 (none))
 (cond (decide (((ByteArray.size a0 : Nat) : Int) > (10000 : Int)))
 (let y3 : ((Bool × Unit) × Unit) := q_z0v
 cond ok_z0v
 (some (encRes ro_z1z rh_z1z ((y3.1.1, ()), ())))
 (none))
 (let y4 : ((Bool × Unit) × Unit) := q_z0v
 cond ok_z0v
 (cond (!y4.1.1)
 (let y5 : ((Bool × Unit) × Unit) := q_z0v
 cond ok_z0v
 (some (encRes ro_z1z rh_z1z ((y5.1.1, ()), ())))
 (none))
 (let y14 : ((Unit × Unit) × Unit) := (q_z1t a0 a1)
 cond (ok_z1t a0 a1)
 (some (encRes ro_z1z rh_z1z ((true, ()), ())))
 (let y6 : ((Unit × Unit) × ((Unit × (Nat × (Unit × (Int × Unit)))) × ((Nat × Unit) × ((List Int) × ((List HeadS) × ((Nat × Unit) × ((List Int) × Unit))))))) := (q_z1t_1 a0 a1)
 cond (ok_z1t_1 a0 a1)
 (let y7 : ((Int × Unit) × ((Unit × (Nat × (Unit × (Int × Unit)))) × ((Nat × Unit) × ((List Int) × ((List HeadS) × ((Nat × Unit) × ((List Int) × Unit))))))) := (q_z1y a2 a3 y6.2.1.2.1 y6.2.1.2.2.2.1 y6.2.2.1.1 y6.2.2.2.1 y6.2.2.2.2.1 y6.2.2.2.2.2.1.1 y6.2.2.2.2.2.2.1)
 cond (ok_z1y a2 a3 y6.2.1.2.1 y6.2.1.2.2.2.1 y6.2.2.1.1 y6.2.2.2.1 y6.2.2.2.2.1 y6.2.2.2.2.2.1.1 y6.2.2.2.2.2.2.1)
 (cond (y7.1.1 != (0 : Int))
 (let y8 : ((ByteArray × (Int × Unit)) × ((Unit × (Nat × (Unit × (Int × Unit)))) × ((Nat × Unit) × ((List Int) × ((List HeadS) × ((Nat × Unit) × ((List Int) × Unit))))))) := (q_z1r ([a2]) y7.2.1.2.1 y7.2.1.2.2.2.1 y7.2.2.1.1 y7.2.2.2.1 y7.2.2.2.2.1 y7.2.2.2.2.2.1.1 y7.2.2.2.2.2.2.1)
 cond (ok_z1r ([a2]) y7.2.1.2.1 y7.2.1.2.2.2.1 y7.2.2.1.1 y7.2.2.2.1 y7.2.2.2.2.1 y7.2.2.2.2.2.1.1 y7.2.2.2.2.2.2.1)
 (cond (ByteArray.toList y8.1.1 == ByteArray.toList (ByteArray.mk #[]))
 (some (encRes ro_z1z rh_z1z (((y8.1.2.1 != (0 : Int)), ()), ())))
 (some (encRes ro_z1z rh_z1z ((false, ()), ()))))
 (none))
 (let y9 : ((ByteArray × (Int × Unit)) × ((Unit × (Nat × (Unit × (Int × Unit)))) × ((Nat × Unit) × ((List Int) × ((List HeadS) × ((Nat × Unit) × ((List Int) × Unit))))))) := (q_z1r ([a2]) y7.2.1.2.1 y7.2.1.2.2.2.1 y7.2.2.1.1 y7.2.2.2.1 y7.2.2.2.2.1 y7.2.2.2.2.2.1.1 y7.2.2.2.2.2.2.1)
 cond (ok_z1r ([a2]) y7.2.1.2.1 y7.2.1.2.2.2.1 y7.2.2.1.1 y7.2.2.2.1 y7.2.2.2.2.1 y7.2.2.2.2.2.1.1 y7.2.2.2.2.2.2.1)
 (let y10 : ((ByteArray × (Int × Unit)) × Unit) := (q_z0l a3 a2.2.2.2.2.1)
 cond (ok_z0l a3 a2.2.2.2.2.1)
 (let y11 : ((Int × (Int × Unit)) × ((Unit × (Nat × (Unit × (Int × Unit)))) × ((Nat × Unit) × ((List Int) × ((List HeadS) × ((Nat × Unit) × ((List Int) × Unit))))))) := (q_z1s a2 y9.2.1.2.1 y9.2.1.2.2.2.1 y9.2.2.1.1 y9.2.2.2.1 y9.2.2.2.2.1 y9.2.2.2.2.2.1.1 y9.2.2.2.2.2.2.1)
 cond (ok_z1s a2 y9.2.1.2.1 y9.2.1.2.2.2.1 y9.2.2.1.1 y9.2.2.2.1 y9.2.2.2.2.1 y9.2.2.2.2.2.1.1 y9.2.2.2.2.2.2.1)
 (cond (y9.1.2.1 == (0 : Int))
 (cond (y10.1.2.1 == (0 : Int))
 (cond (ByteArray.toList y9.1.1 == ByteArray.toList y10.1.1)
 (cond (y11.1.2.1 == (0 : Int))
 (let y12 : ((Int × Unit) × Unit) := (q_z0r ([y9.1.1]))
 cond (ok_z0r ([y9.1.1]))
 (let y13 : ((Int × Unit) × Unit) := (q_z0s y12.1.1)
 cond (ok_z0s y12.1.1)
 (some (encRes ro_z1z rh_z1z (((y11.1.1 == y13.1.1), ()), ())))
 (none))
 (none))
 (some (encRes ro_z1z rh_z1z ((false, ()), ()))))
 (some (encRes ro_z1z rh_z1z ((false, ()), ()))))
 (some (encRes ro_z1z rh_z1z ((false, ()), ()))))
 (some (encRes ro_z1z rh_z1z ((false, ()), ()))))
 (none))
 (none))
 (none)))
 (none))
 (none))))
 (none))))
 (none)
noncomputable def Q_z1z (a0 : ByteArray) (a1 : (List NodeS)) (a2 : FieldS) (a3 : WordS) : Option (RS ro_z1z rh_z1z) := decRes ro_z1z rh_z1z (M_z1z FUEL a0 a1 a2 a3)
noncomputable def ok_z1z (a0 : ByteArray) (a1 : (List NodeS)) (a2 : FieldS) (a3 : WordS) : Bool := (Q_z1z a0 a1 a2 a3).isSome
noncomputable def q_z1z (a0 : ByteArray) (a1 : (List NodeS)) (a2 : FieldS) (a3 : WordS) : RS ro_z1z rh_z1z := RS.get (Q_z1z a0 a1 a2 a3)
end Go.AMach
