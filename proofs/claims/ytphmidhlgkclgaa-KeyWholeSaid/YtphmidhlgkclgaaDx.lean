/- A part of the walk. -/
import Derived.Test.YtphmidhlgkclgaaAm21
import Derived.Test.YtphmidhlgkclgaaAm24
namespace Go.AMach
set_option linter.unusedVariables false
set_option linter.unusedSimpArgs false
set_option linter.unnecessarySimpa false
set_option linter.unusedVariables false
abbrev ArgT : Ty := (.pair (.int .u8) (.pair (.int .u64) .unit))
abbrev ArgS : Type := (Int × (Int × Unit))
abbrev zArgS : ArgS := ((0 : Int), ((0 : Int), ()))
abbrev ArmT : Ty := (.pair (.int .u32) (.pair (.int .i64) .unit))
abbrev ArmS : Type := (Int × (Int × Unit))
abbrev zArmS : ArmS := ((0 : Int), ((0 : Int), ()))
abbrev HeadT : Ty := (.pair (.int .i64) (.pair (.int .i64) .unit))
abbrev HeadS : Type := (Int × (Int × Unit))
abbrev zHeadS : HeadS := ((0 : Int), ((0 : Int), ()))
abbrev WordT : Ty := (.pair (.int .u64) (.pair (.int .u64) .unit))
abbrev WordS : Type := (Int × (Int × Unit))
abbrev zWordS : WordS := ((0 : Int), ((0 : Int), ()))
abbrev BucketT : Ty := (.pair (.int .u64) (.pair (.int .i64) .unit))
abbrev BucketS : Type := (Int × (Int × Unit))
abbrev zBucketS : BucketS := ((0 : Int), ((0 : Int), ()))
abbrev SpanT : Ty := (.pair (.int .i64) HeadT)
abbrev SpanS : Type := (Int × HeadS)
abbrev zSpanS : SpanS := ((0 : Int), zHeadS)
abbrev ComeT : Ty := (.pair HeadT (.pair .bool (.pair (.int .i64) .unit)))
abbrev ComeS : Type := (HeadS × (Bool × (Int × Unit)))
abbrev zComeS : ComeS := (zHeadS, (false, ((0 : Int), ())))
abbrev FieldT : Ty := (.pair (.int .i64) (.pair (.int .u8) SpanT))
abbrev FieldS : Type := (Int × (Int × SpanS))
abbrev zFieldS : FieldS := ((0 : Int), ((0 : Int), zSpanS))
abbrev TableT : Ty := (.pair (.int .i64) (.pair (.int .u8) (.pair (.slice (.int .i64)) HeadT)))
abbrev TableS : Type := (Int × (Int × ((List Int) × HeadS)))
abbrev zTableS : TableS := ((0 : Int), ((0 : Int), ([], zHeadS)))
abbrev PacketT : Ty := (.pair .str (.pair .str (.pair (.int .i64) (.pair (.slice HeadT) .unit))))
abbrev PacketS : Type := (ByteArray × (ByteArray × (Int × ((List HeadS) × Unit))))
abbrev zPacketS : PacketS := (ByteArray.empty, (ByteArray.empty, ((0 : Int), ([], ()))))
abbrev GroupT : Ty := (.pair (.int .i64) (.pair (.int .u8) (.pair (.int .i64) (.pair (.slice BucketT) .unit))))
abbrev GroupS : Type := (Int × (Int × (Int × ((List BucketS) × Unit))))
abbrev zGroupS : GroupS := ((0 : Int), ((0 : Int), ((0 : Int), ([], ()))))
abbrev InstrT : Ty := (.pair (.int .u8) (.pair (.int .i64) (.pair ArgT (.pair ArgT (.pair (.int .i64) .unit)))))
abbrev InstrS : Type := (Int × (Int × (ArgS × (ArgS × (Int × Unit)))))
abbrev zInstrS : InstrS := ((0 : Int), ((0 : Int), (zArgS, (zArgS, ((0 : Int), ())))))
abbrev BlockT : Ty := (.pair (.int .i64) (.pair (.slice InstrT) .unit))
abbrev BlockS : Type := (Int × ((List InstrS) × Unit))
abbrev zBlockS : BlockS := ((0 : Int), ([], ()))
abbrev EntryT : Ty := (.pair (.int .i64) (.pair .str (.pair .str (.pair (.int .i64) (.pair (.int .i64) (.pair (.int .i64) (.pair (.slice (.int .u64)) (.pair (.int .i64) (.pair (.int .i64) (.pair (.int .u64) (.pair .bool .unit)))))))))))
abbrev EntryS : Type := (Int × (ByteArray × (ByteArray × (Int × (Int × (Int × ((List Int) × (Int × (Int × (Int × (Bool × Unit)))))))))))
abbrev zEntryS : EntryS := ((0 : Int), (ByteArray.empty, (ByteArray.empty, ((0 : Int), ((0 : Int), ((0 : Int), ([], ((0 : Int), ((0 : Int), ((0 : Int), (false, ())))))))))))
abbrev NodeT : Ty := (.pair (.int .i64) (.pair (.int .i64) (.pair (.int .i64) (.pair (.int .i64) (.pair (.int .i64) (.pair (.int .i64) (.pair (.int .i64) (.pair (.slice ArmT) (.pair (.int .i64) .unit)))))))))
abbrev NodeS : Type := (Int × (Int × (Int × (Int × (Int × (Int × (Int × ((List ArmS) × (Int × Unit)))))))))
abbrev zNodeS : NodeS := ((0 : Int), ((0 : Int), ((0 : Int), ((0 : Int), ((0 : Int), ((0 : Int), ((0 : Int), ([], ((0 : Int), ())))))))))
abbrev ConfigT : Ty := (.pair (.slice NodeT) (.pair (.slice FieldT) (.pair (.slice TableT) (.pair (.slice EntryT) (.pair (.slice BlockT) (.pair (.slice GroupT) (.pair (.slice SpanT) (.pair (.slice HeadT) (.pair (.slice (.int .i64)) .unit)))))))))
abbrev ConfigS : Type := ((List NodeS) × ((List FieldS) × ((List TableS) × ((List EntryS) × ((List BlockS) × ((List GroupS) × ((List SpanS) × ((List HeadS) × ((List Int) × Unit)))))))))
abbrev zConfigS : ConfigS := ([], ([], ([], ([], ([], ([], ([], ([], ([], ())))))))))
/-! ### buf_New -/
abbrev ro_buf_New : List EK := [.nul 0, .ci .i64 (5 : Int)]
abbrev rh_buf_New : List HK := []
abbrev ro_buf_New_1 : List EK := [.ptr 0 0 0, .ci .i64 (0 : Int)]
abbrev rh_buf_New_1 : List HK := [.one false [.hs 1 0], .row (.int .u8)]
noncomputable def M_buf_New (n : Nat) (a0 : ByteArray) : Option Res :=
 cond (decide (((ByteArray.size a0 : Nat) : Int) > (9216 : Int)))
 (some (encRes ro_buf_New rh_buf_New (((), ((), ())), ())))
 (some (encRes ro_buf_New_1 rh_buf_New_1 (((), ((), ())), (((ByteArray.size a0), ()), ((bytesL a0), ())))))
noncomputable def Q_buf_New (a0 : ByteArray) : Option (RS ro_buf_New rh_buf_New) := decRes ro_buf_New rh_buf_New (M_buf_New FUEL a0)
noncomputable def Q_buf_New_1 (a0 : ByteArray) : Option (RS ro_buf_New_1 rh_buf_New_1) := decRes ro_buf_New_1 rh_buf_New_1 (M_buf_New FUEL a0)
noncomputable def ok_buf_New_1 (a0 : ByteArray) : Bool := (Q_buf_New_1 a0).isSome
noncomputable def q_buf_New_1 (a0 : ByteArray) : RS ro_buf_New_1 rh_buf_New_1 := RS.get (Q_buf_New_1 a0)
noncomputable def ok_buf_New (a0 : ByteArray) : Bool := (Q_buf_New a0).isSome
noncomputable def q_buf_New (a0 : ByteArray) : RS ro_buf_New rh_buf_New := RS.get (Q_buf_New a0)
/-! ### pack_New -/
abbrev ro_pack_New : List EK := [.ptr 0 0 0, .ci .i64 (0 : Int)]
abbrev rh_pack_New : List HK := [.one false [.ptr 1 0 0, .nul 4, .ptr 3 0 0, .ty (.int .i64)], .one false [.hs 2 0], .row (.int .u8), .one false [.hs 4 0], .row (.int .u8)]
abbrev ro_pack_New_1 : List EK := [.ptr 0 0 0, .ci .i64 (0 : Int)]
abbrev rh_pack_New_1 : List HK := [.one false [.ptr 1 0 0, .nul 4, .nul 0, .ty (.int .i64)], .one false [.hs 2 0], .row (.int .u8)]
abbrev ro_pack_New_2 : List EK := [.nul 0, .ci .i64 (10 : Int)]
abbrev rh_pack_New_2 : List HK := []
noncomputable def M_pack_New (n : Nat) (a0 : Int) (a1 : ByteArray) : Option Res :=
 let y4 : ((Unit × (Unit × Unit)) × Unit) := (q_buf_New a1)
 cond (ok_buf_New a1)
 (some (encRes ro_pack_New_2 rh_pack_New_2 (((), ((), ())), ())))
 (let y1 : ((Unit × (Unit × Unit)) × ((Nat × Unit) × ((List Int) × Unit))) := (q_buf_New_1 a1)
 cond (ok_buf_New_1 a1)
 (cond (decide ((0 : Int) ≤ (32 : Int) ∧ (32 : Int) ≤ (32 : Int) ∧ (1 : Nat) * (32 : Int) ≤ (2 : Int) ^ 46))
 (let y3 : ((Unit × (Unit × Unit)) × Unit) := (q_buf_New (bytesOf (mkL (Int.toNat (32 : Int)) (fun i => (0 : Int)))))
 cond (ok_buf_New (bytesOf (mkL (Int.toNat (32 : Int)) (fun i => (0 : Int)))))
 (some (encRes ro_pack_New_1 rh_pack_New_1 (((), ((), ())), (((), ((), ((), (a0, ())))), ((y1.2.1.1, ()), (y1.2.2.1, ()))))))
 (let y2 : ((Unit × (Unit × Unit)) × ((Nat × Unit) × ((List Int) × Unit))) := (q_buf_New_1 (bytesOf (mkL (Int.toNat (32 : Int)) (fun i => (0 : Int)))))
 cond (ok_buf_New_1 (bytesOf (mkL (Int.toNat (32 : Int)) (fun i => (0 : Int)))))
 (some (encRes ro_pack_New rh_pack_New (((), ((), ())), (((), ((), ((), (a0, ())))), ((y1.2.1.1, ()), (y1.2.2.1, ((y2.2.1.1, ()), (y2.2.2.1, ()))))))))
 (none)))
 (none))
 (none))
noncomputable def Q_pack_New (a0 : Int) (a1 : ByteArray) : Option (RS ro_pack_New rh_pack_New) := decRes ro_pack_New rh_pack_New (M_pack_New FUEL a0 a1)
noncomputable def Q_pack_New_1 (a0 : Int) (a1 : ByteArray) : Option (RS ro_pack_New_1 rh_pack_New_1) := decRes ro_pack_New_1 rh_pack_New_1 (M_pack_New FUEL a0 a1)
noncomputable def ok_pack_New_1 (a0 : Int) (a1 : ByteArray) : Bool := (Q_pack_New_1 a0 a1).isSome
noncomputable def q_pack_New_1 (a0 : Int) (a1 : ByteArray) : RS ro_pack_New_1 rh_pack_New_1 := RS.get (Q_pack_New_1 a0 a1)
noncomputable def Q_pack_New_2 (a0 : Int) (a1 : ByteArray) : Option (RS ro_pack_New_2 rh_pack_New_2) := decRes ro_pack_New_2 rh_pack_New_2 (M_pack_New FUEL a0 a1)
noncomputable def ok_pack_New_2 (a0 : Int) (a1 : ByteArray) : Bool := (Q_pack_New_2 a0 a1).isSome
noncomputable def q_pack_New_2 (a0 : Int) (a1 : ByteArray) : RS ro_pack_New_2 rh_pack_New_2 := RS.get (Q_pack_New_2 a0 a1)
noncomputable def ok_pack_New (a0 : Int) (a1 : ByteArray) : Bool := (Q_pack_New a0 a1).isSome
noncomputable def q_pack_New (a0 : Int) (a1 : ByteArray) : RS ro_pack_New rh_pack_New := RS.get (Q_pack_New a0 a1)
/-! ### turnoutlaw18_bits -/
abbrev ro_turnoutlaw18_bits : List EK := [.agg FieldT]
abbrev rh_turnoutlaw18_bits : List HK := []
noncomputable def M_turnoutlaw18_bits (n : Nat) (a0 : Int) (a1 : Int) : Option Res :=
 some (encRes ro_turnoutlaw18_bits rh_turnoutlaw18_bits ((((1 : Int), ((1 : Int), ((0 : Int), (a0, (a1, ()))))), ()), ()))
noncomputable def Q_turnoutlaw18_bits (a0 : Int) (a1 : Int) : Option (RS ro_turnoutlaw18_bits rh_turnoutlaw18_bits) := decRes ro_turnoutlaw18_bits rh_turnoutlaw18_bits (M_turnoutlaw18_bits FUEL a0 a1)
noncomputable def ok_turnoutlaw18_bits (a0 : Int) (a1 : Int) : Bool := (Q_turnoutlaw18_bits a0 a1).isSome
noncomputable def q_turnoutlaw18_bits (a0 : Int) (a1 : Int) : RS ro_turnoutlaw18_bits rh_turnoutlaw18_bits := RS.get (Q_turnoutlaw18_bits a0 a1)
/-! ### pack_Packet_placexe04 -/
abbrev ro_pack_Packet_placexe04 : List EK := [.ptr 1 0 0, .ty (.int .i64), .ty (.int .i64)]
abbrev rh_pack_Packet_placexe04 : List HK := [.one false [.ptr 1 0 0, .nul 4, .ptr 3 0 0, .ty (.int .i64)], .one false [.hs 2 0], .row (.int .u8), .one false [.hs 4 0], .row (.int .u8)]
abbrev ro_pack_Packet_placexe04_1 : List EK := [.ptr 3 0 0, .ty (.int .i64), .ty (.int .i64)]
abbrev rh_pack_Packet_placexe04_1 : List HK := [.one false [.ptr 1 0 0, .nul 4, .ptr 3 0 0, .ty (.int .i64)], .one false [.hs 2 0], .row (.int .u8), .one false [.hs 4 0], .row (.int .u8)]
abbrev ro_pack_Packet_placexe04_2 : List EK := [.nul 0, .ty (.int .i64), .ty (.int .i64)]
abbrev rh_pack_Packet_placexe04_2 : List HK := [.one false [.ptr 1 0 0, .nul 4, .ptr 3 0 0, .ty (.int .i64)], .one false [.hs 2 0], .row (.int .u8), .one false [.hs 4 0], .row (.int .u8)]
noncomputable def F_pack_Packet_placexe04_1 (n : Nat) (k_r : Int → Int → Option Res) (k_t1 : Unit → Option Res) (x1_0 : Nat) (x1_1 : Int) (x1_8 : FieldS) (x1_9 : (List HeadS)) (rec : Int → Option Res) (x1_2 : Int) : Option Res :=
 cond (decide (x1_2 < x1_1))
 (cond (decide ((0 : Int) ≤ x1_2 ∧ x1_2 < ((x1_0 : Nat) : Int)))
 (cond ((rdd zHeadS x1_9 (Int.toNat x1_2)).1 == x1_8.2.2.1)
 (k_r ((rdd zHeadS x1_9 (Int.toNat x1_2)).2.1) (0 : Int))
 (rec (IntKind.wrap .i64 (x1_2 + (1 : Int)))))
 (none))
 (k_t1 ())
noncomputable def L_pack_Packet_placexe04_1 (n : Nat) (k_r : Int → Int → Option Res) (k_t1 : Unit → Option Res) (x1_0 : Nat) (x1_1 : Int) (x1_8 : FieldS) (x1_9 : (List HeadS)) : Nat → Int → Option Res
  | 0, _ => none
  | m + 1, x1_2 => F_pack_Packet_placexe04_1 n k_r k_t1 x1_0 x1_1 x1_8 x1_9 (L_pack_Packet_placexe04_1 n k_r k_t1 x1_0 x1_1 x1_8 x1_9 m) x1_2
noncomputable def M_pack_Packet_placexe04 (n : Nat) (a0 : FieldS) (a1 : Int) (a2 : Nat) (a3 : (List Int)) (a4 : Nat) (a5 : (List Int)) : Option Res :=
 cond (a0.2.1 == (1 : Int))
 (some (encRes ro_pack_Packet_placexe04 rh_pack_Packet_placexe04 (((), ((0 : Int), ((0 : Int), ()))), (((), ((), ((), (a1, ())))), ((a2, ()), (a3, ((a4, ()), (a5, ()))))))))
 (cond (a0.2.1 == (3 : Int))
 (some (encRes ro_pack_Packet_placexe04_1 rh_pack_Packet_placexe04_1 (((), ((0 : Int), ((0 : Int), ()))), (((), ((), ((), (a1, ())))), ((a2, ()), (a3, ((a4, ()), (a5, ()))))))))
 (cond (a0.2.1 == (2 : Int))
 (L_pack_Packet_placexe04_1 n
  (fun y1 y2 => some (encRes ro_pack_Packet_placexe04 rh_pack_Packet_placexe04 (((), (y1, (y2, ()))), (((), ((), ((), (a1, ())))), ((a2, ()), (a3, ((a4, ()), (a5, ()))))))))
  (fun _ => some (encRes ro_pack_Packet_placexe04_2 rh_pack_Packet_placexe04_2 (((), ((0 : Int), ((3 : Int), ()))), (((), ((), ((), (a1, ())))), ((a2, ()), (a3, ((a4, ()), (a5, ()))))))))
  0
  (0 : Int)
  a0
  ([])
  n
  (0 : Int))
 (some (encRes ro_pack_Packet_placexe04_2 rh_pack_Packet_placexe04_2 (((), ((0 : Int), ((3 : Int), ()))), (((), ((), ((), (a1, ())))), ((a2, ()), (a3, ((a4, ()), (a5, ()))))))))))
noncomputable def Q_pack_Packet_placexe04 (a0 : FieldS) (a1 : Int) (a2 : Nat) (a3 : (List Int)) (a4 : Nat) (a5 : (List Int)) : Option (RS ro_pack_Packet_placexe04 rh_pack_Packet_placexe04) := decRes ro_pack_Packet_placexe04 rh_pack_Packet_placexe04 (M_pack_Packet_placexe04 FUEL a0 a1 a2 a3 a4 a5)
noncomputable def Q_pack_Packet_placexe04_1 (a0 : FieldS) (a1 : Int) (a2 : Nat) (a3 : (List Int)) (a4 : Nat) (a5 : (List Int)) : Option (RS ro_pack_Packet_placexe04_1 rh_pack_Packet_placexe04_1) := decRes ro_pack_Packet_placexe04_1 rh_pack_Packet_placexe04_1 (M_pack_Packet_placexe04 FUEL a0 a1 a2 a3 a4 a5)
noncomputable def ok_pack_Packet_placexe04_1 (a0 : FieldS) (a1 : Int) (a2 : Nat) (a3 : (List Int)) (a4 : Nat) (a5 : (List Int)) : Bool := (Q_pack_Packet_placexe04_1 a0 a1 a2 a3 a4 a5).isSome
noncomputable def q_pack_Packet_placexe04_1 (a0 : FieldS) (a1 : Int) (a2 : Nat) (a3 : (List Int)) (a4 : Nat) (a5 : (List Int)) : RS ro_pack_Packet_placexe04_1 rh_pack_Packet_placexe04_1 := RS.get (Q_pack_Packet_placexe04_1 a0 a1 a2 a3 a4 a5)
noncomputable def Q_pack_Packet_placexe04_2 (a0 : FieldS) (a1 : Int) (a2 : Nat) (a3 : (List Int)) (a4 : Nat) (a5 : (List Int)) : Option (RS ro_pack_Packet_placexe04_2 rh_pack_Packet_placexe04_2) := decRes ro_pack_Packet_placexe04_2 rh_pack_Packet_placexe04_2 (M_pack_Packet_placexe04 FUEL a0 a1 a2 a3 a4 a5)
noncomputable def ok_pack_Packet_placexe04_2 (a0 : FieldS) (a1 : Int) (a2 : Nat) (a3 : (List Int)) (a4 : Nat) (a5 : (List Int)) : Bool := (Q_pack_Packet_placexe04_2 a0 a1 a2 a3 a4 a5).isSome
noncomputable def q_pack_Packet_placexe04_2 (a0 : FieldS) (a1 : Int) (a2 : Nat) (a3 : (List Int)) (a4 : Nat) (a5 : (List Int)) : RS ro_pack_Packet_placexe04_2 rh_pack_Packet_placexe04_2 := RS.get (Q_pack_Packet_placexe04_2 a0 a1 a2 a3 a4 a5)
noncomputable def ok_pack_Packet_placexe04 (a0 : FieldS) (a1 : Int) (a2 : Nat) (a3 : (List Int)) (a4 : Nat) (a5 : (List Int)) : Bool := (Q_pack_Packet_placexe04 a0 a1 a2 a3 a4 a5).isSome
noncomputable def q_pack_Packet_placexe04 (a0 : FieldS) (a1 : Int) (a2 : Nat) (a3 : (List Int)) (a4 : Nat) (a5 : (List Int)) : RS ro_pack_Packet_placexe04 rh_pack_Packet_placexe04 := RS.get (Q_pack_Packet_placexe04 a0 a1 a2 a3 a4 a5)
/-! ### pack_bit -/
abbrev ro_pack_bit : List EK := [.ty (.int .i64)]
abbrev rh_pack_bit : List HK := []
noncomputable def M_pack_bit (n : Nat) (a0 : Int) (a1 : Int) : Option Res :=
 cond (decide (a1 < (0 : Int)))
 (some (encRes ro_pack_bit rh_pack_bit (((-1 : Int), ()), ())))
 (let y1 : Int := (IntKind.wrap .i64 ((IntKind.wrap .i64 ((8 : Int) * a0)) + (if (147456 : Int) < a1 then (147456 : Int) else a1)))
 some (encRes ro_pack_bit rh_pack_bit ((y1, ()), ())))
noncomputable def Q_pack_bit (a0 : Int) (a1 : Int) : Option (RS ro_pack_bit rh_pack_bit) := decRes ro_pack_bit rh_pack_bit (M_pack_bit FUEL a0 a1)
noncomputable def ok_pack_bit (a0 : Int) (a1 : Int) : Bool := (Q_pack_bit a0 a1).isSome
noncomputable def q_pack_bit (a0 : Int) (a1 : Int) : RS ro_pack_bit rh_pack_bit := RS.get (Q_pack_bit a0 a1)
/-! ### buf_Buf_Getx845 -/
abbrev ro_buf_Buf_Getx845 : List EK := [.agg WordT, .ty (.int .i64)]
abbrev rh_buf_Buf_Getx845 : List HK := []
noncomputable def M_buf_Buf_Getx845 (n : Nat) (a0 : Int) (a1 : Int) : Option Res :=
 some (encRes ro_buf_Buf_Getx845 rh_buf_Buf_Getx845 ((((0 : Int), ((0 : Int), ())), ((2 : Int), ())), ()))
noncomputable def Q_buf_Buf_Getx845 (a0 : Int) (a1 : Int) : Option (RS ro_buf_Buf_Getx845 rh_buf_Buf_Getx845) := decRes ro_buf_Buf_Getx845 rh_buf_Buf_Getx845 (M_buf_Buf_Getx845 FUEL a0 a1)
noncomputable def ok_buf_Buf_Getx845 (a0 : Int) (a1 : Int) : Bool := (Q_buf_Buf_Getx845 a0 a1).isSome
noncomputable def q_buf_Buf_Getx845 (a0 : Int) (a1 : Int) : RS ro_buf_Buf_Getx845 rh_buf_Buf_Getx845 := RS.get (Q_buf_Buf_Getx845 a0 a1)
/-! ### buf_Buf_windowx37e -/
abbrev ro_buf_Buf_windowx37e : List EK := [.hs 1 0, .ty (.int .i64)]
abbrev rh_buf_Buf_windowx37e : List HK := [.one false [.hs 1 0], .row (.int .u8)]
abbrev ro_buf_Buf_windowx37e_1 : List EK := [.hv 1, .ty (.int .i64)]
abbrev rh_buf_Buf_windowx37e_1 : List HK := [.one false [.hs 1 0], .row (.int .u8)]
noncomputable def M_buf_Buf_windowx37e (n : Nat) (a0 : Int) (a1 : Int) (a2 : Nat) (a3 : (List Int)) : Option Res :=
 cond (decide (a0 < (0 : Int)))
 (some (encRes ro_buf_Buf_windowx37e rh_buf_Buf_windowx37e ((a2, ((0 : Int), ())), ((a2, ()), (a3, ())))))
 (cond (decide (a1 < (1 : Int)))
 (some (encRes ro_buf_Buf_windowx37e rh_buf_Buf_windowx37e ((a2, ((0 : Int), ())), ((a2, ()), (a3, ())))))
 (cond (decide (a1 > (128 : Int)))
 (some (encRes ro_buf_Buf_windowx37e rh_buf_Buf_windowx37e ((a2, ((0 : Int), ())), ((a2, ()), (a3, ())))))
 (cond (decide (a0 > (IntKind.wrap .i64 ((IntKind.wrap .i64 ((8 : Int) * ((a2 : Nat) : Int))) - a1))))
 (some (encRes ro_buf_Buf_windowx37e rh_buf_Buf_windowx37e ((a2, ((0 : Int), ())), ((a2, ()), (a3, ())))))
 (cond ((8 : Int) != 0)
 (cond ((8 : Int) != 0)
 (let y1 : Int := (IntKind.wrap .i64 (Int.tdiv (IntKind.wrap .i64 ((IntKind.wrap .i64 (a0 + a1)) + (7 : Int))) (8 : Int)))
 cond (decide ((0 : Int) ≤ (IntKind.wrap .i64 (Int.tdiv a0 (8 : Int))) ∧ (IntKind.wrap .i64 (Int.tdiv a0 (8 : Int))) ≤ y1 ∧ y1 ≤ ((a2 : Nat) : Int) ∧ ((a2 : Nat) : Int) ≤ ((a2 : Nat) : Int)))
 (some (encRes ro_buf_Buf_windowx37e_1 rh_buf_Buf_windowx37e_1 (((((0 + Int.toNat (IntKind.wrap .i64 (Int.tdiv a0 (8 : Int)))), (Int.toNat y1 - Int.toNat (IntKind.wrap .i64 (Int.tdiv a0 (8 : Int))))).1, ((0 + Int.toNat (IntKind.wrap .i64 (Int.tdiv a0 (8 : Int)))), (Int.toNat y1 - Int.toNat (IntKind.wrap .i64 (Int.tdiv a0 (8 : Int))))).2), ((IntKind.wrap .i64 (Int.tdiv a0 (8 : Int))), ())), ((a2, ()), (a3, ())))))
 (none))
 (none))
 (none)))))
noncomputable def Q_buf_Buf_windowx37e (a0 : Int) (a1 : Int) (a2 : Nat) (a3 : (List Int)) : Option (RS ro_buf_Buf_windowx37e rh_buf_Buf_windowx37e) := decRes ro_buf_Buf_windowx37e rh_buf_Buf_windowx37e (M_buf_Buf_windowx37e FUEL a0 a1 a2 a3)
noncomputable def Q_buf_Buf_windowx37e_1 (a0 : Int) (a1 : Int) (a2 : Nat) (a3 : (List Int)) : Option (RS ro_buf_Buf_windowx37e_1 rh_buf_Buf_windowx37e_1) := decRes ro_buf_Buf_windowx37e_1 rh_buf_Buf_windowx37e_1 (M_buf_Buf_windowx37e FUEL a0 a1 a2 a3)
noncomputable def ok_buf_Buf_windowx37e_1 (a0 : Int) (a1 : Int) (a2 : Nat) (a3 : (List Int)) : Bool := (Q_buf_Buf_windowx37e_1 a0 a1 a2 a3).isSome
noncomputable def q_buf_Buf_windowx37e_1 (a0 : Int) (a1 : Int) (a2 : Nat) (a3 : (List Int)) : RS ro_buf_Buf_windowx37e_1 rh_buf_Buf_windowx37e_1 := RS.get (Q_buf_Buf_windowx37e_1 a0 a1 a2 a3)
noncomputable def ok_buf_Buf_windowx37e (a0 : Int) (a1 : Int) (a2 : Nat) (a3 : (List Int)) : Bool := (Q_buf_Buf_windowx37e a0 a1 a2 a3).isSome
noncomputable def q_buf_Buf_windowx37e (a0 : Int) (a1 : Int) (a2 : Nat) (a3 : (List Int)) : RS ro_buf_Buf_windowx37e rh_buf_Buf_windowx37e := RS.get (Q_buf_Buf_windowx37e a0 a1 a2 a3)
/-! ### field_may -/
abbrev ro_field_may : List EK := [.ty (.int .i64)]
abbrev rh_field_may : List HK := []
noncomputable def M_field_may (n : Nat) (a0 : ByteArray) (a1 : Int) (a2 : Int) : Option Res :=
 cond (decide (a2 < (1 : Int)))
 (some (encRes ro_field_may rh_field_may (((1 : Int), ()), ())))
 (cond (decide (a2 > (128 : Int)))
 (some (encRes ro_field_may rh_field_may (((1 : Int), ()), ())))
 (cond (decide (a1 < (0 : Int)))
 (some (encRes ro_field_may rh_field_may (((1 : Int), ()), ())))
 (let y1 : Int := (IntKind.wrap .i64 ((IntKind.wrap .i64 ((8 : Int) * ((ByteArray.size a0 : Nat) : Int))) - a2))
 cond (decide (a1 > y1))
 (some (encRes ro_field_may rh_field_may (((4 : Int), ()), ())))
 (some (encRes ro_field_may rh_field_may (((0 : Int), ()), ()))))))
noncomputable def Q_field_may (a0 : ByteArray) (a1 : Int) (a2 : Int) : Option (RS ro_field_may rh_field_may) := decRes ro_field_may rh_field_may (M_field_may FUEL a0 a1 a2)
noncomputable def ok_field_may (a0 : ByteArray) (a1 : Int) (a2 : Int) : Bool := (Q_field_may a0 a1 a2).isSome
noncomputable def q_field_may (a0 : ByteArray) (a1 : Int) (a2 : Int) : RS ro_field_may rh_field_may := RS.get (Q_field_may a0 a1 a2)
/-! ### word_Left -/
abbrev ro_word_Left : List EK := [.agg WordT]
abbrev rh_word_Left : List HK := []
noncomputable def M_word_Left (n : Nat) (a0 : WordS) (a1 : Int) : Option Res :=
 cond (decide (a1 ≤ (0 : Int)))
 (some (encRes ro_word_Left rh_word_Left ((a0, ()), ())))
 (cond (decide (a1 ≥ (64 : Int)))
 (cond (decide ((0 : Int) ≤ (IntKind.wrap .i64 (a1 - (64 : Int)))))
 (let y1 : Int := (IntKind.wrap .u64 (a0.2.1 * 2 ^ (min (Int.toNat (IntKind.wrap .i64 (a1 - (64 : Int)))) (IntKind.bits .u64))))
 some (encRes ro_word_Left rh_word_Left (((y1, ((0 : Int), ())), ()), ())))
 (none))
 (cond (decide ((0 : Int) ≤ a1))
 (cond (decide ((0 : Int) ≤ (IntKind.wrap .i64 ((64 : Int) - a1))))
 (let y2 : Int := (Int.fdiv a0.2.1 (2 ^ (min (Int.toNat (IntKind.wrap .i64 ((64 : Int) - a1))) (IntKind.bits .u64))))
 let y3 : Int := (IntKind.wrap .u64 (BitVec.toNat (BitVec.ofInt (IntKind.bits .u64) (IntKind.wrap .u64 (a0.1 * 2 ^ (min (Int.toNat a1) (IntKind.bits .u64)))) ||| BitVec.ofInt (IntKind.bits .u64) y2) : Nat))
 cond (decide ((0 : Int) ≤ a1))
 (some (encRes ro_word_Left rh_word_Left (((y3, ((IntKind.wrap .u64 (a0.2.1 * 2 ^ (min (Int.toNat a1) (IntKind.bits .u64)))), ())), ()), ())))
 (none))
 (none))
 (none)))
noncomputable def Q_word_Left (a0 : WordS) (a1 : Int) : Option (RS ro_word_Left rh_word_Left) := decRes ro_word_Left rh_word_Left (M_word_Left FUEL a0 a1)
noncomputable def ok_word_Left (a0 : WordS) (a1 : Int) : Bool := (Q_word_Left a0 a1).isSome
noncomputable def q_word_Left (a0 : WordS) (a1 : Int) : RS ro_word_Left rh_word_Left := RS.get (Q_word_Left a0 a1)
/-! ### word_New -/
abbrev ro_word_New : List EK := [.agg WordT]
abbrev rh_word_New : List HK := []
noncomputable def M_word_New (n : Nat) (a0 : Int) : Option Res :=
 some (encRes ro_word_New rh_word_New ((((0 : Int), (a0, ())), ()), ()))
noncomputable def Q_word_New (a0 : Int) : Option (RS ro_word_New rh_word_New) := decRes ro_word_New rh_word_New (M_word_New FUEL a0)
noncomputable def ok_word_New (a0 : Int) : Bool := (Q_word_New a0).isSome
noncomputable def q_word_New (a0 : Int) : RS ro_word_New rh_word_New := RS.get (Q_word_New a0)
/-! ### word_Or -/
abbrev ro_word_Or : List EK := [.agg WordT]
abbrev rh_word_Or : List HK := []
noncomputable def M_word_Or (n : Nat) (a0 : WordS) (a1 : WordS) : Option Res :=
 let y1 : Int := (IntKind.wrap .u64 (BitVec.toNat (BitVec.ofInt (IntKind.bits .u64) a0.1 ||| BitVec.ofInt (IntKind.bits .u64) a1.1) : Nat))
 let y2 : Int := (IntKind.wrap .u64 (BitVec.toNat (BitVec.ofInt (IntKind.bits .u64) a0.2.1 ||| BitVec.ofInt (IntKind.bits .u64) a1.2.1) : Nat))
 some (encRes ro_word_Or rh_word_Or (((y1, (y2, ())), ()), ()))
noncomputable def Q_word_Or (a0 : WordS) (a1 : WordS) : Option (RS ro_word_Or rh_word_Or) := decRes ro_word_Or rh_word_Or (M_word_Or FUEL a0 a1)
noncomputable def ok_word_Or (a0 : WordS) (a1 : WordS) : Bool := (Q_word_Or a0 a1).isSome
noncomputable def q_word_Or (a0 : WordS) (a1 : WordS) : RS ro_word_Or rh_word_Or := RS.get (Q_word_Or a0 a1)
/-! ### word_Not -/
abbrev ro_word_Not : List EK := [.agg WordT]
abbrev rh_word_Not : List HK := []
noncomputable def M_word_Not (n : Nat) (a0 : WordS) : Option Res :=
 let y1 : Int := (IntKind.wrap .u64 (BitVec.toNat (BitVec.ofInt (IntKind.bits .u64) (IntKind.max .u64) ^^^ BitVec.ofInt (IntKind.bits .u64) a0.1) : Nat))
 let y2 : Int := (IntKind.wrap .u64 (BitVec.toNat (BitVec.ofInt (IntKind.bits .u64) (IntKind.max .u64) ^^^ BitVec.ofInt (IntKind.bits .u64) a0.2.1) : Nat))
 some (encRes ro_word_Not rh_word_Not (((y1, (y2, ())), ()), ()))
noncomputable def Q_word_Not (a0 : WordS) : Option (RS ro_word_Not rh_word_Not) := decRes ro_word_Not rh_word_Not (M_word_Not FUEL a0)
noncomputable def ok_word_Not (a0 : WordS) : Bool := (Q_word_Not a0).isSome
noncomputable def q_word_Not (a0 : WordS) : RS ro_word_Not rh_word_Not := RS.get (Q_word_Not a0)
/-! ### word_Right -/
abbrev ro_word_Right : List EK := [.agg WordT]
abbrev rh_word_Right : List HK := []
noncomputable def M_word_Right (n : Nat) (a0 : WordS) (a1 : Int) : Option Res :=
 cond (decide (a1 ≤ (0 : Int)))
 (some (encRes ro_word_Right rh_word_Right ((a0, ()), ())))
 (cond (decide (a1 ≥ (64 : Int)))
 (cond (decide ((0 : Int) ≤ (IntKind.wrap .i64 (a1 - (64 : Int)))))
 (let y1 : Int := (Int.fdiv a0.1 (2 ^ (min (Int.toNat (IntKind.wrap .i64 (a1 - (64 : Int)))) (IntKind.bits .u64))))
 some (encRes ro_word_Right rh_word_Right ((((0 : Int), (y1, ())), ()), ())))
 (none))
 (cond (decide ((0 : Int) ≤ a1))
 (cond (decide ((0 : Int) ≤ a1))
 (cond (decide ((0 : Int) ≤ (IntKind.wrap .i64 ((64 : Int) - a1))))
 (let y2 : Int := (IntKind.wrap .u64 (a0.1 * 2 ^ (min (Int.toNat (IntKind.wrap .i64 ((64 : Int) - a1))) (IntKind.bits .u64))))
 let y3 : Int := (IntKind.wrap .u64 (BitVec.toNat (BitVec.ofInt (IntKind.bits .u64) (Int.fdiv a0.2.1 (2 ^ (min (Int.toNat a1) (IntKind.bits .u64)))) ||| BitVec.ofInt (IntKind.bits .u64) y2) : Nat))
 some (encRes ro_word_Right rh_word_Right ((((Int.fdiv a0.1 (2 ^ (min (Int.toNat a1) (IntKind.bits .u64)))), (y3, ())), ()), ())))
 (none))
 (none))
 (none)))
noncomputable def Q_word_Right (a0 : WordS) (a1 : Int) : Option (RS ro_word_Right rh_word_Right) := decRes ro_word_Right rh_word_Right (M_word_Right FUEL a0 a1)
noncomputable def ok_word_Right (a0 : WordS) (a1 : Int) : Bool := (Q_word_Right a0 a1).isSome
noncomputable def q_word_Right (a0 : WordS) (a1 : Int) : RS ro_word_Right rh_word_Right := RS.get (Q_word_Right a0 a1)
/-! ### word_Mask -/
abbrev ro_word_Mask : List EK := [.agg WordT]
abbrev rh_word_Mask : List HK := []
noncomputable def M_word_Mask (n : Nat) (a0 : Int) : Option Res :=
 let y1 : ((WordS × Unit) × Unit) := (q_word_Not ((0 : Int), ((0 : Int), ())))
 cond (ok_word_Not ((0 : Int), ((0 : Int), ())))
 (let y2 : Int := (if (128 : Int) < (if (0 : Int) > a0 then (0 : Int) else a0) then (128 : Int) else (if (0 : Int) > a0 then (0 : Int) else a0))
 let y3 : ((WordS × Unit) × Unit) := (q_word_Right y1.1.1 (IntKind.wrap .i64 ((128 : Int) - y2)))
 cond (ok_word_Right y1.1.1 (IntKind.wrap .i64 ((128 : Int) - y2)))
 (some (encRes ro_word_Mask rh_word_Mask ((y3.1.1, ()), ())))
 (none))
 (none)
noncomputable def Q_word_Mask (a0 : Int) : Option (RS ro_word_Mask rh_word_Mask) := decRes ro_word_Mask rh_word_Mask (M_word_Mask FUEL a0)
noncomputable def ok_word_Mask (a0 : Int) : Bool := (Q_word_Mask a0).isSome
noncomputable def q_word_Mask (a0 : Int) : RS ro_word_Mask rh_word_Mask := RS.get (Q_word_Mask a0)
/-! ### word_And -/
abbrev ro_word_And : List EK := [.agg WordT]
abbrev rh_word_And : List HK := []
noncomputable def M_word_And (n : Nat) (a0 : WordS) (a1 : WordS) : Option Res :=
 let y1 : Int := (IntKind.wrap .u64 (BitVec.toNat (BitVec.ofInt (IntKind.bits .u64) a0.1 &&& BitVec.ofInt (IntKind.bits .u64) a1.1) : Nat))
 let y2 : Int := (IntKind.wrap .u64 (BitVec.toNat (BitVec.ofInt (IntKind.bits .u64) a0.2.1 &&& BitVec.ofInt (IntKind.bits .u64) a1.2.1) : Nat))
 some (encRes ro_word_And rh_word_And (((y1, (y2, ())), ()), ()))
noncomputable def Q_word_And (a0 : WordS) (a1 : WordS) : Option (RS ro_word_And rh_word_And) := decRes ro_word_And rh_word_And (M_word_And FUEL a0 a1)
noncomputable def ok_word_And (a0 : WordS) (a1 : WordS) : Bool := (Q_word_And a0 a1).isSome
noncomputable def q_word_And (a0 : WordS) (a1 : WordS) : RS ro_word_And rh_word_And := RS.get (Q_word_And a0 a1)
/-! ### word_Cut -/
abbrev ro_word_Cut : List EK := [.agg WordT]
abbrev rh_word_Cut : List HK := []
noncomputable def M_word_Cut (n : Nat) (a0 : WordS) (a1 : Int) : Option Res :=
 let y1 : ((WordS × Unit) × Unit) := (q_word_Mask a1)
 cond (ok_word_Mask a1)
 (let y2 : ((WordS × Unit) × Unit) := (q_word_And a0 y1.1.1)
 cond (ok_word_And a0 y1.1.1)
 (some (encRes ro_word_Cut rh_word_Cut ((y2.1.1, ()), ())))
 (none))
 (none)
noncomputable def Q_word_Cut (a0 : WordS) (a1 : Int) : Option (RS ro_word_Cut rh_word_Cut) := decRes ro_word_Cut rh_word_Cut (M_word_Cut FUEL a0 a1)
noncomputable def ok_word_Cut (a0 : WordS) (a1 : Int) : Bool := (Q_word_Cut a0 a1).isSome
noncomputable def q_word_Cut (a0 : WordS) (a1 : Int) : RS ro_word_Cut rh_word_Cut := RS.get (Q_word_Cut a0 a1)
/-! ### field_Get -/
abbrev ro_field_Get : List EK := [.agg WordT, .ty (.int .i64)]
abbrev rh_field_Get : List HK := []
noncomputable def F_field_Get_0 (n : Nat) (k_t0 : WordS → Option Res) (x0_0 : ByteArray) (x0_1 : Int) (x0_2 : Int) (x0_3 : Int) (x0_4 : Int) (x0_5 : Int) (x0_7 : WordS) (rec : Int → WordS → Option Res) (x0_6 : Int) (x0_8 : WordS) : Option Res :=
 cond (decide (x0_6 < x0_5))
 (let y4 : ((WordS × Unit) × Unit) := (q_word_Left x0_8 (8 : Int))
 cond (ok_word_Left x0_8 (8 : Int))
 (cond (decide ((0 : Int) ≤ (IntKind.wrap .i64 (x0_3 + x0_6)) ∧ (IntKind.wrap .i64 (x0_3 + x0_6)) < ((ByteArray.size x0_0 : Nat) : Int)))
 (let y5 : ((WordS × Unit) × Unit) := (q_word_New (IntKind.wrap .u64 (byteAt x0_0 (Int.toNat (IntKind.wrap .i64 (x0_3 + x0_6))))))
 cond (ok_word_New (IntKind.wrap .u64 (byteAt x0_0 (Int.toNat (IntKind.wrap .i64 (x0_3 + x0_6))))))
 (let y6 : ((WordS × Unit) × Unit) := (q_word_Or y4.1.1 y5.1.1)
 cond (ok_word_Or y4.1.1 y5.1.1)
 (rec (IntKind.wrap .i64 (x0_6 + (1 : Int))) y6.1.1)
 (none))
 (none))
 (none))
 (none))
 (k_t0 x0_8)
noncomputable def L_field_Get_0 (n : Nat) (k_t0 : WordS → Option Res) (x0_0 : ByteArray) (x0_1 : Int) (x0_2 : Int) (x0_3 : Int) (x0_4 : Int) (x0_5 : Int) (x0_7 : WordS) : Nat → Int → WordS → Option Res
  | 0, _, _ => none
  | m + 1, x0_6, x0_8 => F_field_Get_0 n k_t0 x0_0 x0_1 x0_2 x0_3 x0_4 x0_5 x0_7 (L_field_Get_0 n k_t0 x0_0 x0_1 x0_2 x0_3 x0_4 x0_5 x0_7 m) x0_6 x0_8
noncomputable def M_field_Get (n : Nat) (a0 : ByteArray) (a1 : Int) (a2 : Int) : Option Res :=
 let y1 : ((Int × Unit) × Unit) := (q_field_may a0 a1 a2)
 cond (ok_field_may a0 a1 a2)
 (cond (y1.1.1 != (0 : Int))
 (some (encRes ro_field_Get rh_field_Get ((((0 : Int), ((0 : Int), ())), (y1.1.1, ())), ())))
 (cond ((8 : Int) != 0)
 (let y2 : Int := (IntKind.wrap .i64 ((IntKind.wrap .i64 ((IntKind.wrap .i64 (a1 + a2)) + (8 : Int))) - (1 : Int)))
 cond ((8 : Int) != 0)
 (let y3 : Int := (IntKind.wrap .i64 ((IntKind.wrap .i64 (Int.tdiv y2 (8 : Int))) - (IntKind.wrap .i64 (Int.tdiv a1 (8 : Int)))))
 L_field_Get_0 n
  (fun y7 => let y8 : Int := (IntKind.wrap .i64 ((IntKind.wrap .i64 ((IntKind.wrap .i64 (Int.tdiv y2 (8 : Int))) * (8 : Int))) - a1))
 let y9 : ((WordS × Unit) × Unit) := (q_word_Left y7 (IntKind.wrap .i64 ((8 : Int) - (IntKind.wrap .i64 (y8 - a2)))))
 cond (ok_word_Left y7 (IntKind.wrap .i64 ((8 : Int) - (IntKind.wrap .i64 (y8 - a2)))))
 (cond (decide ((0 : Int) ≤ (IntKind.wrap .i64 ((IntKind.wrap .i64 (Int.tdiv y2 (8 : Int))) - (1 : Int))) ∧ (IntKind.wrap .i64 ((IntKind.wrap .i64 (Int.tdiv y2 (8 : Int))) - (1 : Int))) < ((ByteArray.size a0 : Nat) : Int)))
 (let y10 : Int := (byteAt a0 (Int.toNat (IntKind.wrap .i64 ((IntKind.wrap .i64 (Int.tdiv y2 (8 : Int))) - (1 : Int)))))
 cond (decide ((0 : Int) ≤ (IntKind.wrap .i64 (y8 - a2))))
 (let y11 : Int := (IntKind.wrap .u64 (Int.fdiv y10 (2 ^ (min (Int.toNat (IntKind.wrap .i64 (y8 - a2))) (IntKind.bits .u8)))))
 let y12 : ((WordS × Unit) × Unit) := (q_word_New y11)
 cond (ok_word_New y11)
 (let y13 : ((WordS × Unit) × Unit) := (q_word_Or y9.1.1 y12.1.1)
 cond (ok_word_Or y9.1.1 y12.1.1)
 (let y14 : ((WordS × Unit) × Unit) := (q_word_Cut y13.1.1 a2)
 cond (ok_word_Cut y13.1.1 a2)
 (some (encRes ro_field_Get rh_field_Get ((y14.1.1, ((0 : Int), ())), ())))
 (none))
 (none))
 (none))
 (none))
 (none))
 (none))
  a0
  a1
  a2
  (IntKind.wrap .i64 (Int.tdiv a1 (8 : Int)))
  (IntKind.wrap .i64 (Int.tdiv y2 (8 : Int)))
  (IntKind.wrap .i64 (y3 - (1 : Int)))
  ((0 : Int), ((0 : Int), ()))
  n
  (0 : Int)
  ((0 : Int), ((0 : Int), ())))
 (none))
 (none)))
 (none)
noncomputable def Q_field_Get (a0 : ByteArray) (a1 : Int) (a2 : Int) : Option (RS ro_field_Get rh_field_Get) := decRes ro_field_Get rh_field_Get (M_field_Get FUEL a0 a1 a2)
noncomputable def ok_field_Get (a0 : ByteArray) (a1 : Int) (a2 : Int) : Bool := (Q_field_Get a0 a1 a2).isSome
noncomputable def q_field_Get (a0 : ByteArray) (a1 : Int) (a2 : Int) : RS ro_field_Get rh_field_Get := RS.get (Q_field_Get a0 a1 a2)
/-! ### buf_Buf_Getx37e -/
abbrev ro_buf_Buf_Getx37e : List EK := [.agg WordT, .ty (.int .i64)]
abbrev rh_buf_Buf_Getx37e : List HK := [.one false [.hs 1 0], .row (.int .u8)]
noncomputable def M_buf_Buf_Getx37e (n : Nat) (a0 : Int) (a1 : Int) (a2 : Nat) (a3 : (List Int)) : Option Res :=
 let y3 : ((Nat × (Int × Unit)) × ((Nat × Unit) × ((List Int) × Unit))) := (q_buf_Buf_windowx37e a0 a1 a2 a3)
 cond (ok_buf_Buf_windowx37e a0 a1 a2 a3)
 (let y4 : ((WordS × (Int × Unit)) × Unit) := (q_field_Get (bytesOf (cutL (0 : Int) y3.2.2.1 0 y3.1.1)) (IntKind.wrap .i64 (a0 - (IntKind.wrap .i64 ((8 : Int) * y3.1.2.1)))) a1)
 cond (ok_field_Get (bytesOf (cutL (0 : Int) y3.2.2.1 0 y3.1.1)) (IntKind.wrap .i64 (a0 - (IntKind.wrap .i64 ((8 : Int) * y3.1.2.1)))) a1)
 (some (encRes ro_buf_Buf_Getx37e rh_buf_Buf_Getx37e ((y4.1.1, (y4.1.2.1, ())), ((y3.2.1.1, ()), (y3.2.2.1, ())))))
 (none))
 (let y1 : (((Nat × Nat) × (Int × Unit)) × ((Nat × Unit) × ((List Int) × Unit))) := (q_buf_Buf_windowx37e_1 a0 a1 a2 a3)
 cond (ok_buf_Buf_windowx37e_1 a0 a1 a2 a3)
 (let y2 : ((WordS × (Int × Unit)) × Unit) := (q_field_Get (bytesOf (cutL (0 : Int) y1.2.2.1 y1.1.1.1 y1.1.1.2)) (IntKind.wrap .i64 (a0 - (IntKind.wrap .i64 ((8 : Int) * y1.1.2.1)))) a1)
 cond (ok_field_Get (bytesOf (cutL (0 : Int) y1.2.2.1 y1.1.1.1 y1.1.1.2)) (IntKind.wrap .i64 (a0 - (IntKind.wrap .i64 ((8 : Int) * y1.1.2.1)))) a1)
 (some (encRes ro_buf_Buf_Getx37e rh_buf_Buf_Getx37e ((y2.1.1, (y2.1.2.1, ())), ((y1.2.1.1, ()), (y1.2.2.1, ())))))
 (none))
 (none))
noncomputable def Q_buf_Buf_Getx37e (a0 : Int) (a1 : Int) (a2 : Nat) (a3 : (List Int)) : Option (RS ro_buf_Buf_Getx37e rh_buf_Buf_Getx37e) := decRes ro_buf_Buf_Getx37e rh_buf_Buf_Getx37e (M_buf_Buf_Getx37e FUEL a0 a1 a2 a3)
noncomputable def ok_buf_Buf_Getx37e (a0 : Int) (a1 : Int) (a2 : Nat) (a3 : (List Int)) : Bool := (Q_buf_Buf_Getx37e a0 a1 a2 a3).isSome
noncomputable def q_buf_Buf_Getx37e (a0 : Int) (a1 : Int) (a2 : Nat) (a3 : (List Int)) : RS ro_buf_Buf_Getx37e rh_buf_Buf_Getx37e := RS.get (Q_buf_Buf_Getx37e a0 a1 a2 a3)
/-! ### pack_Packet_Getxe04 -/
abbrev ro_pack_Packet_Getxe04 : List EK := [.agg WordT, .ty (.int .i64)]
abbrev rh_pack_Packet_Getxe04 : List HK := [.one false [.ptr 1 0 0, .nul 4, .ptr 3 0 0, .ty (.int .i64)], .one false [.hs 2 0], .row (.int .u8), .one false [.hs 4 0], .row (.int .u8)]
noncomputable def M_pack_Packet_Getxe04 (n : Nat) (a0 : FieldS) (a1 : Int) (a2 : Nat) (a3 : (List Int)) (a4 : Nat) (a5 : (List Int)) : Option Res :=
 let y7 : ((Unit × (Int × (Int × Unit))) × ((Unit × (Unit × (Unit × (Int × Unit)))) × ((Nat × Unit) × ((List Int) × ((Nat × Unit) × ((List Int) × Unit)))))) := (q_pack_Packet_placexe04 a0 a1 a2 a3 a4 a5)
 cond (ok_pack_Packet_placexe04 a0 a1 a2 a3 a4 a5)
 (cond (y7.1.2.2.1 != (0 : Int))
 (some (encRes ro_pack_Packet_Getxe04 rh_pack_Packet_Getxe04 ((((0 : Int), ((0 : Int), ())), (y7.1.2.2.1, ())), (((), ((), ((), (y7.2.1.2.2.2.1, ())))), ((y7.2.2.1.1, ()), (y7.2.2.2.1, ((y7.2.2.2.2.1.1, ()), (y7.2.2.2.2.2.1, ()))))))))
 (let y8 : ((Int × Unit) × Unit) := (q_pack_bit y7.1.2.1 a0.2.2.2.1)
 cond (ok_pack_bit y7.1.2.1 a0.2.2.2.1)
 (let y9 : ((WordS × (Int × Unit)) × ((Nat × Unit) × ((List Int) × Unit))) := (q_buf_Buf_Getx37e y8.1.1 a0.2.2.2.2.1 y7.2.2.1.1 y7.2.2.2.1)
 cond (ok_buf_Buf_Getx37e y8.1.1 a0.2.2.2.2.1 y7.2.2.1.1 y7.2.2.2.1)
 (cond (y9.1.2.1 != (0 : Int))
 (some (encRes ro_pack_Packet_Getxe04 rh_pack_Packet_Getxe04 ((((0 : Int), ((0 : Int), ())), ((1 : Int), ())), (((), ((), ((), (y7.2.1.2.2.2.1, ())))), ((y9.2.1.1, ()), (y9.2.2.1, ((y7.2.2.2.2.1.1, ()), (y7.2.2.2.2.2.1, ()))))))))
 (some (encRes ro_pack_Packet_Getxe04 rh_pack_Packet_Getxe04 ((y9.1.1, ((0 : Int), ())), (((), ((), ((), (y7.2.1.2.2.2.1, ())))), ((y9.2.1.1, ()), (y9.2.2.1, ((y7.2.2.2.2.1.1, ()), (y7.2.2.2.2.2.1, ())))))))))
 (none))
 (none)))
 (let y4 : ((Unit × (Int × (Int × Unit))) × ((Unit × (Unit × (Unit × (Int × Unit)))) × ((Nat × Unit) × ((List Int) × ((Nat × Unit) × ((List Int) × Unit)))))) := (q_pack_Packet_placexe04_1 a0 a1 a2 a3 a4 a5)
 cond (ok_pack_Packet_placexe04_1 a0 a1 a2 a3 a4 a5)
 (cond (y4.1.2.2.1 != (0 : Int))
 (some (encRes ro_pack_Packet_Getxe04 rh_pack_Packet_Getxe04 ((((0 : Int), ((0 : Int), ())), (y4.1.2.2.1, ())), (((), ((), ((), (y4.2.1.2.2.2.1, ())))), ((y4.2.2.1.1, ()), (y4.2.2.2.1, ((y4.2.2.2.2.1.1, ()), (y4.2.2.2.2.2.1, ()))))))))
 (let y5 : ((Int × Unit) × Unit) := (q_pack_bit y4.1.2.1 a0.2.2.2.1)
 cond (ok_pack_bit y4.1.2.1 a0.2.2.2.1)
 (let y6 : ((WordS × (Int × Unit)) × ((Nat × Unit) × ((List Int) × Unit))) := (q_buf_Buf_Getx37e y5.1.1 a0.2.2.2.2.1 y4.2.2.2.2.1.1 y4.2.2.2.2.2.1)
 cond (ok_buf_Buf_Getx37e y5.1.1 a0.2.2.2.2.1 y4.2.2.2.2.1.1 y4.2.2.2.2.2.1)
 (cond (y6.1.2.1 != (0 : Int))
 (some (encRes ro_pack_Packet_Getxe04 rh_pack_Packet_Getxe04 ((((0 : Int), ((0 : Int), ())), ((1 : Int), ())), (((), ((), ((), (y4.2.1.2.2.2.1, ())))), ((y4.2.2.1.1, ()), (y4.2.2.2.1, ((y6.2.1.1, ()), (y6.2.2.1, ()))))))))
 (some (encRes ro_pack_Packet_Getxe04 rh_pack_Packet_Getxe04 ((y6.1.1, ((0 : Int), ())), (((), ((), ((), (y4.2.1.2.2.2.1, ())))), ((y4.2.2.1.1, ()), (y4.2.2.2.1, ((y6.2.1.1, ()), (y6.2.2.1, ())))))))))
 (none))
 (none)))
 (let y1 : ((Unit × (Int × (Int × Unit))) × ((Unit × (Unit × (Unit × (Int × Unit)))) × ((Nat × Unit) × ((List Int) × ((Nat × Unit) × ((List Int) × Unit)))))) := (q_pack_Packet_placexe04_2 a0 a1 a2 a3 a4 a5)
 cond (ok_pack_Packet_placexe04_2 a0 a1 a2 a3 a4 a5)
 (cond (y1.1.2.2.1 != (0 : Int))
 (some (encRes ro_pack_Packet_Getxe04 rh_pack_Packet_Getxe04 ((((0 : Int), ((0 : Int), ())), (y1.1.2.2.1, ())), (((), ((), ((), (y1.2.1.2.2.2.1, ())))), ((y1.2.2.1.1, ()), (y1.2.2.2.1, ((y1.2.2.2.2.1.1, ()), (y1.2.2.2.2.2.1, ()))))))))
 (let y2 : ((Int × Unit) × Unit) := (q_pack_bit y1.1.2.1 a0.2.2.2.1)
 cond (ok_pack_bit y1.1.2.1 a0.2.2.2.1)
 (let y3 : ((WordS × (Int × Unit)) × Unit) := (q_buf_Buf_Getx845 y2.1.1 a0.2.2.2.2.1)
 cond (ok_buf_Buf_Getx845 y2.1.1 a0.2.2.2.2.1)
 (cond (y3.1.2.1 != (0 : Int))
 (some (encRes ro_pack_Packet_Getxe04 rh_pack_Packet_Getxe04 ((((0 : Int), ((0 : Int), ())), ((1 : Int), ())), (((), ((), ((), (y1.2.1.2.2.2.1, ())))), ((y1.2.2.1.1, ()), (y1.2.2.2.1, ((y1.2.2.2.2.1.1, ()), (y1.2.2.2.2.2.1, ()))))))))
 (some (encRes ro_pack_Packet_Getxe04 rh_pack_Packet_Getxe04 ((y3.1.1, ((0 : Int), ())), (((), ((), ((), (y1.2.1.2.2.2.1, ())))), ((y1.2.2.1.1, ()), (y1.2.2.2.1, ((y1.2.2.2.2.1.1, ()), (y1.2.2.2.2.2.1, ())))))))))
 (none))
 (none)))
 (none)))
noncomputable def Q_pack_Packet_Getxe04 (a0 : FieldS) (a1 : Int) (a2 : Nat) (a3 : (List Int)) (a4 : Nat) (a5 : (List Int)) : Option (RS ro_pack_Packet_Getxe04 rh_pack_Packet_Getxe04) := decRes ro_pack_Packet_Getxe04 rh_pack_Packet_Getxe04 (M_pack_Packet_Getxe04 FUEL a0 a1 a2 a3 a4 a5)
noncomputable def ok_pack_Packet_Getxe04 (a0 : FieldS) (a1 : Int) (a2 : Nat) (a3 : (List Int)) (a4 : Nat) (a5 : (List Int)) : Bool := (Q_pack_Packet_Getxe04 a0 a1 a2 a3 a4 a5).isSome
noncomputable def q_pack_Packet_Getxe04 (a0 : FieldS) (a1 : Int) (a2 : Nat) (a3 : (List Int)) (a4 : Nat) (a5 : (List Int)) : RS ro_pack_Packet_Getxe04 rh_pack_Packet_Getxe04 := RS.get (Q_pack_Packet_Getxe04 a0 a1 a2 a3 a4 a5)
/-! ### field_Bytes -/
abbrev ro_field_Bytes : List EK := [.ty (.int .i64)]
abbrev rh_field_Bytes : List HK := []
noncomputable def M_field_Bytes (n : Nat) (a0 : Int) : Option Res :=
 cond (decide (a0 < (1 : Int)))
 (some (encRes ro_field_Bytes rh_field_Bytes (((0 : Int), ()), ())))
 (cond (decide (a0 > (128 : Int)))
 (some (encRes ro_field_Bytes rh_field_Bytes (((0 : Int), ()), ())))
 (cond ((8 : Int) != 0)
 (let y1 : Int := (IntKind.wrap .i64 (Int.tdiv (IntKind.wrap .i64 ((IntKind.wrap .i64 (a0 + (8 : Int))) - (1 : Int))) (8 : Int)))
 some (encRes ro_field_Bytes rh_field_Bytes ((y1, ()), ())))
 (none)))
noncomputable def Q_field_Bytes (a0 : Int) : Option (RS ro_field_Bytes rh_field_Bytes) := decRes ro_field_Bytes rh_field_Bytes (M_field_Bytes FUEL a0)
noncomputable def ok_field_Bytes (a0 : Int) : Bool := (Q_field_Bytes a0).isSome
noncomputable def q_field_Bytes (a0 : Int) : RS ro_field_Bytes rh_field_Bytes := RS.get (Q_field_Bytes a0)
/-! ### word_Text -/
abbrev ro_word_Text : List EK := [.ty .str]
abbrev rh_word_Text : List HK := []
noncomputable def F_word_Text_0 (n : Nat) (k_t0 : (List Int) → Option Res) (x0_1 : WordS) (rec : Int → (List Int) → Option Res) (x0_0 : Int) (x0_2 : (List Int)) : Option Res :=
 cond (decide (x0_0 < (16 : Int)))
 (let y1 : Int := (IntKind.wrap .i64 ((128 : Int) - (IntKind.wrap .i64 ((8 : Int) * (IntKind.wrap .i64 (x0_0 + (1 : Int)))))))
 let y2 : ((WordS × Unit) × Unit) := (q_word_Right x0_1 y1)
 cond (ok_word_Right x0_1 y1)
 (cond (decide ((0 : Int) ≤ x0_0 ∧ x0_0 < ((16 : Nat) : Int)))
 (cond (decide (0 + 16 ≤ (List.length x0_2)))
 (rec (IntKind.wrap .i64 (x0_0 + (1 : Int))) (List.set x0_2 (Int.toNat x0_0) (IntKind.wrap .u8 y2.1.1.2.1)))
 (none))
 (none))
 (none))
 (k_t0 x0_2)
noncomputable def L_word_Text_0 (n : Nat) (k_t0 : (List Int) → Option Res) (x0_1 : WordS) : Nat → Int → (List Int) → Option Res
  | 0, _, _ => none
  | m + 1, x0_0, x0_2 => F_word_Text_0 n k_t0 x0_1 (L_word_Text_0 n k_t0 x0_1 m) x0_0 x0_2
noncomputable def M_word_Text (n : Nat) (a0 : WordS) : Option Res :=
 L_word_Text_0 n
  (fun y3 => cond (decide ((0 : Int) ≤ (0 : Int) ∧ (0 : Int) ≤ ((16 : Nat) : Int) ∧ ((16 : Nat) : Int) ≤ ((16 : Nat) : Int) ∧ ((16 : Nat) : Int) ≤ ((16 : Nat) : Int) ∧ 0 + 16 ≤ (List.length y3)))
 (let y4 : ByteArray := (bytesOf (cutL (0 : Int) y3 0 (Int.toNat ((16 : Nat) : Int) - Int.toNat (0 : Int))))
 some (encRes ro_word_Text rh_word_Text ((y4, ()), ())))
 (none))
  a0
  n
  (0 : Int)
  ([(0 : Int), (0 : Int), (0 : Int), (0 : Int), (0 : Int), (0 : Int), (0 : Int), (0 : Int), (0 : Int), (0 : Int), (0 : Int), (0 : Int), (0 : Int), (0 : Int), (0 : Int), (0 : Int)])
noncomputable def Q_word_Text (a0 : WordS) : Option (RS ro_word_Text rh_word_Text) := decRes ro_word_Text rh_word_Text (M_word_Text FUEL a0)
noncomputable def ok_word_Text (a0 : WordS) : Bool := (Q_word_Text a0).isSome
noncomputable def q_word_Text (a0 : WordS) : RS ro_word_Text rh_word_Text := RS.get (Q_word_Text a0)
/-! ### field_Text -/
abbrev ro_field_Text : List EK := [.ty .str, .ty (.int .i64)]
abbrev rh_field_Text : List HK := []
noncomputable def M_field_Text (n : Nat) (a0 : WordS) (a1 : Int) : Option Res :=
 let y1 : ((Int × Unit) × Unit) := (q_field_Bytes a1)
 cond (ok_field_Bytes a1)
 (cond (y1.1.1 == (0 : Int))
 (some (encRes ro_field_Text rh_field_Text (((ByteArray.mk #[]), ((1 : Int), ())), ())))
 (let y2 : ((WordS × Unit) × Unit) := (q_word_Cut a0 a1)
 cond (ok_word_Cut a0 a1)
 (let y3 : ((ByteArray × Unit) × Unit) := (q_word_Text y2.1.1)
 cond (ok_word_Text y2.1.1)
 (cond (decide ((0 : Int) ≤ (IntKind.wrap .i64 (((ByteArray.size y3.1.1 : Nat) : Int) - y1.1.1)) ∧ (IntKind.wrap .i64 (((ByteArray.size y3.1.1 : Nat) : Int) - y1.1.1)) ≤ ((ByteArray.size y3.1.1 : Nat) : Int) ∧ ((ByteArray.size y3.1.1 : Nat) : Int) ≤ ((ByteArray.size y3.1.1 : Nat) : Int)))
 (let y4 : ByteArray := (ByteArray.extract y3.1.1 (Int.toNat (IntKind.wrap .i64 (((ByteArray.size y3.1.1 : Nat) : Int) - y1.1.1))) (Int.toNat ((ByteArray.size y3.1.1 : Nat) : Int)))
 some (encRes ro_field_Text rh_field_Text ((y4, ((0 : Int), ())), ())))
 (none))
 (none))
 (none)))
 (none)
noncomputable def Q_field_Text (a0 : WordS) (a1 : Int) : Option (RS ro_field_Text rh_field_Text) := decRes ro_field_Text rh_field_Text (M_field_Text FUEL a0 a1)
noncomputable def ok_field_Text (a0 : WordS) (a1 : Int) : Bool := (Q_field_Text a0 a1).isSome
noncomputable def q_field_Text (a0 : WordS) (a1 : Int) : RS ro_field_Text rh_field_Text := RS.get (Q_field_Text a0 a1)
/-! ### key_textxac0 -/
abbrev ro_key_textxac0 : List EK := [.ty .str, .ty (.int .i64)]
abbrev rh_key_textxac0 : List HK := [.one false [.ptr 1 0 0, .nul 4, .ptr 3 0 0, .ty (.int .i64)], .one false [.hs 2 0], .row (.int .u8), .one false [.hs 4 0], .row (.int .u8)]
noncomputable def M_key_textxac0 (n : Nat) (a0 : FieldS) (a1 : Int) (a2 : Nat) (a3 : (List Int)) (a4 : Nat) (a5 : (List Int)) : Option Res :=
 let y1 : ((WordS × (Int × Unit)) × ((Unit × (Unit × (Unit × (Int × Unit)))) × ((Nat × Unit) × ((List Int) × ((Nat × Unit) × ((List Int) × Unit)))))) := (q_pack_Packet_Getxe04 a0 a1 a2 a3 a4 a5)
 cond (ok_pack_Packet_Getxe04 a0 a1 a2 a3 a4 a5)
 (cond (y1.1.2.1 != (0 : Int))
 (some (encRes ro_key_textxac0 rh_key_textxac0 (((ByteArray.mk #[]), (y1.1.2.1, ())), (((), ((), ((), (y1.2.1.2.2.2.1, ())))), ((y1.2.2.1.1, ()), (y1.2.2.2.1, ((y1.2.2.2.2.1.1, ()), (y1.2.2.2.2.2.1, ()))))))))
 (let y2 : ((ByteArray × (Int × Unit)) × Unit) := (q_field_Text y1.1.1 a0.2.2.2.2.1)
 cond (ok_field_Text y1.1.1 a0.2.2.2.2.1)
 (some (encRes ro_key_textxac0 rh_key_textxac0 ((y2.1.1, ((0 : Int), ())), (((), ((), ((), (y1.2.1.2.2.2.1, ())))), ((y1.2.2.1.1, ()), (y1.2.2.2.1, ((y1.2.2.2.2.1.1, ()), (y1.2.2.2.2.2.1, ()))))))))
 (none)))
 (none)
noncomputable def Q_key_textxac0 (a0 : FieldS) (a1 : Int) (a2 : Nat) (a3 : (List Int)) (a4 : Nat) (a5 : (List Int)) : Option (RS ro_key_textxac0 rh_key_textxac0) := decRes ro_key_textxac0 rh_key_textxac0 (M_key_textxac0 FUEL a0 a1 a2 a3 a4 a5)
noncomputable def ok_key_textxac0 (a0 : FieldS) (a1 : Int) (a2 : Nat) (a3 : (List Int)) (a4 : Nat) (a5 : (List Int)) : Bool := (Q_key_textxac0 a0 a1 a2 a3 a4 a5).isSome
noncomputable def q_key_textxac0 (a0 : FieldS) (a1 : Int) (a2 : Nat) (a3 : (List Int)) (a4 : Nat) (a5 : (List Int)) : RS ro_key_textxac0 rh_key_textxac0 := RS.get (Q_key_textxac0 a0 a1 a2 a3 a4 a5)
/-! ### key_Ofxf63 -/
abbrev ro_key_Ofxf63 : List EK := [.ty .str, .ty (.int .i64)]
abbrev rh_key_Ofxf63 : List HK := [.one false [.ptr 1 0 0, .nul 4, .ptr 3 0 0, .ty (.int .i64)], .one false [.hs 2 0], .row (.int .u8), .one false [.hs 4 0], .row (.int .u8)]
noncomputable def Q_key_Ofxf63 (a0 : (List FieldS)) (a1 : Int) (a2 : Nat) (a3 : (List Int)) (a4 : Nat) (a5 : (List Int)) : Option (RS ro_key_Ofxf63 rh_key_Ofxf63) := ofQ (fun f b => Q_key_textxac0 f b.1.2.2.2.1 b.2.1.1 b.2.2.1 b.2.2.2.1.1 b.2.2.2.2.1) a0 (((), ((), ((), (a1, ())))), ((a2, ()), (a3, ((a4, ()), (a5, ())))))
noncomputable def ok_key_Ofxf63 (a0 : (List FieldS)) (a1 : Int) (a2 : Nat) (a3 : (List Int)) (a4 : Nat) (a5 : (List Int)) : Bool := (Q_key_Ofxf63 a0 a1 a2 a3 a4 a5).isSome
noncomputable def q_key_Ofxf63 (a0 : (List FieldS)) (a1 : Int) (a2 : Nat) (a3 : (List Int)) (a4 : Nat) (a5 : (List Int)) : RS ro_key_Ofxf63 rh_key_Ofxf63 := RS.get (Q_key_Ofxf63 a0 a1 a2 a3 a4 a5)
/-! ### key_Widths -/
abbrev ro_key_Widths : List EK := [.hs 0 0]
abbrev rh_key_Widths : List HK := [.row (.int .i64)]
noncomputable def F_key_Widths_0 (n : Nat) (k_t0 : Nat → (List Int) → Option Res) (x0_1 : (List FieldS)) (x0_2 : Int) (rec : Nat → Int → (List Int) → Option Res) (x0_0 : Nat) (x0_3 : Int) (x0_4 : (List Int)) : Option Res :=
 cond (decide (x0_3 < x0_2))
 (cond (decide ((0 : Int) ≤ x0_3 ∧ x0_3 < (((List.length x0_1) : Nat) : Int)))
 (let y1 : ((Int × Unit) × Unit) := (q_field_Bytes ((rdd zFieldS x0_1 (Int.toNat x0_3)).2.2.2.2.1))
 cond (ok_field_Bytes ((rdd zFieldS x0_1 (Int.toNat x0_3)).2.2.2.2.1))
 (cond (decide (((List.length (cutL (0 : Int) x0_4 0 x0_0)) + 1) * 8 ≤ 2 ^ 46 ∧ ((List.length (cutL (0 : Int) x0_4 0 x0_0)) + 1) ≤ 2 ^ 46))
 (rec ((List.length (cutL (0 : Int) x0_4 0 x0_0)) + 1) (IntKind.wrap .i64 (x0_3 + (1 : Int))) ((cutL (0 : Int) x0_4 0 x0_0) ++ [y1.1.1]))
 (none))
 (none))
 (none))
 (k_t0 x0_0 x0_4)
noncomputable def L_key_Widths_0 (n : Nat) (k_t0 : Nat → (List Int) → Option Res) (x0_1 : (List FieldS)) (x0_2 : Int) : Nat → Nat → Int → (List Int) → Option Res
  | 0, _, _, _ => none
  | m + 1, x0_0, x0_3, x0_4 => F_key_Widths_0 n k_t0 x0_1 x0_2 (L_key_Widths_0 n k_t0 x0_1 x0_2 m) x0_0 x0_3 x0_4
noncomputable def M_key_Widths (n : Nat) (a0 : (List FieldS)) : Option Res :=
 L_key_Widths_0 n
  (fun y2 y3 => some (encRes ro_key_Widths rh_key_Widths ((y2, ()), (y3, ()))))
  a0
  (((List.length a0) : Nat) : Int)
  n
  0
  (0 : Int)
  ([])
noncomputable def Q_key_Widths (a0 : (List FieldS)) : Option (RS ro_key_Widths rh_key_Widths) := decRes ro_key_Widths rh_key_Widths (M_key_Widths FUEL a0)
noncomputable def ok_key_Widths (a0 : (List FieldS)) : Bool := (Q_key_Widths a0).isSome
noncomputable def q_key_Widths (a0 : (List FieldS)) : RS ro_key_Widths rh_key_Widths := RS.get (Q_key_Widths a0)
/-! ### key_Segments -/
abbrev ro_key_Segments : List EK := [.hs 0 0, .ty (.int .i64)]
abbrev rh_key_Segments : List HK := [.row .str]
noncomputable def F_key_Segments_0 (n : Nat) (k_r : Nat → Int → (List ByteArray) → Option Res) (k_t0 : Int → Option Res) (x0_3 : (List Int)) (x0_4 : Int) (rec : Int → Int → Option Res) (x0_2 : Int) (x0_5 : Int) : Option Res :=
 cond (decide (x0_5 < x0_4))
 (cond (decide ((0 : Int) ≤ x0_5 ∧ x0_5 < (((List.length x0_3) : Nat) : Int)))
 (cond (decide ((rdd (0 : Int) x0_3 (Int.toNat x0_5)) < (0 : Int)))
 (k_r 0 (1 : Int) ([]))
 (cond (decide ((rdd (0 : Int) x0_3 (Int.toNat x0_5)) > (16 : Int)))
 (k_r 0 (1 : Int) ([]))
 (rec (IntKind.wrap .i64 (x0_2 + (rdd (0 : Int) x0_3 (Int.toNat x0_5)))) (IntKind.wrap .i64 (x0_5 + (1 : Int))))))
 (none))
 (k_t0 x0_2)
noncomputable def L_key_Segments_0 (n : Nat) (k_r : Nat → Int → (List ByteArray) → Option Res) (k_t0 : Int → Option Res) (x0_3 : (List Int)) (x0_4 : Int) : Nat → Int → Int → Option Res
  | 0, _, _ => none
  | m + 1, x0_2, x0_5 => F_key_Segments_0 n k_r k_t0 x0_3 x0_4 (L_key_Segments_0 n k_r k_t0 x0_3 x0_4 m) x0_2 x0_5
noncomputable def F_key_Segments_3 (n : Nat) (k_t3 : Nat → (List ByteArray) → Option Res) (x3_2 : (List Int)) (x3_3 : Int) (rec : ByteArray → Nat → Int → (List ByteArray) → Option Res) (x3_0 : ByteArray) (x3_1 : Nat) (x3_4 : Int) (x3_5 : (List ByteArray)) : Option Res :=
 cond (decide (x3_4 < x3_3))
 (cond (decide ((0 : Int) ≤ x3_4 ∧ x3_4 < (((List.length x3_2) : Nat) : Int)))
 (cond (decide ((0 : Int) ≤ (0 : Int) ∧ (0 : Int) ≤ (rdd (0 : Int) x3_2 (Int.toNat x3_4)) ∧ (rdd (0 : Int) x3_2 (Int.toNat x3_4)) ≤ ((ByteArray.size x3_0 : Nat) : Int)))
 (let y5 : ByteArray := (ByteArray.extract x3_0 (Int.toNat (0 : Int)) (Int.toNat (rdd (0 : Int) x3_2 (Int.toNat x3_4))))
 cond (decide (((List.length (cutL ByteArray.empty x3_5 0 x3_1)) + 1) * 16 ≤ 2 ^ 46 ∧ ((List.length (cutL ByteArray.empty x3_5 0 x3_1)) + 1) ≤ 2 ^ 46))
 (cond (decide ((0 : Int) ≤ (rdd (0 : Int) x3_2 (Int.toNat x3_4)) ∧ (rdd (0 : Int) x3_2 (Int.toNat x3_4)) ≤ ((ByteArray.size x3_0 : Nat) : Int) ∧ ((ByteArray.size x3_0 : Nat) : Int) ≤ ((ByteArray.size x3_0 : Nat) : Int)))
 (let y6 : ByteArray := (ByteArray.extract x3_0 (Int.toNat (rdd (0 : Int) x3_2 (Int.toNat x3_4))) (Int.toNat ((ByteArray.size x3_0 : Nat) : Int)))
 rec y6 ((List.length (cutL ByteArray.empty x3_5 0 x3_1)) + 1) (IntKind.wrap .i64 (x3_4 + (1 : Int))) ((cutL ByteArray.empty x3_5 0 x3_1) ++ [y5]))
 (none))
 (none))
 (none))
 (none))
 (k_t3 x3_1 x3_5)
noncomputable def L_key_Segments_3 (n : Nat) (k_t3 : Nat → (List ByteArray) → Option Res) (x3_2 : (List Int)) (x3_3 : Int) : Nat → ByteArray → Nat → Int → (List ByteArray) → Option Res
  | 0, _, _, _, _ => none
  | m + 1, x3_0, x3_1, x3_4, x3_5 => F_key_Segments_3 n k_t3 x3_2 x3_3 (L_key_Segments_3 n k_t3 x3_2 x3_3 m) x3_0 x3_1 x3_4 x3_5
noncomputable def M_key_Segments (n : Nat) (a0 : ByteArray) (a1 : (List Int)) : Option Res :=
 L_key_Segments_0 n
  (fun y1 y2 y3 => some (encRes ro_key_Segments rh_key_Segments ((y1, (y2, ())), (y3, ()))))
  (fun y4 => cond (decide (((ByteArray.size a0 : Nat) : Int) < y4))
 (some (encRes ro_key_Segments rh_key_Segments ((0, ((4 : Int), ())), ([], ()))))
 (cond (decide (((ByteArray.size a0 : Nat) : Int) > y4))
 (some (encRes ro_key_Segments rh_key_Segments ((0, ((5 : Int), ())), ([], ()))))
 (L_key_Segments_3 n
  (fun y7 y8 => some (encRes ro_key_Segments rh_key_Segments ((y7, ((0 : Int), ())), (y8, ()))))
  a1
  (((List.length a1) : Nat) : Int)
  n
  a0
  0
  (0 : Int)
  ([]))))
  a1
  (((List.length a1) : Nat) : Int)
  n
  (0 : Int)
  (0 : Int)
noncomputable def Q_key_Segments (a0 : ByteArray) (a1 : (List Int)) : Option (RS ro_key_Segments rh_key_Segments) := decRes ro_key_Segments rh_key_Segments (M_key_Segments FUEL a0 a1)
noncomputable def ok_key_Segments (a0 : ByteArray) (a1 : (List Int)) : Bool := (Q_key_Segments a0 a1).isSome
noncomputable def q_key_Segments (a0 : ByteArray) (a1 : (List Int)) : RS ro_key_Segments rh_key_Segments := RS.get (Q_key_Segments a0 a1)
/-! ### hash_More -/
abbrev ro_hash_More : List EK := [.ty (.int .u32)]
abbrev rh_hash_More : List HK := []
noncomputable def F_hash_More_0 (n : Nat) (k_t0 : Int → Option Res) (x0_1 : ByteArray) (x0_2 : Int) (rec : Int → Int → Option Res) (x0_0 : Int) (x0_3 : Int) : Option Res :=
 cond (decide (x0_3 < x0_2))
 (cond (decide ((0 : Int) ≤ x0_3 ∧ x0_3 < ((ByteArray.size x0_1 : Nat) : Int)))
 (let y1 : Int := (IntKind.wrap .u32 (BitVec.toNat (BitVec.ofInt (IntKind.bits .u32) x0_0 ^^^ BitVec.ofInt (IntKind.bits .u32) (IntKind.wrap .u32 (byteAt x0_1 (Int.toNat x0_3)))) : Nat))
 rec (IntKind.wrap .u32 (y1 * (16777619 : Int))) (IntKind.wrap .i64 (x0_3 + (1 : Int))))
 (none))
 (k_t0 x0_0)
noncomputable def L_hash_More_0 (n : Nat) (k_t0 : Int → Option Res) (x0_1 : ByteArray) (x0_2 : Int) : Nat → Int → Int → Option Res
  | 0, _, _ => none
  | m + 1, x0_0, x0_3 => F_hash_More_0 n k_t0 x0_1 x0_2 (L_hash_More_0 n k_t0 x0_1 x0_2 m) x0_0 x0_3
noncomputable def M_hash_More (n : Nat) (a0 : Int) (a1 : ByteArray) : Option Res :=
 L_hash_More_0 n
  (fun y2 => some (encRes ro_hash_More rh_hash_More ((y2, ()), ())))
  a1
  ((ByteArray.size a1 : Nat) : Int)
  n
  a0
  (0 : Int)
noncomputable def Q_hash_More (a0 : Int) (a1 : ByteArray) : Option (RS ro_hash_More rh_hash_More) := decRes ro_hash_More rh_hash_More (M_hash_More FUEL a0 a1)
noncomputable def ok_hash_More (a0 : Int) (a1 : ByteArray) : Bool := (Q_hash_More a0 a1).isSome
noncomputable def q_hash_More (a0 : Int) (a1 : ByteArray) : RS ro_hash_More rh_hash_More := RS.get (Q_hash_More a0 a1)
/-! ### hash_Of -/
abbrev ro_hash_Of : List EK := [.ty (.int .u32)]
abbrev rh_hash_Of : List HK := []
noncomputable def F_hash_Of_0 (n : Nat) (k_t0 : Int → Option Res) (x0_1 : (List ByteArray)) (x0_2 : Int) (rec : Int → Int → Option Res) (x0_0 : Int) (x0_3 : Int) : Option Res :=
 cond (decide (x0_3 < x0_2))
 (cond (decide ((0 : Int) ≤ x0_3 ∧ x0_3 < (((List.length x0_1) : Nat) : Int)))
 (let y1 : ((Int × Unit) × Unit) := (q_hash_More x0_0 (rdd ByteArray.empty x0_1 (Int.toNat x0_3)))
 cond (ok_hash_More x0_0 (rdd ByteArray.empty x0_1 (Int.toNat x0_3)))
 (rec y1.1.1 (IntKind.wrap .i64 (x0_3 + (1 : Int))))
 (none))
 (none))
 (k_t0 x0_0)
noncomputable def L_hash_Of_0 (n : Nat) (k_t0 : Int → Option Res) (x0_1 : (List ByteArray)) (x0_2 : Int) : Nat → Int → Int → Option Res
  | 0, _, _ => none
  | m + 1, x0_0, x0_3 => F_hash_Of_0 n k_t0 x0_1 x0_2 (L_hash_Of_0 n k_t0 x0_1 x0_2 m) x0_0 x0_3
noncomputable def M_hash_Of (n : Nat) (a0 : (List ByteArray)) : Option Res :=
 L_hash_Of_0 n
  (fun y2 => some (encRes ro_hash_Of rh_hash_Of ((y2, ()), ())))
  a0
  (((List.length a0) : Nat) : Int)
  n
  (2166136261 : Int)
  (0 : Int)
noncomputable def Q_hash_Of (a0 : (List ByteArray)) : Option (RS ro_hash_Of rh_hash_Of) := decRes ro_hash_Of rh_hash_Of (M_hash_Of FUEL a0)
noncomputable def ok_hash_Of (a0 : (List ByteArray)) : Bool := (Q_hash_Of a0).isSome
noncomputable def q_hash_Of (a0 : (List ByteArray)) : RS ro_hash_Of rh_hash_Of := RS.get (Q_hash_Of a0)
/-! ### hash_Mix -/
abbrev ro_hash_Mix : List EK := [.ty (.int .u32)]
abbrev rh_hash_Mix : List HK := []
noncomputable def M_hash_Mix (n : Nat) (a0 : Int) : Option Res :=
 cond (decide ((0 : Int) ≤ (16 : Int)))
 (let y1 : Int := (IntKind.wrap .u32 (BitVec.toNat (BitVec.ofInt (IntKind.bits .u32) a0 ^^^ BitVec.ofInt (IntKind.bits .u32) (Int.fdiv a0 (2 ^ (min (Int.toNat (16 : Int)) (IntKind.bits .u32))))) : Nat))
 cond (decide ((0 : Int) ≤ (13 : Int)))
 (let y2 : Int := (Int.fdiv (IntKind.wrap .u32 (y1 * (2246822507 : Int))) (2 ^ (min (Int.toNat (13 : Int)) (IntKind.bits .u32))))
 let y3 : Int := (IntKind.wrap .u32 (BitVec.toNat (BitVec.ofInt (IntKind.bits .u32) (IntKind.wrap .u32 (y1 * (2246822507 : Int))) ^^^ BitVec.ofInt (IntKind.bits .u32) y2) : Nat))
 cond (decide ((0 : Int) ≤ (16 : Int)))
 (let y4 : Int := (Int.fdiv (IntKind.wrap .u32 (y3 * (3266489909 : Int))) (2 ^ (min (Int.toNat (16 : Int)) (IntKind.bits .u32))))
 let y5 : Int := (IntKind.wrap .u32 (BitVec.toNat (BitVec.ofInt (IntKind.bits .u32) (IntKind.wrap .u32 (y3 * (3266489909 : Int))) ^^^ BitVec.ofInt (IntKind.bits .u32) y4) : Nat))
 some (encRes ro_hash_Mix rh_hash_Mix ((y5, ()), ())))
 (none))
 (none))
 (none)
noncomputable def Q_hash_Mix (a0 : Int) : Option (RS ro_hash_Mix rh_hash_Mix) := decRes ro_hash_Mix rh_hash_Mix (M_hash_Mix FUEL a0)
noncomputable def ok_hash_Mix (a0 : Int) : Bool := (Q_hash_Mix a0).isSome
noncomputable def q_hash_Mix (a0 : Int) : RS ro_hash_Mix rh_hash_Mix := RS.get (Q_hash_Mix a0)
/-! ### key_Numberxe04 -/
abbrev ro_key_Numberxe04 : List EK := [.ty (.int .u32), .ty (.int .i64)]
abbrev rh_key_Numberxe04 : List HK := [.one false [.ptr 1 0 0, .nul 4, .ptr 3 0 0, .ty (.int .i64)], .one false [.hs 2 0], .row (.int .u8), .one false [.hs 4 0], .row (.int .u8)]
noncomputable def M_key_Numberxe04 (n : Nat) (a0 : FieldS) (a1 : Int) (a2 : Nat) (a3 : (List Int)) (a4 : Nat) (a5 : (List Int)) : Option Res :=
 let y1 : ((ByteArray × (Int × Unit)) × ((Unit × (Unit × (Unit × (Int × Unit)))) × ((Nat × Unit) × ((List Int) × ((Nat × Unit) × ((List Int) × Unit)))))) := (q_key_textxac0 a0 a1 a2 a3 a4 a5)
 cond (ok_key_textxac0 a0 a1 a2 a3 a4 a5)
 (cond (y1.1.2.1 != (0 : Int))
 (some (encRes ro_key_Numberxe04 rh_key_Numberxe04 (((0 : Int), (y1.1.2.1, ())), (((), ((), ((), (y1.2.1.2.2.2.1, ())))), ((y1.2.2.1.1, ()), (y1.2.2.2.1, ((y1.2.2.2.2.1.1, ()), (y1.2.2.2.2.2.1, ()))))))))
 (let y2 : ((Int × Unit) × Unit) := (q_hash_Of ([y1.1.1]))
 cond (ok_hash_Of ([y1.1.1]))
 (let y3 : ((Int × Unit) × Unit) := (q_hash_Mix y2.1.1)
 cond (ok_hash_Mix y2.1.1)
 (some (encRes ro_key_Numberxe04 rh_key_Numberxe04 ((y3.1.1, ((0 : Int), ())), (((), ((), ((), (y1.2.1.2.2.2.1, ())))), ((y1.2.2.1.1, ()), (y1.2.2.2.1, ((y1.2.2.2.2.1.1, ()), (y1.2.2.2.2.2.1, ()))))))))
 (none))
 (none)))
 (none)
noncomputable def Q_key_Numberxe04 (a0 : FieldS) (a1 : Int) (a2 : Nat) (a3 : (List Int)) (a4 : Nat) (a5 : (List Int)) : Option (RS ro_key_Numberxe04 rh_key_Numberxe04) := decRes ro_key_Numberxe04 rh_key_Numberxe04 (M_key_Numberxe04 FUEL a0 a1 a2 a3 a4 a5)
noncomputable def ok_key_Numberxe04 (a0 : FieldS) (a1 : Int) (a2 : Nat) (a3 : (List Int)) (a4 : Nat) (a5 : (List Int)) : Bool := (Q_key_Numberxe04 a0 a1 a2 a3 a4 a5).isSome
noncomputable def q_key_Numberxe04 (a0 : FieldS) (a1 : Int) (a2 : Nat) (a3 : (List Int)) (a4 : Nat) (a5 : (List Int)) : RS ro_key_Numberxe04 rh_key_Numberxe04 := RS.get (Q_key_Numberxe04 a0 a1 a2 a3 a4 a5)
/-! ### turnoutref06_Texts -/
abbrev ro_turnoutref06_Texts : List EK := [.ty .bool]
abbrev rh_turnoutref06_Texts : List HK := []
noncomputable def F_turnoutref06_Texts_0 (n : Nat) (k_r : Bool → Option Res) (k_t0 : Unit → Option Res) (x0_0 : (List ByteArray)) (x0_1 : (List ByteArray)) (rec : Int → Option Res) (x0_2 : Int) : Option Res :=
 cond (decide (x0_2 < (((List.length x0_0) : Nat) : Int)))
 (cond (decide ((0 : Int) ≤ x0_2 ∧ x0_2 < (((List.length x0_0) : Nat) : Int)))
 (cond (decide ((0 : Int) ≤ x0_2 ∧ x0_2 < (((List.length x0_1) : Nat) : Int)))
 (cond (!(ByteArray.toList (rdd ByteArray.empty x0_0 (Int.toNat x0_2)) == ByteArray.toList (rdd ByteArray.empty x0_1 (Int.toNat x0_2))))
 (k_r false)
 (rec (IntKind.wrap .i64 (x0_2 + (1 : Int)))))
 (none))
 (none))
 (k_t0 ())
noncomputable def L_turnoutref06_Texts_0 (n : Nat) (k_r : Bool → Option Res) (k_t0 : Unit → Option Res) (x0_0 : (List ByteArray)) (x0_1 : (List ByteArray)) : Nat → Int → Option Res
  | 0, _ => none
  | m + 1, x0_2 => F_turnoutref06_Texts_0 n k_r k_t0 x0_0 x0_1 (L_turnoutref06_Texts_0 n k_r k_t0 x0_0 x0_1 m) x0_2
noncomputable def M_turnoutref06_Texts (n : Nat) (a0 : (List ByteArray)) (a1 : (List ByteArray)) : Option Res :=
 cond ((((List.length a0) : Nat) : Int) != (((List.length a1) : Nat) : Int))
 (some (encRes ro_turnoutref06_Texts rh_turnoutref06_Texts ((false, ()), ())))
 (L_turnoutref06_Texts_0 n
  (fun y1 => some (encRes ro_turnoutref06_Texts rh_turnoutref06_Texts ((y1, ()), ())))
  (fun _ => some (encRes ro_turnoutref06_Texts rh_turnoutref06_Texts ((true, ()), ())))
  a0
  a1
  n
  (0 : Int))
noncomputable def Q_turnoutref06_Texts (a0 : (List ByteArray)) (a1 : (List ByteArray)) : Option (RS ro_turnoutref06_Texts rh_turnoutref06_Texts) := decRes ro_turnoutref06_Texts rh_turnoutref06_Texts (M_turnoutref06_Texts FUEL a0 a1)
noncomputable def ok_turnoutref06_Texts (a0 : (List ByteArray)) (a1 : (List ByteArray)) : Bool := (Q_turnoutref06_Texts a0 a1).isSome
noncomputable def q_turnoutref06_Texts (a0 : (List ByteArray)) (a1 : (List ByteArray)) : RS ro_turnoutref06_Texts rh_turnoutref06_Texts := RS.get (Q_turnoutref06_Texts a0 a1)
/-! ### turnoutlaw18_awake -/
abbrev ro_turnoutlaw18_awake : List EK := [.ty .bool]
abbrev rh_turnoutlaw18_awake : List HK := []
noncomputable def M_turnoutlaw18_awake (n : Nat) : Option Res :=
 let y4 : ((Unit × (Unit × Unit)) × ((Unit × (Unit × (Unit × (Int × Unit)))) × ((Nat × Unit) × ((List Int) × ((Nat × Unit) × ((List Int) × Unit)))))) := (q_pack_New (1 : Int) (ByteArray.mk #[18, 52, 86]))
 cond (ok_pack_New (1 : Int) (ByteArray.mk #[18, 52, 86]))
 (let y6 : ((Unit × (Unit × Unit)) × ((Unit × (Unit × (Unit × (Int × Unit)))) × ((Nat × Unit) × ((List Int) × ((Nat × Unit) × ((List Int) × Unit)))))) := (q_pack_New (1 : Int) (ByteArray.mk #[97]))
 cond (ok_pack_New (1 : Int) (ByteArray.mk #[97]))
 (let y7 : ((FieldS × Unit) × Unit) := (q_turnoutlaw18_bits (0 : Int) (8 : Int))
 cond (ok_turnoutlaw18_bits (0 : Int) (8 : Int))
 (let y8 : ((FieldS × Unit) × Unit) := (q_turnoutlaw18_bits (12 : Int) (4 : Int))
 cond (ok_turnoutlaw18_bits (12 : Int) (4 : Int))
 (let y9 : ((ByteArray × (Int × Unit)) × ((Unit × (Unit × (Unit × (Int × Unit)))) × ((Nat × Unit) × ((List Int) × ((Nat × Unit) × ((List Int) × Unit)))))) := (q_key_Ofxf63 ([y7.1.1, y8.1.1]) y4.2.1.2.2.2.1 y4.2.2.1.1 y4.2.2.2.1 y4.2.2.2.2.1.1 y4.2.2.2.2.2.1)
 cond (ok_key_Ofxf63 ([y7.1.1, y8.1.1]) y4.2.1.2.2.2.1 y4.2.2.1.1 y4.2.2.2.1 y4.2.2.2.2.1.1 y4.2.2.2.2.2.1)
 (let y10 : ((FieldS × Unit) × Unit) := (q_turnoutlaw18_bits (0 : Int) (1 : Int))
 cond (ok_turnoutlaw18_bits (0 : Int) (1 : Int))
 (let y11 : ((FieldS × Unit) × Unit) := (q_turnoutlaw18_bits (0 : Int) (8 : Int))
 cond (ok_turnoutlaw18_bits (0 : Int) (8 : Int))
 (let y12 : ((FieldS × Unit) × Unit) := (q_turnoutlaw18_bits (0 : Int) (9 : Int))
 cond (ok_turnoutlaw18_bits (0 : Int) (9 : Int))
 (let y13 : ((Nat × Unit) × ((List Int) × Unit)) := (q_key_Widths ([y10.1.1, y11.1.1, y12.1.1]))
 cond (ok_key_Widths ([y10.1.1, y11.1.1, y12.1.1]))
 (let y14 : ((Nat × (Int × Unit)) × ((List ByteArray) × Unit)) := (q_key_Segments (ByteArray.mk #[97, 98, 99]) ([(1 : Int), (2 : Int)]))
 cond (ok_key_Segments (ByteArray.mk #[97, 98, 99]) ([(1 : Int), (2 : Int)]))
 (let y15 : ((Nat × (Int × Unit)) × ((List ByteArray) × Unit)) := (q_key_Segments (ByteArray.mk #[97, 98, 99]) ([(1 : Int), (1 : Int)]))
 cond (ok_key_Segments (ByteArray.mk #[97, 98, 99]) ([(1 : Int), (1 : Int)]))
 (let y16 : ((Nat × (Int × Unit)) × ((List ByteArray) × Unit)) := (q_key_Segments (ByteArray.mk #[97, 98, 99]) ([(2 : Int), (2 : Int)]))
 cond (ok_key_Segments (ByteArray.mk #[97, 98, 99]) ([(2 : Int), (2 : Int)]))
 (let y17 : ((FieldS × Unit) × Unit) := (q_turnoutlaw18_bits (0 : Int) (8 : Int))
 cond (ok_turnoutlaw18_bits (0 : Int) (8 : Int))
 (let y18 : ((Int × (Int × Unit)) × ((Unit × (Unit × (Unit × (Int × Unit)))) × ((Nat × Unit) × ((List Int) × ((Nat × Unit) × ((List Int) × Unit)))))) := (q_key_Numberxe04 y17.1.1 y6.2.1.2.2.2.1 y6.2.2.1.1 y6.2.2.2.1 y6.2.2.2.2.1.1 y6.2.2.2.2.2.1)
 cond (ok_key_Numberxe04 y17.1.1 y6.2.1.2.2.2.1 y6.2.2.1.1 y6.2.2.2.1 y6.2.2.2.2.1.1 y6.2.2.2.2.2.1)
 (cond (y9.1.2.1 == (0 : Int))
 (cond (ByteArray.toList y9.1.1 == ByteArray.toList (ByteArray.mk #[18, 4]))
 (cond (((y13.1.1 : Nat) : Int) == (3 : Int))
 (cond (decide ((0 : Int) ≤ (0 : Int) ∧ (0 : Int) < ((y13.1.1 : Nat) : Int)))
 (cond ((rdd (0 : Int) y13.2.1 0) == (1 : Int))
 (cond (decide ((0 : Int) ≤ (1 : Int) ∧ (1 : Int) < ((y13.1.1 : Nat) : Int)))
 (cond ((rdd (0 : Int) y13.2.1 1) == (1 : Int))
 (cond (decide ((0 : Int) ≤ (2 : Int) ∧ (2 : Int) < ((y13.1.1 : Nat) : Int)))
 (cond ((rdd (0 : Int) y13.2.1 2) == (2 : Int))
 (cond (y14.1.2.1 == (0 : Int))
 (let y19 : ((Bool × Unit) × Unit) := (q_turnoutref06_Texts (cutL ByteArray.empty y14.2.1 0 y14.1.1) ([(ByteArray.mk #[97]), (ByteArray.mk #[98, 99])]))
 cond (ok_turnoutref06_Texts (cutL ByteArray.empty y14.2.1 0 y14.1.1) ([(ByteArray.mk #[97]), (ByteArray.mk #[98, 99])]))
 (cond y19.1.1
 (cond (y15.1.2.1 == (5 : Int))
 (cond (y16.1.2.1 == (4 : Int))
 (cond (y18.1.2.1 == (0 : Int))
 (let y20 : ((Int × Unit) × Unit) := (q_hash_Of ([(ByteArray.mk #[97])]))
 cond (ok_hash_Of ([(ByteArray.mk #[97])]))
 (let y21 : ((Int × Unit) × Unit) := (q_hash_Mix y20.1.1)
 cond (ok_hash_Mix y20.1.1)
 (some (encRes ro_turnoutlaw18_awake rh_turnoutlaw18_awake (((y18.1.1 == y21.1.1), ()), ())))
 (none))
 (none))
 (some (encRes ro_turnoutlaw18_awake rh_turnoutlaw18_awake ((false, ()), ()))))
 (some (encRes ro_turnoutlaw18_awake rh_turnoutlaw18_awake ((false, ()), ()))))
 (some (encRes ro_turnoutlaw18_awake rh_turnoutlaw18_awake ((false, ()), ()))))
 (some (encRes ro_turnoutlaw18_awake rh_turnoutlaw18_awake ((false, ()), ()))))
 (none))
 (some (encRes ro_turnoutlaw18_awake rh_turnoutlaw18_awake ((false, ()), ()))))
 (some (encRes ro_turnoutlaw18_awake rh_turnoutlaw18_awake ((false, ()), ()))))
 (none))
 (some (encRes ro_turnoutlaw18_awake rh_turnoutlaw18_awake ((false, ()), ()))))
 (none))
 (some (encRes ro_turnoutlaw18_awake rh_turnoutlaw18_awake ((false, ()), ()))))
 (none))
 (some (encRes ro_turnoutlaw18_awake rh_turnoutlaw18_awake ((false, ()), ()))))
 (some (encRes ro_turnoutlaw18_awake rh_turnoutlaw18_awake ((false, ()), ()))))
 (some (encRes ro_turnoutlaw18_awake rh_turnoutlaw18_awake ((false, ()), ()))))
 (none))
 (none))
 (none))
 (none))
 (none))
 (none))
 (none))
 (none))
 (none))
 (none))
 (none))
 (none))
 (let y5 : ((Unit × (Unit × Unit)) × Unit) := (q_pack_New_2 (1 : Int) (ByteArray.mk #[97]))
 cond (ok_pack_New_2 (1 : Int) (ByteArray.mk #[97]))
 (some (encRes ro_turnoutlaw18_awake rh_turnoutlaw18_awake ((false, ()), ())))
 (none)))
 (let y1 : ((Unit × (Unit × Unit)) × Unit) := (q_pack_New_2 (1 : Int) (ByteArray.mk #[18, 52, 86]))
 cond (ok_pack_New_2 (1 : Int) (ByteArray.mk #[18, 52, 86]))
 (let y3 : ((Unit × (Unit × Unit)) × ((Unit × (Unit × (Unit × (Int × Unit)))) × ((Nat × Unit) × ((List Int) × ((Nat × Unit) × ((List Int) × Unit)))))) := (q_pack_New (1 : Int) (ByteArray.mk #[97]))
 cond (ok_pack_New (1 : Int) (ByteArray.mk #[97]))
 (some (encRes ro_turnoutlaw18_awake rh_turnoutlaw18_awake ((false, ()), ())))
 (let y2 : ((Unit × (Unit × Unit)) × Unit) := (q_pack_New_2 (1 : Int) (ByteArray.mk #[97]))
 cond (ok_pack_New_2 (1 : Int) (ByteArray.mk #[97]))
 (some (encRes ro_turnoutlaw18_awake rh_turnoutlaw18_awake ((false, ()), ())))
 (none)))
 (none))
noncomputable def Q_turnoutlaw18_awake : Option (RS ro_turnoutlaw18_awake rh_turnoutlaw18_awake) := decRes ro_turnoutlaw18_awake rh_turnoutlaw18_awake (M_turnoutlaw18_awake FUEL)
noncomputable def ok_turnoutlaw18_awake : Bool := (Q_turnoutlaw18_awake).isSome
noncomputable def q_turnoutlaw18_awake : RS ro_turnoutlaw18_awake rh_turnoutlaw18_awake := RS.get (Q_turnoutlaw18_awake)
/-! ### strings_Join -/
abbrev ro_strings_Join : List EK := [.ty .str]
abbrev rh_strings_Join : List HK := []
noncomputable def Q_strings_Join (a0 : List ByteArray) (a1 : ByteArray) : Option (RS ro_strings_Join rh_strings_Join) := joinQ a0 a1
noncomputable def ok_strings_Join (a0 : List ByteArray) (a1 : ByteArray) : Bool := (Q_strings_Join a0 a1).isSome
noncomputable def q_strings_Join (a0 : List ByteArray) (a1 : ByteArray) : RS ro_strings_Join rh_strings_Join := RS.get (Q_strings_Join a0 a1)
/-! ### key_Join -/
abbrev ro_key_Join : List EK := [.ty .str]
abbrev rh_key_Join : List HK := []
noncomputable def M_key_Join (n : Nat) (a0 : (List ByteArray)) : Option Res :=
 let y1 : ((ByteArray × Unit) × Unit) := (q_strings_Join a0 (ByteArray.mk #[]))
 cond (ok_strings_Join a0 (ByteArray.mk #[]))
 (some (encRes ro_key_Join rh_key_Join ((y1.1.1, ()), ())))
 (none)
noncomputable def Q_key_Join (a0 : (List ByteArray)) : Option (RS ro_key_Join rh_key_Join) := decRes ro_key_Join rh_key_Join (M_key_Join FUEL a0)
noncomputable def ok_key_Join (a0 : (List ByteArray)) : Bool := (Q_key_Join a0).isSome
noncomputable def q_key_Join (a0 : (List ByteArray)) : RS ro_key_Join rh_key_Join := RS.get (Q_key_Join a0)
/-! ### turnoutlaw18_KeyBack -/
abbrev ro_turnoutlaw18_KeyBack : List EK := [.ty .bool]
abbrev rh_turnoutlaw18_KeyBack : List HK := []
noncomputable def F_turnoutlaw18_KeyBack_0 (n : Nat) (k_r : Bool → Option Res) (k_t0 : Nat → (List Int) → Option Res) (x0_0 : (List ByteArray)) (rec : Nat → Int → (List Int) → Option Res) (x0_3 : Nat) (x0_4 : Int) (x0_5 : (List Int)) : Option Res :=
 cond (decide (x0_4 < (((List.length x0_0) : Nat) : Int)))
 (cond (decide ((0 : Int) ≤ x0_4 ∧ x0_4 < (((List.length x0_0) : Nat) : Int)))
 (cond (decide (((ByteArray.size (rdd ByteArray.empty x0_0 (Int.toNat x0_4)) : Nat) : Int) > (16 : Int)))
 (k_r true)
 (cond (decide ((0 : Int) ≤ x0_4 ∧ x0_4 < (((List.length x0_0) : Nat) : Int)))
 (cond (decide (((List.length (cutL (0 : Int) x0_5 0 x0_3)) + 1) * 8 ≤ 2 ^ 46 ∧ ((List.length (cutL (0 : Int) x0_5 0 x0_3)) + 1) ≤ 2 ^ 46))
 (rec ((List.length (cutL (0 : Int) x0_5 0 x0_3)) + 1) (IntKind.wrap .i64 (x0_4 + (1 : Int))) ((cutL (0 : Int) x0_5 0 x0_3) ++ [((ByteArray.size (rdd ByteArray.empty x0_0 (Int.toNat x0_4)) : Nat) : Int)]))
 (none))
 (none)))
 (none))
 (k_t0 x0_3 x0_5)
noncomputable def L_turnoutlaw18_KeyBack_0 (n : Nat) (k_r : Bool → Option Res) (k_t0 : Nat → (List Int) → Option Res) (x0_0 : (List ByteArray)) : Nat → Nat → Int → (List Int) → Option Res
  | 0, _, _, _ => none
  | m + 1, x0_3, x0_4, x0_5 => F_turnoutlaw18_KeyBack_0 n k_r k_t0 x0_0 (L_turnoutlaw18_KeyBack_0 n k_r k_t0 x0_0 m) x0_3 x0_4 x0_5
noncomputable def M_turnoutlaw18_KeyBack (n : Nat) (a0 : (List ByteArray)) (a1 : ByteArray) (a2 : (List Int)) : Option Res :=
 cond (decide ((((List.length a0) : Nat) : Int) > (300 : Int)))
 (let y1 : ((Bool × Unit) × Unit) := q_turnoutlaw18_awake
 cond ok_turnoutlaw18_awake
 (some (encRes ro_turnoutlaw18_KeyBack rh_turnoutlaw18_KeyBack ((y1.1.1, ()), ())))
 (none))
 (cond (decide (((ByteArray.size a1 : Nat) : Int) > (5000 : Int)))
 (let y2 : ((Bool × Unit) × Unit) := q_turnoutlaw18_awake
 cond ok_turnoutlaw18_awake
 (some (encRes ro_turnoutlaw18_KeyBack rh_turnoutlaw18_KeyBack ((y2.1.1, ()), ())))
 (none))
 (cond (decide ((((List.length a2) : Nat) : Int) > (500 : Int)))
 (let y3 : ((Bool × Unit) × Unit) := q_turnoutlaw18_awake
 cond ok_turnoutlaw18_awake
 (some (encRes ro_turnoutlaw18_KeyBack rh_turnoutlaw18_KeyBack ((y3.1.1, ()), ())))
 (none))
 (let y4 : ((Bool × Unit) × Unit) := q_turnoutlaw18_awake
 cond ok_turnoutlaw18_awake
 (cond (!y4.1.1)
 (let y5 : ((Bool × Unit) × Unit) := q_turnoutlaw18_awake
 cond ok_turnoutlaw18_awake
 (some (encRes ro_turnoutlaw18_KeyBack rh_turnoutlaw18_KeyBack ((y5.1.1, ()), ())))
 (none))
 (L_turnoutlaw18_KeyBack_0 n
  (fun y6 => some (encRes ro_turnoutlaw18_KeyBack rh_turnoutlaw18_KeyBack ((y6, ()), ())))
  (fun y7 y8 => let y9 : ((ByteArray × Unit) × Unit) := (q_key_Join a0)
 cond (ok_key_Join a0)
 (let y10 : ((Nat × (Int × Unit)) × ((List ByteArray) × Unit)) := (q_key_Segments y9.1.1 (cutL (0 : Int) y8 0 y7))
 cond (ok_key_Segments y9.1.1 (cutL (0 : Int) y8 0 y7))
 (cond (y10.1.2.1 != (0 : Int))
 (some (encRes ro_turnoutlaw18_KeyBack rh_turnoutlaw18_KeyBack ((false, ()), ())))
 (let y11 : ((Bool × Unit) × Unit) := (q_turnoutref06_Texts (cutL ByteArray.empty y10.2.1 0 y10.1.1) a0)
 cond (ok_turnoutref06_Texts (cutL ByteArray.empty y10.2.1 0 y10.1.1) a0)
 (cond (!y11.1.1)
 (some (encRes ro_turnoutlaw18_KeyBack rh_turnoutlaw18_KeyBack ((false, ()), ())))
 (let y12 : ((Nat × (Int × Unit)) × ((List ByteArray) × Unit)) := (q_key_Segments a1 a2)
 cond (ok_key_Segments a1 a2)
 (cond (y12.1.2.1 != (0 : Int))
 (cond (((y12.1.1 : Nat) : Int) == (0 : Int))
 (some (encRes ro_turnoutlaw18_KeyBack rh_turnoutlaw18_KeyBack ((true, ()), ())))
 (cond (y12.1.2.1 == (0 : Int))
 (let y13 : ((ByteArray × Unit) × Unit) := (q_key_Join (cutL ByteArray.empty y12.2.1 0 y12.1.1))
 cond (ok_key_Join (cutL ByteArray.empty y12.2.1 0 y12.1.1))
 (cond (ByteArray.toList y13.1.1 == ByteArray.toList a1)
 (some (encRes ro_turnoutlaw18_KeyBack rh_turnoutlaw18_KeyBack (((((y12.1.1 : Nat) : Int) == (((List.length a2) : Nat) : Int)), ()), ())))
 (some (encRes ro_turnoutlaw18_KeyBack rh_turnoutlaw18_KeyBack ((false, ()), ()))))
 (none))
 (some (encRes ro_turnoutlaw18_KeyBack rh_turnoutlaw18_KeyBack ((false, ()), ())))))
 (cond (y12.1.2.1 == (0 : Int))
 (let y14 : ((ByteArray × Unit) × Unit) := (q_key_Join (cutL ByteArray.empty y12.2.1 0 y12.1.1))
 cond (ok_key_Join (cutL ByteArray.empty y12.2.1 0 y12.1.1))
 (cond (ByteArray.toList y14.1.1 == ByteArray.toList a1)
 (some (encRes ro_turnoutlaw18_KeyBack rh_turnoutlaw18_KeyBack (((((y12.1.1 : Nat) : Int) == (((List.length a2) : Nat) : Int)), ()), ())))
 (some (encRes ro_turnoutlaw18_KeyBack rh_turnoutlaw18_KeyBack ((false, ()), ()))))
 (none))
 (some (encRes ro_turnoutlaw18_KeyBack rh_turnoutlaw18_KeyBack ((false, ()), ())))))
 (none)))
 (none)))
 (none))
 (none))
  a0
  n
  0
  (0 : Int)
  ([])))
 (none))))
noncomputable def Q_turnoutlaw18_KeyBack (a0 : (List ByteArray)) (a1 : ByteArray) (a2 : (List Int)) : Option (RS ro_turnoutlaw18_KeyBack rh_turnoutlaw18_KeyBack) := decRes ro_turnoutlaw18_KeyBack rh_turnoutlaw18_KeyBack (M_turnoutlaw18_KeyBack FUEL a0 a1 a2)
noncomputable def ok_turnoutlaw18_KeyBack (a0 : (List ByteArray)) (a1 : ByteArray) (a2 : (List Int)) : Bool := (Q_turnoutlaw18_KeyBack a0 a1 a2).isSome
noncomputable def q_turnoutlaw18_KeyBack (a0 : (List ByteArray)) (a1 : ByteArray) (a2 : (List Int)) : RS ro_turnoutlaw18_KeyBack rh_turnoutlaw18_KeyBack := RS.get (Q_turnoutlaw18_KeyBack a0 a1 a2)
/-! ### turnoutlaw18_large -/
abbrev ro_turnoutlaw18_large : List EK := [.ty .bool]
abbrev rh_turnoutlaw18_large : List HK := []
noncomputable def F_turnoutlaw18_large_0 (n : Nat) (k_t0 : Int → Option Res) (x0_0 : (List NodeS)) (rec : Int → Int → Option Res) (x0_1 : Int) (x0_2 : Int) : Option Res :=
 cond (decide (x0_2 < (((List.length x0_0) : Nat) : Int)))
 (cond (decide (x0_1 < (2000 : Int)))
 (cond (decide ((0 : Int) ≤ x0_2 ∧ x0_2 < (((List.length x0_0) : Nat) : Int)))
 (let y1 : Int := (if (((List.length (rdd zNodeS x0_0 (Int.toNat x0_2)).2.2.2.2.2.2.2.1) : Nat) : Int) < (2000 : Int) then (((List.length (rdd zNodeS x0_0 (Int.toNat x0_2)).2.2.2.2.2.2.2.1) : Nat) : Int) else (2000 : Int))
 rec (IntKind.wrap .i64 ((IntKind.wrap .i64 (x0_1 + (5 : Int))) + y1)) (IntKind.wrap .i64 (x0_2 + (1 : Int))))
 (none))
 (k_t0 x0_1))
 (k_t0 x0_1)
noncomputable def L_turnoutlaw18_large_0 (n : Nat) (k_t0 : Int → Option Res) (x0_0 : (List NodeS)) : Nat → Int → Int → Option Res
  | 0, _, _ => none
  | m + 1, x0_1, x0_2 => F_turnoutlaw18_large_0 n k_t0 x0_0 (L_turnoutlaw18_large_0 n k_t0 x0_0 m) x0_1 x0_2
noncomputable def M_turnoutlaw18_large (n : Nat) (a0 : (List NodeS)) : Option Res :=
 L_turnoutlaw18_large_0 n
  (fun y2 => some (encRes ro_turnoutlaw18_large rh_turnoutlaw18_large (((decide (y2 ≥ (2000 : Int))), ()), ())))
  a0
  n
  (0 : Int)
  (0 : Int)
noncomputable def Q_turnoutlaw18_large (a0 : (List NodeS)) : Option (RS ro_turnoutlaw18_large rh_turnoutlaw18_large) := decRes ro_turnoutlaw18_large rh_turnoutlaw18_large (M_turnoutlaw18_large FUEL a0)
noncomputable def ok_turnoutlaw18_large (a0 : (List NodeS)) : Bool := (Q_turnoutlaw18_large a0).isSome
noncomputable def q_turnoutlaw18_large (a0 : (List NodeS)) : RS ro_turnoutlaw18_large rh_turnoutlaw18_large := RS.get (Q_turnoutlaw18_large a0)
/-! ### buf_Buf_Textx455 -/
abbrev ro_buf_Buf_Textx455 : List EK := [.ty .str]
abbrev rh_buf_Buf_Textx455 : List HK := [.one false [.hs 1 0], .row (.int .u8)]
noncomputable def M_buf_Buf_Textx455 (n : Nat) (a0 : Nat) (a1 : (List Int)) : Option Res :=
 some (encRes ro_buf_Buf_Textx455 rh_buf_Buf_Textx455 (((bytesOf (cutL (0 : Int) a1 0 a0)), ()), ((a0, ()), (a1, ()))))
noncomputable def Q_buf_Buf_Textx455 (a0 : Nat) (a1 : (List Int)) : Option (RS ro_buf_Buf_Textx455 rh_buf_Buf_Textx455) := decRes ro_buf_Buf_Textx455 rh_buf_Buf_Textx455 (M_buf_Buf_Textx455 FUEL a0 a1)
noncomputable def ok_buf_Buf_Textx455 (a0 : Nat) (a1 : (List Int)) : Bool := (Q_buf_Buf_Textx455 a0 a1).isSome
noncomputable def q_buf_Buf_Textx455 (a0 : Nat) (a1 : (List Int)) : RS ro_buf_Buf_Textx455 rh_buf_Buf_Textx455 := RS.get (Q_buf_Buf_Textx455 a0 a1)
/-! ### pack_Packet_Textx626 -/
abbrev ro_pack_Packet_Textx626 : List EK := [.ty .str]
abbrev rh_pack_Packet_Textx626 : List HK := [.one false [.ptr 1 0 0, .nul 4, .ptr 3 0 0, .ty (.int .i64)], .one false [.hs 2 0], .row (.int .u8), .one false [.hs 4 0], .row (.int .u8)]
noncomputable def M_pack_Packet_Textx626 (n : Nat) (a0 : Int) (a1 : Nat) (a2 : (List Int)) (a3 : Nat) (a4 : (List Int)) : Option Res :=
 let y1 : ((ByteArray × Unit) × ((Nat × Unit) × ((List Int) × Unit))) := (q_buf_Buf_Textx455 a1 a2)
 cond (ok_buf_Buf_Textx455 a1 a2)
 (some (encRes ro_pack_Packet_Textx626 rh_pack_Packet_Textx626 ((y1.1.1, ()), (((), ((), ((), (a0, ())))), ((y1.2.1.1, ()), (y1.2.2.1, ((a3, ()), (a4, ()))))))))
 (none)
noncomputable def Q_pack_Packet_Textx626 (a0 : Int) (a1 : Nat) (a2 : (List Int)) (a3 : Nat) (a4 : (List Int)) : Option (RS ro_pack_Packet_Textx626 rh_pack_Packet_Textx626) := decRes ro_pack_Packet_Textx626 rh_pack_Packet_Textx626 (M_pack_Packet_Textx626 FUEL a0 a1 a2 a3 a4)
noncomputable def ok_pack_Packet_Textx626 (a0 : Int) (a1 : Nat) (a2 : (List Int)) (a3 : Nat) (a4 : (List Int)) : Bool := (Q_pack_Packet_Textx626 a0 a1 a2 a3 a4).isSome
noncomputable def q_pack_Packet_Textx626 (a0 : Int) (a1 : Nat) (a2 : (List Int)) (a3 : Nat) (a4 : (List Int)) : RS ro_pack_Packet_Textx626 rh_pack_Packet_Textx626 := RS.get (Q_pack_Packet_Textx626 a0 a1 a2 a3 a4)
/-! ### graph_to -/
abbrev ro_graph_to : List EK := [.ty .bool]
abbrev rh_graph_to : List HK := []
noncomputable def M_graph_to (n : Nat) (a0 : Int) : Option Res :=
 cond (decide (a0 ≥ (0 : Int)))
 (some (encRes ro_graph_to rh_graph_to (((decide (a0 ≤ (65535 : Int))), ()), ())))
 (some (encRes ro_graph_to rh_graph_to ((false, ()), ())))
noncomputable def Q_graph_to (a0 : Int) : Option (RS ro_graph_to rh_graph_to) := decRes ro_graph_to rh_graph_to (M_graph_to FUEL a0)
noncomputable def ok_graph_to (a0 : Int) : Bool := (Q_graph_to a0).isSome
noncomputable def q_graph_to (a0 : Int) : RS ro_graph_to rh_graph_to := RS.get (Q_graph_to a0)
/-! ### graph_span_may -/
abbrev ro_graph_span_may : List EK := [.ty .bool]
abbrev rh_graph_span_may : List HK := []
noncomputable def M_graph_span_may (n : Nat) (a0 : SpanS) : Option Res :=
 cond (a0.2.1 == (0 : Int))
 (some (encRes ro_graph_span_may rh_graph_span_may (((a0.1 == (0 : Int)), ()), ())))
 (cond (decide (a0.2.1 > (0 : Int)))
 (cond (decide (a0.2.1 ≤ a0.2.2.1))
 (cond (decide (a0.1 ≥ (0 : Int)))
 (some (encRes ro_graph_span_may rh_graph_span_may (((decide (a0.1 ≤ (2048 : Int))), ()), ())))
 (some (encRes ro_graph_span_may rh_graph_span_may ((false, ()), ()))))
 (some (encRes ro_graph_span_may rh_graph_span_may ((false, ()), ()))))
 (some (encRes ro_graph_span_may rh_graph_span_may ((false, ()), ()))))
noncomputable def Q_graph_span_may (a0 : SpanS) : Option (RS ro_graph_span_may rh_graph_span_may) := decRes ro_graph_span_may rh_graph_span_may (M_graph_span_may FUEL a0)
noncomputable def ok_graph_span_may (a0 : SpanS) : Bool := (Q_graph_span_may a0).isSome
noncomputable def q_graph_span_may (a0 : SpanS) : RS ro_graph_span_may rh_graph_span_may := RS.get (Q_graph_span_may a0)
/-! ### graph_unit -/
abbrev ro_graph_unit : List EK := [.ty .bool]
abbrev rh_graph_unit : List HK := []
noncomputable def M_graph_unit (n : Nat) (a0 : NodeS) : Option Res :=
 cond (a0.2.2.2.1 == (0 : Int))
 (some (encRes ro_graph_unit rh_graph_unit (((a0.2.2.2.2.1 == (0 : Int)), ()), ())))
 (cond (decide (a0.2.2.2.2.1 ≥ (1 : Int)))
 (some (encRes ro_graph_unit rh_graph_unit (((decide (a0.2.2.2.2.1 ≤ (256 : Int))), ()), ())))
 (some (encRes ro_graph_unit rh_graph_unit ((false, ()), ()))))
noncomputable def Q_graph_unit (a0 : NodeS) : Option (RS ro_graph_unit rh_graph_unit) := decRes ro_graph_unit rh_graph_unit (M_graph_unit FUEL a0)
noncomputable def ok_graph_unit (a0 : NodeS) : Bool := (Q_graph_unit a0).isSome
noncomputable def q_graph_unit (a0 : NodeS) : RS ro_graph_unit rh_graph_unit := RS.get (Q_graph_unit a0)
/-! ### graph_Form -/
abbrev ro_graph_Form : List EK := [.ty .bool]
abbrev rh_graph_Form : List HK := []
noncomputable def F_graph_Form_0 (n : Nat) (k_r : Bool → Option Res) (k_t0 : Unit → Option Res) (x0_0 : (List ArmS)) (x0_1 : Int) (x0_3 : NodeS) (rec : Int → Option Res) (x0_2 : Int) : Option Res :=
 cond (decide (x0_2 < x0_1))
 (cond (decide ((0 : Int) ≤ x0_2 ∧ x0_2 < (((List.length x0_0) : Nat) : Int)))
 (cond (decide ((0 : Int) ≤ x0_3.2.2.2.2.2.2.1))
 (let y5 : Int := (Int.fdiv (IntKind.wrap .u64 (rdd zArmS x0_0 (Int.toNat x0_2)).1) (2 ^ (min (Int.toNat x0_3.2.2.2.2.2.2.1) (IntKind.bits .u64))))
 cond (decide (y5 > (0 : Int)))
 (k_r false)
 (cond (x0_3.2.2.2.2.2.2.1 == (0 : Int))
 (k_r false)
 (cond (decide (x0_2 > (0 : Int)))
 (cond (decide ((0 : Int) ≤ (IntKind.wrap .i64 (x0_2 - (1 : Int))) ∧ (IntKind.wrap .i64 (x0_2 - (1 : Int))) < (((List.length x0_3.2.2.2.2.2.2.2.1) : Nat) : Int)))
 (cond (decide ((rdd zArmS x0_0 (Int.toNat x0_2)).1 ≤ (rdd zArmS x0_3.2.2.2.2.2.2.2.1 (Int.toNat (IntKind.wrap .i64 (x0_2 - (1 : Int))))).1))
 (k_r false)
 (let y6 : ((Bool × Unit) × Unit) := (q_graph_to ((rdd zArmS x0_0 (Int.toNat x0_2)).2.1))
 cond (ok_graph_to ((rdd zArmS x0_0 (Int.toNat x0_2)).2.1))
 (cond (!y6.1.1)
 (k_r false)
 (rec (IntKind.wrap .i64 (x0_2 + (1 : Int)))))
 (none)))
 (none))
 (let y7 : ((Bool × Unit) × Unit) := (q_graph_to ((rdd zArmS x0_0 (Int.toNat x0_2)).2.1))
 cond (ok_graph_to ((rdd zArmS x0_0 (Int.toNat x0_2)).2.1))
 (cond (!y7.1.1)
 (k_r false)
 (rec (IntKind.wrap .i64 (x0_2 + (1 : Int)))))
 (none)))))
 (none))
 (none))
 (k_t0 ())
noncomputable def L_graph_Form_0 (n : Nat) (k_r : Bool → Option Res) (k_t0 : Unit → Option Res) (x0_0 : (List ArmS)) (x0_1 : Int) (x0_3 : NodeS) : Nat → Int → Option Res
  | 0, _ => none
  | m + 1, x0_2 => F_graph_Form_0 n k_r k_t0 x0_0 x0_1 x0_3 (L_graph_Form_0 n k_r k_t0 x0_0 x0_1 x0_3 m) x0_2
noncomputable def M_graph_Form (n : Nat) (a0 : NodeS) : Option Res :=
 cond (decide (a0.1 < (1 : Int)))
 (some (encRes ro_graph_Form rh_graph_Form ((false, ()), ())))
 (cond (decide (a0.1 > (65534 : Int)))
 (some (encRes ro_graph_Form rh_graph_Form ((false, ()), ())))
 (cond (decide (a0.2.1 < (0 : Int)))
 (some (encRes ro_graph_Form rh_graph_Form ((false, ()), ())))
 (cond (decide (a0.2.1 > (256 : Int)))
 (some (encRes ro_graph_Form rh_graph_Form ((false, ()), ())))
 (let y1 : ((Bool × Unit) × Unit) := (q_graph_to a0.2.2.2.2.2.2.2.2.1)
 cond (ok_graph_to a0.2.2.2.2.2.2.2.2.1)
 (cond (!y1.1.1)
 (some (encRes ro_graph_Form rh_graph_Form ((false, ()), ())))
 (cond (decide ((((List.length a0.2.2.2.2.2.2.2.1) : Nat) : Int) > (32 : Int)))
 (some (encRes ro_graph_Form rh_graph_Form ((false, ()), ())))
 (let y2 : ((Bool × Unit) × Unit) := (q_graph_span_may (a0.2.2.1, (a0.2.2.2.1, ((16 : Int), ()))))
 cond (ok_graph_span_may (a0.2.2.1, (a0.2.2.2.1, ((16 : Int), ()))))
 (cond (!y2.1.1)
 (some (encRes ro_graph_Form rh_graph_Form ((false, ()), ())))
 (let y3 : ((Bool × Unit) × Unit) := (q_graph_unit a0)
 cond (ok_graph_unit a0)
 (cond (!y3.1.1)
 (some (encRes ro_graph_Form rh_graph_Form ((false, ()), ())))
 (let y4 : ((Bool × Unit) × Unit) := (q_graph_span_may (a0.2.2.2.2.2.1, (a0.2.2.2.2.2.2.1, ((32 : Int), ()))))
 cond (ok_graph_span_may (a0.2.2.2.2.2.1, (a0.2.2.2.2.2.2.1, ((32 : Int), ()))))
 (cond (!y4.1.1)
 (some (encRes ro_graph_Form rh_graph_Form ((false, ()), ())))
 (L_graph_Form_0 n
  (fun y8 => some (encRes ro_graph_Form rh_graph_Form ((y8, ()), ())))
  (fun _ => some (encRes ro_graph_Form rh_graph_Form ((true, ()), ())))
  a0.2.2.2.2.2.2.2.1
  (((List.length a0.2.2.2.2.2.2.2.1) : Nat) : Int)
  a0
  n
  (0 : Int)))
 (none)))
 (none)))
 (none))))
 (none)))))
noncomputable def Q_graph_Form (a0 : NodeS) : Option (RS ro_graph_Form rh_graph_Form) := decRes ro_graph_Form rh_graph_Form (M_graph_Form FUEL a0)
noncomputable def ok_graph_Form (a0 : NodeS) : Bool := (Q_graph_Form a0).isSome
noncomputable def q_graph_Form (a0 : NodeS) : RS ro_graph_Form rh_graph_Form := RS.get (Q_graph_Form a0)
/-! ### graph_form -/
abbrev ro_graph_form : List EK := [.ty .bool]
abbrev rh_graph_form : List HK := []
noncomputable def F_graph_form_0 (n : Nat) (k_r : Bool → Option Res) (k_t0 : Unit → Option Res) (x0_0 : (List NodeS)) (x0_1 : (List NodeS)) (x0_2 : Int) (rec : Int → Option Res) (x0_3 : Int) : Option Res :=
 cond (decide (x0_3 < x0_2))
 (cond (decide ((0 : Int) ≤ x0_3 ∧ x0_3 < (((List.length x0_1) : Nat) : Int)))
 (let y1 : ((Bool × Unit) × Unit) := (q_graph_Form (rdd zNodeS x0_1 (Int.toNat x0_3)))
 cond (ok_graph_Form (rdd zNodeS x0_1 (Int.toNat x0_3)))
 (cond (!y1.1.1)
 (k_r false)
 (cond (decide (x0_3 > (0 : Int)))
 (cond (decide ((0 : Int) ≤ (IntKind.wrap .i64 (x0_3 - (1 : Int))) ∧ (IntKind.wrap .i64 (x0_3 - (1 : Int))) < (((List.length x0_0) : Nat) : Int)))
 (cond (decide ((rdd zNodeS x0_1 (Int.toNat x0_3)).1 ≤ (rdd zNodeS x0_0 (Int.toNat (IntKind.wrap .i64 (x0_3 - (1 : Int))))).1))
 (k_r false)
 (rec (IntKind.wrap .i64 (x0_3 + (1 : Int)))))
 (none))
 (rec (IntKind.wrap .i64 (x0_3 + (1 : Int))))))
 (none))
 (none))
 (k_t0 ())
noncomputable def L_graph_form_0 (n : Nat) (k_r : Bool → Option Res) (k_t0 : Unit → Option Res) (x0_0 : (List NodeS)) (x0_1 : (List NodeS)) (x0_2 : Int) : Nat → Int → Option Res
  | 0, _ => none
  | m + 1, x0_3 => F_graph_form_0 n k_r k_t0 x0_0 x0_1 x0_2 (L_graph_form_0 n k_r k_t0 x0_0 x0_1 x0_2 m) x0_3
noncomputable def M_graph_form (n : Nat) (a0 : (List NodeS)) : Option Res :=
 L_graph_form_0 n
  (fun y2 => some (encRes ro_graph_form rh_graph_form ((y2, ()), ())))
  (fun _ => some (encRes ro_graph_form rh_graph_form ((true, ()), ())))
  a0
  a0
  (((List.length a0) : Nat) : Int)
  n
  (0 : Int)
noncomputable def Q_graph_form (a0 : (List NodeS)) : Option (RS ro_graph_form rh_graph_form) := decRes ro_graph_form rh_graph_form (M_graph_form FUEL a0)
noncomputable def ok_graph_form (a0 : (List NodeS)) : Bool := (Q_graph_form a0).isSome
noncomputable def q_graph_form (a0 : (List NodeS)) : RS ro_graph_form rh_graph_form := RS.get (Q_graph_form a0)
/-! ### graph_goes -/
abbrev ro_graph_goes : List EK := [.hs 0 0]
abbrev rh_graph_goes : List HK := [.row (.int .i64)]
noncomputable def F_graph_goes_0 (n : Nat) (k_t0 : Nat → (List Int) → Option Res) (x0_1 : (List ArmS)) (x0_2 : Int) (rec : Nat → Int → (List Int) → Option Res) (x0_0 : Nat) (x0_3 : Int) (x0_4 : (List Int)) : Option Res :=
 cond (decide (x0_3 < x0_2))
 (cond (decide ((0 : Int) ≤ x0_3 ∧ x0_3 < (((List.length x0_1) : Nat) : Int)))
 (cond (decide (((List.length (cutL (0 : Int) x0_4 0 x0_0)) + 1) * 8 ≤ 2 ^ 46 ∧ ((List.length (cutL (0 : Int) x0_4 0 x0_0)) + 1) ≤ 2 ^ 46))
 (rec ((List.length (cutL (0 : Int) x0_4 0 x0_0)) + 1) (IntKind.wrap .i64 (x0_3 + (1 : Int))) ((cutL (0 : Int) x0_4 0 x0_0) ++ [(rdd zArmS x0_1 (Int.toNat x0_3)).2.1]))
 (none))
 (none))
 (k_t0 x0_0 x0_4)
noncomputable def L_graph_goes_0 (n : Nat) (k_t0 : Nat → (List Int) → Option Res) (x0_1 : (List ArmS)) (x0_2 : Int) : Nat → Nat → Int → (List Int) → Option Res
  | 0, _, _, _ => none
  | m + 1, x0_0, x0_3, x0_4 => F_graph_goes_0 n k_t0 x0_1 x0_2 (L_graph_goes_0 n k_t0 x0_1 x0_2 m) x0_0 x0_3 x0_4
noncomputable def M_graph_goes (n : Nat) (a0 : NodeS) : Option Res :=
 L_graph_goes_0 n
  (fun y1 y2 => some (encRes ro_graph_goes rh_graph_goes ((y1, ()), (y2, ()))))
  a0.2.2.2.2.2.2.2.1
  (((List.length a0.2.2.2.2.2.2.2.1) : Nat) : Int)
  n
  1
  (0 : Int)
  ([a0.2.2.2.2.2.2.2.2.1])
noncomputable def Q_graph_goes (a0 : NodeS) : Option (RS ro_graph_goes rh_graph_goes) := decRes ro_graph_goes rh_graph_goes (M_graph_goes FUEL a0)
noncomputable def ok_graph_goes (a0 : NodeS) : Bool := (Q_graph_goes a0).isSome
noncomputable def q_graph_goes (a0 : NodeS) : RS ro_graph_goes rh_graph_goes := RS.get (Q_graph_goes a0)
/-! ### graph_Find -/
abbrev ro_graph_Find : List EK := [.agg NodeT, .ty .bool]
abbrev rh_graph_Find : List HK := []
noncomputable def F_graph_Find_0 (n : Nat) (k_r : Bool → NodeS → Option Res) (k_t0 : Unit → Option Res) (x0_0 : Int) (x0_1 : (List NodeS)) (x0_2 : Int) (x0_4 : NodeS) (rec : Int → Option Res) (x0_3 : Int) : Option Res :=
 cond (decide (x0_3 < x0_2))
 (cond (decide ((0 : Int) ≤ x0_3 ∧ x0_3 < (((List.length x0_1) : Nat) : Int)))
 (cond ((rdd zNodeS x0_1 (Int.toNat x0_3)).1 == x0_0)
 (k_r true (rdd zNodeS x0_1 (Int.toNat x0_3)))
 (rec (IntKind.wrap .i64 (x0_3 + (1 : Int)))))
 (none))
 (k_t0 ())
noncomputable def L_graph_Find_0 (n : Nat) (k_r : Bool → NodeS → Option Res) (k_t0 : Unit → Option Res) (x0_0 : Int) (x0_1 : (List NodeS)) (x0_2 : Int) (x0_4 : NodeS) : Nat → Int → Option Res
  | 0, _ => none
  | m + 1, x0_3 => F_graph_Find_0 n k_r k_t0 x0_0 x0_1 x0_2 x0_4 (L_graph_Find_0 n k_r k_t0 x0_0 x0_1 x0_2 x0_4 m) x0_3
noncomputable def M_graph_Find (n : Nat) (a0 : (List NodeS)) (a1 : Int) : Option Res :=
 L_graph_Find_0 n
  (fun y1 y2 => some (encRes ro_graph_Find rh_graph_Find ((y2, (y1, ())), ())))
  (fun _ => some (encRes ro_graph_Find rh_graph_Find ((((0 : Int), ((0 : Int), ((0 : Int), ((0 : Int), ((0 : Int), ((0 : Int), ((0 : Int), ([], ((0 : Int), ()))))))))), (false, ())), ())))
  a1
  a0
  (((List.length a0) : Nat) : Int)
  ((0 : Int), ((0 : Int), ((0 : Int), ((0 : Int), ((0 : Int), ((0 : Int), ((0 : Int), ([], ((0 : Int), ())))))))))
  n
  (0 : Int)
noncomputable def Q_graph_Find (a0 : (List NodeS)) (a1 : Int) : Option (RS ro_graph_Find rh_graph_Find) := decRes ro_graph_Find rh_graph_Find (M_graph_Find FUEL a0 a1)
noncomputable def ok_graph_Find (a0 : (List NodeS)) (a1 : Int) : Bool := (Q_graph_Find a0 a1).isSome
noncomputable def q_graph_Find (a0 : (List NodeS)) (a1 : Int) : RS ro_graph_Find rh_graph_Find := RS.get (Q_graph_Find a0 a1)
/-! ### graph_refs -/
abbrev ro_graph_refs : List EK := [.ty .bool]
abbrev rh_graph_refs : List HK := []
noncomputable def F_graph_refs_2 (n : Nat) (k_r : Bool → Option Res) (k_t2 : Unit → Option Res) (x2_0 : (List NodeS)) (x2_1 : (List NodeS)) (x2_2 : Int) (x2_3 : Int) (x2_4 : Nat) (x2_5 : Int) (x2_7 : (List Int)) (rec : Int → Option Res) (x2_6 : Int) : Option Res :=
 cond (decide (x2_6 < x2_5))
 (cond (decide ((0 : Int) ≤ x2_6 ∧ x2_6 < ((x2_4 : Nat) : Int)))
 (let y2 : ((NodeS × (Bool × Unit)) × Unit) := (q_graph_Find x2_0 (rdd (0 : Int) x2_7 (Int.toNat x2_6)))
 cond (ok_graph_Find x2_0 (rdd (0 : Int) x2_7 (Int.toNat x2_6)))
 (cond (!y2.1.2.1)
 (cond ((rdd (0 : Int) x2_7 (Int.toNat x2_6)) != (0 : Int))
 (cond ((rdd (0 : Int) x2_7 (Int.toNat x2_6)) != (65535 : Int))
 (k_r false)
 (rec (IntKind.wrap .i64 (x2_6 + (1 : Int)))))
 (rec (IntKind.wrap .i64 (x2_6 + (1 : Int)))))
 (rec (IntKind.wrap .i64 (x2_6 + (1 : Int)))))
 (none))
 (none))
 (k_t2 ())
noncomputable def L_graph_refs_2 (n : Nat) (k_r : Bool → Option Res) (k_t2 : Unit → Option Res) (x2_0 : (List NodeS)) (x2_1 : (List NodeS)) (x2_2 : Int) (x2_3 : Int) (x2_4 : Nat) (x2_5 : Int) (x2_7 : (List Int)) : Nat → Int → Option Res
  | 0, _ => none
  | m + 1, x2_6 => F_graph_refs_2 n k_r k_t2 x2_0 x2_1 x2_2 x2_3 x2_4 x2_5 x2_7 (L_graph_refs_2 n k_r k_t2 x2_0 x2_1 x2_2 x2_3 x2_4 x2_5 x2_7 m) x2_6
noncomputable def F_graph_refs_0 (n : Nat) (k_r : Bool → Option Res) (k_t0 : Unit → Option Res) (x0_0 : (List NodeS)) (x0_1 : (List NodeS)) (x0_2 : Int) (rec : Int → Option Res) (x0_3 : Int) : Option Res :=
 cond (decide (x0_3 < x0_2))
 (cond (decide ((0 : Int) ≤ x0_3 ∧ x0_3 < (((List.length x0_1) : Nat) : Int)))
 (let y1 : ((Nat × Unit) × ((List Int) × Unit)) := (q_graph_goes (rdd zNodeS x0_1 (Int.toNat x0_3)))
 cond (ok_graph_goes (rdd zNodeS x0_1 (Int.toNat x0_3)))
 (L_graph_refs_2 n
  (fun y3 => k_r y3)
  (fun _ => rec (IntKind.wrap .i64 (x0_3 + (1 : Int))))
  x0_0
  x0_1
  x0_2
  x0_3
  y1.1.1
  ((y1.1.1 : Nat) : Int)
  y1.2.1
  n
  (0 : Int))
 (none))
 (none))
 (k_t0 ())
noncomputable def L_graph_refs_0 (n : Nat) (k_r : Bool → Option Res) (k_t0 : Unit → Option Res) (x0_0 : (List NodeS)) (x0_1 : (List NodeS)) (x0_2 : Int) : Nat → Int → Option Res
  | 0, _ => none
  | m + 1, x0_3 => F_graph_refs_0 n k_r k_t0 x0_0 x0_1 x0_2 (L_graph_refs_0 n k_r k_t0 x0_0 x0_1 x0_2 m) x0_3
noncomputable def M_graph_refs (n : Nat) (a0 : (List NodeS)) : Option Res :=
 L_graph_refs_0 n
  (fun y4 => some (encRes ro_graph_refs rh_graph_refs ((y4, ()), ())))
  (fun _ => some (encRes ro_graph_refs rh_graph_refs ((true, ()), ())))
  a0
  a0
  (((List.length a0) : Nat) : Int)
  n
  (0 : Int)
noncomputable def Q_graph_refs (a0 : (List NodeS)) : Option (RS ro_graph_refs rh_graph_refs) := decRes ro_graph_refs rh_graph_refs (M_graph_refs FUEL a0)
noncomputable def ok_graph_refs (a0 : (List NodeS)) : Bool := (Q_graph_refs a0).isSome
noncomputable def q_graph_refs (a0 : (List NodeS)) : RS ro_graph_refs rh_graph_refs := RS.get (Q_graph_refs a0)
/-! ### graph_longest_walk -/
abbrev ro_graph_longest_walk : List EK := [.ty (.int .i64)]
abbrev rh_graph_longest_walk : List HK := [.one true [.ty (.slice NodeT)], .one false [.mp 2], .mf (.int .i64) (.int .i64), .one true [.ty .bool], .one false [.mp 5], .mf (.int .i64) (.int .i64), .one false [.fn 106 [(0, 0, 0), (1, 0, 0), (3, 0, 0), (4, 0, 0), (6, 0, 0)]]]
noncomputable def F_graph_longest_walk_1 (n : Nat) (qr_graph_longest_walk : Int → (List NodeS) → (Int → Option (Int)) → Bool → (Int → Option (Int)) → Option (RS ro_graph_longest_walk rh_graph_longest_walk)) (k_t1 : Int → (List NodeS) → (Int → Option (Int)) → Bool → (Int → Option (Int)) → Option Res) (x1_0 : Int) (x1_2 : Nat) (x1_3 : Int) (x1_9 : (List Int)) (rec : Int → Int → (List NodeS) → (Int → Option (Int)) → Bool → (Int → Option (Int)) → Option Res) (x1_1 : Int) (x1_4 : Int) (x1_5 : (List NodeS)) (x1_6 : (Int → Option (Int))) (x1_7 : Bool) (x1_8 : (Int → Option (Int))) : Option Res :=
 cond (decide (x1_4 < x1_3))
 (cond (decide ((0 : Int) ≤ x1_4 ∧ x1_4 < ((x1_2 : Nat) : Int)))
 (let y3 : ((Int × Unit) × (((List NodeS) × Unit) × ((Unit × Unit) × ((Int → Option (Int)) × ((Bool × Unit) × ((Unit × Unit) × ((Int → Option (Int)) × ((Unit × Unit) × Unit)))))))) := (RS.get (qr_graph_longest_walk (rdd (0 : Int) x1_9 (Int.toNat x1_4)) x1_5 x1_6 x1_7 x1_8))
 cond (Option.isSome (qr_graph_longest_walk (rdd (0 : Int) x1_9 (Int.toNat x1_4)) x1_5 x1_6 x1_7 x1_8))
 (rec (if y3.1.1 > x1_1 then y3.1.1 else x1_1) (IntKind.wrap .i64 (x1_4 + (1 : Int))) y3.2.1.1 y3.2.2.2.1 y3.2.2.2.2.1.1 y3.2.2.2.2.2.2.1)
 (none))
 (none))
 (k_t1 x1_1 x1_5 x1_6 x1_7 x1_8)
noncomputable def L_graph_longest_walk_1 (n : Nat) (qr_graph_longest_walk : Int → (List NodeS) → (Int → Option (Int)) → Bool → (Int → Option (Int)) → Option (RS ro_graph_longest_walk rh_graph_longest_walk)) (k_t1 : Int → (List NodeS) → (Int → Option (Int)) → Bool → (Int → Option (Int)) → Option Res) (x1_0 : Int) (x1_2 : Nat) (x1_3 : Int) (x1_9 : (List Int)) : Nat → Int → Int → (List NodeS) → (Int → Option (Int)) → Bool → (Int → Option (Int)) → Option Res
  | 0, _, _, _, _, _, _ => none
  | m + 1, x1_1, x1_4, x1_5, x1_6, x1_7, x1_8 => F_graph_longest_walk_1 n qr_graph_longest_walk k_t1 x1_0 x1_2 x1_3 x1_9 (L_graph_longest_walk_1 n qr_graph_longest_walk k_t1 x1_0 x1_2 x1_3 x1_9 m) x1_1 x1_4 x1_5 x1_6 x1_7 x1_8
noncomputable def M_graph_longest_walk (n : Nat) (qr_graph_longest_walk : Int → (List NodeS) → (Int → Option (Int)) → Bool → (Int → Option (Int)) → Option (RS ro_graph_longest_walk rh_graph_longest_walk)) (a0 : Int) (a1 : (List NodeS)) (a2 : (Int → Option (Int))) (a3 : Bool) (a4 : (Int → Option (Int))) : Option Res :=
 let y1 : ((NodeS × (Bool × Unit)) × Unit) := (q_graph_Find a1 a0)
 cond (ok_graph_Find a1 a0)
 (cond (!y1.1.2.1)
 (some (encRes ro_graph_longest_walk rh_graph_longest_walk (((0 : Int), ()), ((a1, ()), (((), ()), (a2, ((a3, ()), (((), ()), (a4, (((), ()), ()))))))))))
 (cond (decide ((Option.getD (a2 a0) (0 : Int)) > (0 : Int)))
 (some (encRes ro_graph_longest_walk rh_graph_longest_walk (((0 : Int), ()), ((a1, ()), (((), ()), (a2, ((false, ()), (((), ()), (a4, (((), ()), ()))))))))))
 (cond (decide ((Option.getD (a4 a0) (0 : Int)) > (0 : Int)))
 (some (encRes ro_graph_longest_walk rh_graph_longest_walk (((Option.getD (a4 a0) (0 : Int)), ()), ((a1, ()), (((), ()), (a2, ((a3, ()), (((), ()), (a4, (((), ()), ()))))))))))
 (let y2 : ((Nat × Unit) × ((List Int) × Unit)) := (q_graph_goes y1.1.1)
 cond (ok_graph_goes y1.1.1)
 (L_graph_longest_walk_1 n qr_graph_longest_walk
  (fun y4 y5 y6 y7 y8 => some (encRes ro_graph_longest_walk rh_graph_longest_walk (((IntKind.wrap .i64 (y4 + (1 : Int))), ()), ((y5, ()), (((), ()), ((fun i => cond (decide (i = a0)) (some (IntKind.wrap .i64 ((Option.getD (y6 a0) (0 : Int)) - (1 : Int)))) (y6 i)), ((y7, ()), (((), ()), ((fun i => cond (decide (i = a0)) (some (IntKind.wrap .i64 (y4 + (1 : Int)))) (y8 i)), (((), ()), ()))))))))))
  a0
  y2.1.1
  ((y2.1.1 : Nat) : Int)
  y2.2.1
  n
  (0 : Int)
  (0 : Int)
  a1
  (fun i => cond (decide (i = a0)) (some (IntKind.wrap .i64 ((Option.getD (a2 a0) (0 : Int)) + (1 : Int)))) (a2 i))
  a3
  a4)
 (none)))))
 (none)
noncomputable def Qd_graph_longest_walk : Nat → Int → (List NodeS) → (Int → Option (Int)) → Bool → (Int → Option (Int)) → Option (RS ro_graph_longest_walk rh_graph_longest_walk)
  | 0, _, _, _, _, _ => none
  | dp + 1, a0, a1, a2, a3, a4 => decRes ro_graph_longest_walk rh_graph_longest_walk (M_graph_longest_walk FUEL (Qd_graph_longest_walk dp) a0 a1 a2 a3 a4)
noncomputable def Q_graph_longest_walk (a0 : Int) (a1 : (List NodeS)) (a2 : (Int → Option (Int))) (a3 : Bool) (a4 : (Int → Option (Int))) : Option (RS ro_graph_longest_walk rh_graph_longest_walk) := Qd_graph_longest_walk FUEL a0 a1 a2 a3 a4
noncomputable def ok_graph_longest_walk (a0 : Int) (a1 : (List NodeS)) (a2 : (Int → Option (Int))) (a3 : Bool) (a4 : (Int → Option (Int))) : Bool := (Q_graph_longest_walk a0 a1 a2 a3 a4).isSome
noncomputable def q_graph_longest_walk (a0 : Int) (a1 : (List NodeS)) (a2 : (Int → Option (Int))) (a3 : Bool) (a4 : (Int → Option (Int))) : RS ro_graph_longest_walk rh_graph_longest_walk := RS.get (Q_graph_longest_walk a0 a1 a2 a3 a4)
/-! ### graph_longest -/
abbrev ro_graph_longest : List EK := [.fn 106 [(0, 0, 0), (1, 0, 0), (3, 0, 0), (4, 0, 0), (6, 0, 0)], .ty .bool]
abbrev rh_graph_longest : List HK := [.one true [.ty (.slice NodeT)], .one false [.mp 2], .mf (.int .i64) (.int .i64), .one true [.ty .bool], .one false [.mp 5], .mf (.int .i64) (.int .i64), .one false [.fn 106 [(0, 0, 0), (1, 0, 0), (3, 0, 0), (4, 0, 0), (6, 0, 0)]]]
noncomputable def F_graph_longest_0 (n : Nat) (k_t0 : Bool → (List NodeS) → (Int → Option (Int)) → (Int → Option (Int)) → Option Res) (x0_0 : (List NodeS)) (x0_1 : Int) (rec : Int → Bool → (List NodeS) → (Int → Option (Int)) → (Int → Option (Int)) → Option Res) (x0_2 : Int) (x0_3 : Bool) (x0_4 : (List NodeS)) (x0_5 : (Int → Option (Int))) (x0_6 : (Int → Option (Int))) : Option Res :=
 cond (decide (x0_2 < x0_1))
 (cond (decide ((0 : Int) ≤ x0_2 ∧ x0_2 < (((List.length x0_0) : Nat) : Int)))
 (let y1 : ((Int × Unit) × (((List NodeS) × Unit) × ((Unit × Unit) × ((Int → Option (Int)) × ((Bool × Unit) × ((Unit × Unit) × ((Int → Option (Int)) × ((Unit × Unit) × Unit)))))))) := (q_graph_longest_walk ((rdd zNodeS x0_0 (Int.toNat x0_2)).1) x0_4 x0_5 x0_3 x0_6)
 cond (ok_graph_longest_walk ((rdd zNodeS x0_0 (Int.toNat x0_2)).1) x0_4 x0_5 x0_3 x0_6)
 (rec (IntKind.wrap .i64 (x0_2 + (1 : Int))) y1.2.2.2.2.1.1 y1.2.1.1 y1.2.2.2.1 y1.2.2.2.2.2.2.1)
 (none))
 (none))
 (k_t0 x0_3 x0_4 x0_5 x0_6)
noncomputable def L_graph_longest_0 (n : Nat) (k_t0 : Bool → (List NodeS) → (Int → Option (Int)) → (Int → Option (Int)) → Option Res) (x0_0 : (List NodeS)) (x0_1 : Int) : Nat → Int → Bool → (List NodeS) → (Int → Option (Int)) → (Int → Option (Int)) → Option Res
  | 0, _, _, _, _, _ => none
  | m + 1, x0_2, x0_3, x0_4, x0_5, x0_6 => F_graph_longest_0 n k_t0 x0_0 x0_1 (L_graph_longest_0 n k_t0 x0_0 x0_1 m) x0_2 x0_3 x0_4 x0_5 x0_6
noncomputable def M_graph_longest (n : Nat) (a0 : (List NodeS)) : Option Res :=
 L_graph_longest_0 n
  (fun y2 y3 y4 y5 => some (encRes ro_graph_longest rh_graph_longest (((), (y2, ())), ((y3, ()), (((), ()), (y4, ((y2, ()), (((), ()), (y5, (((), ()), ()))))))))))
  a0
  (((List.length a0) : Nat) : Int)
  n
  (0 : Int)
  true
  a0
  (fun _ => none)
  (fun _ => none)
noncomputable def Q_graph_longest (a0 : (List NodeS)) : Option (RS ro_graph_longest rh_graph_longest) := decRes ro_graph_longest rh_graph_longest (M_graph_longest FUEL a0)
noncomputable def ok_graph_longest (a0 : (List NodeS)) : Bool := (Q_graph_longest a0).isSome
noncomputable def q_graph_longest (a0 : (List NodeS)) : RS ro_graph_longest rh_graph_longest := RS.get (Q_graph_longest a0)
/-! ### graph_May -/
abbrev ro_graph_May : List EK := [.ty (.int .i64)]
abbrev rh_graph_May : List HK := []
noncomputable def M_graph_May (n : Nat) (a0 : (List NodeS)) : Option Res :=
 let y1 : ((Bool × Unit) × Unit) := (q_graph_form a0)
 cond (ok_graph_form a0)
 (cond (!y1.1.1)
 (some (encRes ro_graph_May rh_graph_May (((3 : Int), ()), ())))
 (cond (decide ((((List.length a0) : Nat) : Int) > (32 : Int)))
 (some (encRes ro_graph_May rh_graph_May (((12 : Int), ()), ())))
 (let y2 : ((Bool × Unit) × Unit) := (q_graph_refs a0)
 cond (ok_graph_refs a0)
 (cond (!y2.1.1)
 (some (encRes ro_graph_May rh_graph_May (((8 : Int), ()), ())))
 (let y3 : ((Unit × (Bool × Unit)) × (((List NodeS) × Unit) × ((Unit × Unit) × ((Int → Option (Int)) × ((Bool × Unit) × ((Unit × Unit) × ((Int → Option (Int)) × ((Unit × Unit) × Unit)))))))) := (q_graph_longest a0)
 cond (ok_graph_longest a0)
 (cond (!y3.1.2.1)
 (some (encRes ro_graph_May rh_graph_May (((10 : Int), ()), ())))
 (some (encRes ro_graph_May rh_graph_May (((0 : Int), ()), ()))))
 (none)))
 (none))))
 (none)
noncomputable def Q_graph_May (a0 : (List NodeS)) : Option (RS ro_graph_May rh_graph_May) := decRes ro_graph_May rh_graph_May (M_graph_May FUEL a0)
noncomputable def ok_graph_May (a0 : (List NodeS)) : Bool := (Q_graph_May a0).isSome
noncomputable def q_graph_May (a0 : (List NodeS)) : RS ro_graph_May rh_graph_May := RS.get (Q_graph_May a0)
/-! ### walk_steps -/
abbrev ro_walk_steps : List EK := [.fn 95 [(0, 0, 0), (1, 0, 0)]]
abbrev rh_walk_steps : List HK := [.one true [.ty (.slice NodeT)], .one true [.ty .str]]
noncomputable def M_walk_steps (n : Nat) (a0 : (List NodeS)) (a1 : ByteArray) : Option Res :=
 some (encRes ro_walk_steps rh_walk_steps (((), ()), ((a0, ()), ((a1, ()), ()))))
noncomputable def Q_walk_steps (a0 : (List NodeS)) (a1 : ByteArray) : Option (RS ro_walk_steps rh_walk_steps) := decRes ro_walk_steps rh_walk_steps (M_walk_steps FUEL a0 a1)
noncomputable def ok_walk_steps (a0 : (List NodeS)) (a1 : ByteArray) : Bool := (Q_walk_steps a0 a1).isSome
noncomputable def q_walk_steps (a0 : (List NodeS)) (a1 : ByteArray) : RS ro_walk_steps rh_walk_steps := RS.get (Q_walk_steps a0 a1)
/-! ### walk_may -/
abbrev ro_walk_may : List EK := [.ty .bool]
abbrev rh_walk_may : List HK := []
noncomputable def M_walk_may (n : Nat) (a0 : NodeS) : Option Res :=
 cond (decide (a0.2.1 < (0 : Int)))
 (some (encRes ro_walk_may rh_walk_may ((false, ()), ())))
 (cond (decide (a0.2.1 > (256 : Int)))
 (some (encRes ro_walk_may rh_walk_may ((false, ()), ())))
 (cond (decide (a0.2.2.1 < (0 : Int)))
 (some (encRes ro_walk_may rh_walk_may ((false, ()), ())))
 (cond (decide (a0.2.2.1 > (2048 : Int)))
 (some (encRes ro_walk_may rh_walk_may ((false, ()), ())))
 (cond (decide (a0.2.2.2.1 < (0 : Int)))
 (some (encRes ro_walk_may rh_walk_may ((false, ()), ())))
 (cond (decide (a0.2.2.2.1 > (16 : Int)))
 (some (encRes ro_walk_may rh_walk_may ((false, ()), ())))
 (cond (a0.2.2.2.1 == (0 : Int))
 (cond (a0.2.2.1 == (0 : Int))
 (some (encRes ro_walk_may rh_walk_may (((a0.2.2.2.2.1 == (0 : Int)), ()), ())))
 (some (encRes ro_walk_may rh_walk_may ((false, ()), ()))))
 (cond (decide (a0.2.2.2.2.1 ≥ (1 : Int)))
 (some (encRes ro_walk_may rh_walk_may (((decide (a0.2.2.2.2.1 ≤ (256 : Int))), ()), ())))
 (some (encRes ro_walk_may rh_walk_may ((false, ()), ()))))))))))
noncomputable def Q_walk_may (a0 : NodeS) : Option (RS ro_walk_may rh_walk_may) := decRes ro_walk_may rh_walk_may (M_walk_may FUEL a0)
noncomputable def ok_walk_may (a0 : NodeS) : Bool := (Q_walk_may a0).isSome
noncomputable def q_walk_may (a0 : NodeS) : RS ro_walk_may rh_walk_may := RS.get (Q_walk_may a0)
/-! ### walk_number -/
abbrev ro_walk_number : List EK := [.ty (.int .i64), .ty .bool]
abbrev rh_walk_number : List HK := []
noncomputable def M_walk_number (n : Nat) (a0 : ByteArray) (a1 : Int) (a2 : Int) (a3 : Int) : Option Res :=
 cond (decide (a1 < (0 : Int)))
 (some (encRes ro_walk_number rh_walk_number (((0 : Int), (false, ())), ())))
 (cond (decide (a1 > ((ByteArray.size a0 : Nat) : Int)))
 (some (encRes ro_walk_number rh_walk_number (((0 : Int), (false, ())), ())))
 (cond (decide ((0 : Int) ≤ a1 ∧ a1 ≤ ((ByteArray.size a0 : Nat) : Int) ∧ ((ByteArray.size a0 : Nat) : Int) ≤ ((ByteArray.size a0 : Nat) : Int)))
 (let y1 : ByteArray := (ByteArray.extract a0 (Int.toNat a1) (Int.toNat ((ByteArray.size a0 : Nat) : Int)))
 let y2 : ((WordS × (Int × Unit)) × Unit) := (q_field_Get y1 a2 a3)
 cond (ok_field_Get y1 a2 a3)
 (some (encRes ro_walk_number rh_walk_number (((IntKind.wrap .i64 y2.1.1.2.1), ((y2.1.2.1 == (0 : Int)), ())), ())))
 (none))
 (none)))
noncomputable def Q_walk_number (a0 : ByteArray) (a1 : Int) (a2 : Int) (a3 : Int) : Option (RS ro_walk_number rh_walk_number) := decRes ro_walk_number rh_walk_number (M_walk_number FUEL a0 a1 a2 a3)
noncomputable def ok_walk_number (a0 : ByteArray) (a1 : Int) (a2 : Int) (a3 : Int) : Bool := (Q_walk_number a0 a1 a2 a3).isSome
noncomputable def q_walk_number (a0 : ByteArray) (a1 : Int) (a2 : Int) (a3 : Int) : RS ro_walk_number rh_walk_number := RS.get (Q_walk_number a0 a1 a2 a3)
/-! ### walk_Size -/
abbrev ro_walk_Size : List EK := [.ty (.int .i64), .ty (.int .i64)]
abbrev rh_walk_Size : List HK := []
noncomputable def M_walk_Size (n : Nat) (a0 : NodeS) (a1 : ByteArray) (a2 : Int) : Option Res :=
 let y1 : ((Bool × Unit) × Unit) := (q_walk_may a0)
 cond (ok_walk_may a0)
 (cond (!y1.1.1)
 (some (encRes ro_walk_Size rh_walk_Size (((0 : Int), ((4 : Int), ())), ())))
 (cond (decide (a0.2.2.2.1 > (0 : Int)))
 (let y2 : ((Int × (Bool × Unit)) × Unit) := (q_walk_number a1 a2 a0.2.2.1 a0.2.2.2.1)
 cond (ok_walk_number a1 a2 a0.2.2.1 a0.2.2.2.1)
 (cond (!y2.1.2.1)
 (some (encRes ro_walk_Size rh_walk_Size (((0 : Int), ((1 : Int), ())), ())))
 (cond (decide ((IntKind.wrap .i64 (a0.2.1 + (IntKind.wrap .i64 (a0.2.2.2.2.1 * y2.1.1)))) > (256 : Int)))
 (some (encRes ro_walk_Size rh_walk_Size (((0 : Int), ((2 : Int), ())), ())))
 (cond (decide (a2 < (0 : Int)))
 (some (encRes ro_walk_Size rh_walk_Size (((0 : Int), ((1 : Int), ())), ())))
 (cond (decide (a2 > ((ByteArray.size a1 : Nat) : Int)))
 (some (encRes ro_walk_Size rh_walk_Size (((0 : Int), ((1 : Int), ())), ())))
 (cond (decide ((IntKind.wrap .i64 (a0.2.1 + (IntKind.wrap .i64 (a0.2.2.2.2.1 * y2.1.1)))) > (IntKind.wrap .i64 (((ByteArray.size a1 : Nat) : Int) - a2))))
 (some (encRes ro_walk_Size rh_walk_Size (((0 : Int), ((1 : Int), ())), ())))
 (some (encRes ro_walk_Size rh_walk_Size (((IntKind.wrap .i64 (a0.2.1 + (IntKind.wrap .i64 (a0.2.2.2.2.1 * y2.1.1)))), ((0 : Int), ())), ()))))))))
 (none))
 (cond (decide (a0.2.1 > (256 : Int)))
 (some (encRes ro_walk_Size rh_walk_Size (((0 : Int), ((2 : Int), ())), ())))
 (cond (decide (a2 < (0 : Int)))
 (some (encRes ro_walk_Size rh_walk_Size (((0 : Int), ((1 : Int), ())), ())))
 (cond (decide (a2 > ((ByteArray.size a1 : Nat) : Int)))
 (some (encRes ro_walk_Size rh_walk_Size (((0 : Int), ((1 : Int), ())), ())))
 (cond (decide (a0.2.1 > (IntKind.wrap .i64 (((ByteArray.size a1 : Nat) : Int) - a2))))
 (some (encRes ro_walk_Size rh_walk_Size (((0 : Int), ((1 : Int), ())), ())))
 (some (encRes ro_walk_Size rh_walk_Size ((a0.2.1, ((0 : Int), ())), ())))))))))
 (none)
noncomputable def Q_walk_Size (a0 : NodeS) (a1 : ByteArray) (a2 : Int) : Option (RS ro_walk_Size rh_walk_Size) := decRes ro_walk_Size rh_walk_Size (M_walk_Size FUEL a0 a1 a2)
noncomputable def ok_walk_Size (a0 : NodeS) (a1 : ByteArray) (a2 : Int) : Bool := (Q_walk_Size a0 a1 a2).isSome
noncomputable def q_walk_Size (a0 : NodeS) (a1 : ByteArray) (a2 : Int) : RS ro_walk_Size rh_walk_Size := RS.get (Q_walk_Size a0 a1 a2)
/-! ### graph_Next -/
abbrev ro_graph_Next : List EK := [.ty (.int .i64)]
abbrev rh_graph_Next : List HK := []
noncomputable def F_graph_Next_0 (n : Nat) (k_r : Int → Option Res) (k_t0 : Unit → Option Res) (x0_0 : Int) (x0_1 : (List ArmS)) (x0_2 : Int) (x0_4 : NodeS) (rec : Int → Option Res) (x0_3 : Int) : Option Res :=
 cond (decide (x0_3 < x0_2))
 (cond (decide ((0 : Int) ≤ x0_3 ∧ x0_3 < (((List.length x0_1) : Nat) : Int)))
 (cond ((rdd zArmS x0_1 (Int.toNat x0_3)).1 == x0_0)
 (k_r ((rdd zArmS x0_1 (Int.toNat x0_3)).2.1))
 (rec (IntKind.wrap .i64 (x0_3 + (1 : Int)))))
 (none))
 (k_t0 ())
noncomputable def L_graph_Next_0 (n : Nat) (k_r : Int → Option Res) (k_t0 : Unit → Option Res) (x0_0 : Int) (x0_1 : (List ArmS)) (x0_2 : Int) (x0_4 : NodeS) : Nat → Int → Option Res
  | 0, _ => none
  | m + 1, x0_3 => F_graph_Next_0 n k_r k_t0 x0_0 x0_1 x0_2 x0_4 (L_graph_Next_0 n k_r k_t0 x0_0 x0_1 x0_2 x0_4 m) x0_3
noncomputable def M_graph_Next (n : Nat) (a0 : (List NodeS)) (a1 : Int) (a2 : Int) : Option Res :=
 let y1 : ((NodeS × (Bool × Unit)) × Unit) := (q_graph_Find a0 a1)
 cond (ok_graph_Find a0 a1)
 (L_graph_Next_0 n
  (fun y2 => some (encRes ro_graph_Next rh_graph_Next ((y2, ()), ())))
  (fun _ => some (encRes ro_graph_Next rh_graph_Next ((y1.1.1.2.2.2.2.2.2.2.2.1, ()), ())))
  a2
  y1.1.1.2.2.2.2.2.2.2.1
  (((List.length y1.1.1.2.2.2.2.2.2.2.1) : Nat) : Int)
  y1.1.1
  n
  (0 : Int))
 (none)
noncomputable def Q_graph_Next (a0 : (List NodeS)) (a1 : Int) (a2 : Int) : Option (RS ro_graph_Next rh_graph_Next) := decRes ro_graph_Next rh_graph_Next (M_graph_Next FUEL a0 a1 a2)
noncomputable def ok_graph_Next (a0 : (List NodeS)) (a1 : Int) (a2 : Int) : Bool := (Q_graph_Next a0 a1 a2).isSome
noncomputable def q_graph_Next (a0 : (List NodeS)) (a1 : Int) (a2 : Int) : RS ro_graph_Next rh_graph_Next := RS.get (Q_graph_Next a0 a1 a2)
/-! ### walk_next -/
abbrev ro_walk_next : List EK := [.ty (.int .i64), .ty (.int .i64)]
abbrev rh_walk_next : List HK := []
noncomputable def M_walk_next (n : Nat) (a0 : (List NodeS)) (a1 : NodeS) (a2 : ByteArray) (a3 : Int) : Option Res :=
 cond (decide (a1.2.2.2.2.2.2.1 > (0 : Int)))
 (let y1 : ((Int × (Bool × Unit)) × Unit) := (q_walk_number a2 a3 a1.2.2.2.2.2.1 a1.2.2.2.2.2.2.1)
 cond (ok_walk_number a2 a3 a1.2.2.2.2.2.1 a1.2.2.2.2.2.2.1)
 (cond (!y1.1.2.1)
 (some (encRes ro_walk_next rh_walk_next (((0 : Int), ((1 : Int), ())), ())))
 (let y2 : ((Int × Unit) × Unit) := (q_graph_Next a0 a1.1 (IntKind.wrap .u32 y1.1.1))
 cond (ok_graph_Next a0 a1.1 (IntKind.wrap .u32 y1.1.1))
 (cond (y2.1.1 == (65535 : Int))
 (some (encRes ro_walk_next rh_walk_next (((0 : Int), ((4 : Int), ())), ())))
 (some (encRes ro_walk_next rh_walk_next ((y2.1.1, ((0 : Int), ())), ()))))
 (none)))
 (none))
 (let y3 : ((Int × Unit) × Unit) := (q_graph_Next a0 a1.1 (IntKind.wrap .u32 (0 : Int)))
 cond (ok_graph_Next a0 a1.1 (IntKind.wrap .u32 (0 : Int)))
 (cond (y3.1.1 == (65535 : Int))
 (some (encRes ro_walk_next rh_walk_next (((0 : Int), ((4 : Int), ())), ())))
 (some (encRes ro_walk_next rh_walk_next ((y3.1.1, ((0 : Int), ())), ()))))
 (none))
noncomputable def Q_walk_next (a0 : (List NodeS)) (a1 : NodeS) (a2 : ByteArray) (a3 : Int) : Option (RS ro_walk_next rh_walk_next) := decRes ro_walk_next rh_walk_next (M_walk_next FUEL a0 a1 a2 a3)
noncomputable def ok_walk_next (a0 : (List NodeS)) (a1 : NodeS) (a2 : ByteArray) (a3 : Int) : Bool := (Q_walk_next a0 a1 a2 a3).isSome
noncomputable def q_walk_next (a0 : (List NodeS)) (a1 : NodeS) (a2 : ByteArray) (a3 : Int) : RS ro_walk_next rh_walk_next := RS.get (Q_walk_next a0 a1 a2 a3)
/-! ### walk_steps_1 -/
abbrev ro_walk_steps_1 : List EK := []
abbrev rh_walk_steps_1 : List HK := [.lp 0 [.junk, .junk, .junk, .junk, .junk, .junk, .junk, .ptr 1 0 0, .ptr 3 0 0, .ptr 4 0 0, .junk, .junk, .junk, .junk, .junk, .junk, .junk, .junk, .junk, .junk, .junk, .junk, .junk, .junk, .junk, .junk, .junk, .junk, .junk, .junk, .junk, .junk], .one false [.hs 7 0], .gone, .one true [.ty (.int .i64)], .one true [.ty (.int .i64)], .one true [.ty (.slice NodeT)], .one true [.ty .str], .row HeadT]
noncomputable def F_walk_steps_1_0 (n : Nat) (k_r : Nat → Int → Int → (List HeadS) → Option Res) (k_t0 : Nat → Int → Int → (List HeadS) → Option Res) (x0_5 : (List NodeS)) (x0_6 : ByteArray) (rec : Int → Bool → Nat → Int → Int → (List HeadS) → NodeS → Option Res) (x0_0 : Int) (x0_1 : Bool) (x0_2 : Nat) (x0_3 : Int) (x0_4 : Int) (x0_7 : (List HeadS)) (x0_8 : NodeS) : Option Res :=
 cond x0_1
 (let y2 : ((Int × (Int × Unit)) × Unit) := (q_walk_Size x0_8 x0_6 x0_0)
 cond (ok_walk_Size x0_8 x0_6 x0_0)
 (cond (y2.1.2.1 != (0 : Int))
 (k_r x0_2 (IntKind.wrap .i64 (x0_3 + (1 : Int))) y2.1.2.1 x0_7)
 (let y3 : ((Int × (Int × Unit)) × Unit) := (q_walk_next x0_5 x0_8 x0_6 x0_0)
 cond (ok_walk_next x0_5 x0_8 x0_6 x0_0)
 (cond (decide (((List.length (cutL zHeadS x0_7 0 x0_2)) + 1) * 16 ≤ 2 ^ 46 ∧ ((List.length (cutL zHeadS x0_7 0 x0_2)) + 1) ≤ 2 ^ 46))
 (cond (!true)
 (k_r ((List.length (cutL zHeadS x0_7 0 x0_2)) + 1) (IntKind.wrap .i64 (x0_3 + (1 : Int))) y3.1.2.1 ((cutL zHeadS x0_7 0 x0_2) ++ [(x0_8.1, (x0_0, ()))]))
 (cond (y3.1.2.1 != (0 : Int))
 (k_r ((List.length (cutL zHeadS x0_7 0 x0_2)) + 1) (IntKind.wrap .i64 (x0_3 + (1 : Int))) y3.1.2.1 ((cutL zHeadS x0_7 0 x0_2) ++ [(x0_8.1, (x0_0, ()))]))
 (let y4 : ((NodeS × (Bool × Unit)) × Unit) := (q_graph_Find x0_5 y3.1.1)
 cond (ok_graph_Find x0_5 y3.1.1)
 (rec (IntKind.wrap .i64 (x0_0 + y2.1.1)) y4.1.2.1 ((List.length (cutL zHeadS x0_7 0 x0_2)) + 1) (IntKind.wrap .i64 (x0_3 + (1 : Int))) y3.1.2.1 ((cutL zHeadS x0_7 0 x0_2) ++ [(x0_8.1, (x0_0, ()))]) y4.1.1)
 (none))))
 (none))
 (none)))
 (none))
 (k_t0 x0_2 x0_3 x0_4 x0_7)
noncomputable def L_walk_steps_1_0 (n : Nat) (k_r : Nat → Int → Int → (List HeadS) → Option Res) (k_t0 : Nat → Int → Int → (List HeadS) → Option Res) (x0_5 : (List NodeS)) (x0_6 : ByteArray) : Nat → Int → Bool → Nat → Int → Int → (List HeadS) → NodeS → Option Res
  | 0, _, _, _, _, _, _, _ => none
  | m + 1, x0_0, x0_1, x0_2, x0_3, x0_4, x0_7, x0_8 => F_walk_steps_1_0 n k_r k_t0 x0_5 x0_6 (L_walk_steps_1_0 n k_r k_t0 x0_5 x0_6 m) x0_0 x0_1 x0_2 x0_3 x0_4 x0_7 x0_8
noncomputable def M_walk_steps_1 (n : Nat) (a0 : Nat) (a1 : (List HeadS)) (a2 : Int) (a3 : Int) (a4 : (List NodeS)) (a5 : ByteArray) : Option Res :=
 let y1 : ((NodeS × (Bool × Unit)) × Unit) := (q_graph_Find a4 (1 : Int))
 cond (ok_graph_Find a4 (1 : Int))
 (L_walk_steps_1_0 n
  (fun y5 y6 y7 y8 => some (encRes ro_walk_steps_1 rh_walk_steps_1 ((), (((), ((), ((), ((), ((), ((), ((), ((), ((), ((), ((), ((), ((), ((), ((), ((), ((), ((), ((), ((), ((), ((), ((), ((), ((), ((), ((), ((), ((), ((), ((), ((), ())))))))))))))))))))))))))))))))), ((y5, ()), ((), ((y6, ()), ((y7, ()), ((a4, ()), ((a5, ()), (y8, ())))))))))))
  (fun y9 y10 y11 y12 => some (encRes ro_walk_steps_1 rh_walk_steps_1 ((), (((), ((), ((), ((), ((), ((), ((), ((), ((), ((), ((), ((), ((), ((), ((), ((), ((), ((), ((), ((), ((), ((), ((), ((), ((), ((), ((), ((), ((), ((), ((), ((), ())))))))))))))))))))))))))))))))), ((y9, ()), ((), ((y10, ()), ((y11, ()), ((a4, ()), ((a5, ()), (y12, ())))))))))))
  a4
  a5
  n
  (0 : Int)
  y1.1.2.1
  a0
  a2
  a3
  a1
  y1.1.1)
 (none)
noncomputable def Q_walk_steps_1 (a0 : Nat) (a1 : (List HeadS)) (a2 : Int) (a3 : Int) (a4 : (List NodeS)) (a5 : ByteArray) : Option (RS ro_walk_steps_1 rh_walk_steps_1) := decRes ro_walk_steps_1 rh_walk_steps_1 (M_walk_steps_1 FUEL a0 a1 a2 a3 a4 a5)
noncomputable def ok_walk_steps_1 (a0 : Nat) (a1 : (List HeadS)) (a2 : Int) (a3 : Int) (a4 : (List NodeS)) (a5 : ByteArray) : Bool := (Q_walk_steps_1 a0 a1 a2 a3 a4 a5).isSome
noncomputable def q_walk_steps_1 (a0 : Nat) (a1 : (List HeadS)) (a2 : Int) (a3 : Int) (a4 : (List NodeS)) (a5 : ByteArray) : RS ro_walk_steps_1 rh_walk_steps_1 := RS.get (Q_walk_steps_1 a0 a1 a2 a3 a4 a5)
/-! ### walk_Walk -/
abbrev ro_walk_Walk : List EK := [.hs 0 0, .ty (.int .i64), .ty (.int .i64)]
abbrev rh_walk_Walk : List HK := [.row HeadT]
noncomputable def M_walk_Walk (n : Nat) (a0 : (List NodeS)) (a1 : ByteArray) : Option Res :=
 let y1 : ((Int × Unit) × Unit) := (q_graph_May a0)
 cond (ok_graph_May a0)
 (cond (y1.1.1 != (0 : Int))
 (some (encRes ro_walk_Walk rh_walk_Walk ((0, ((0 : Int), ((0 : Int), ()))), ([], ()))))
 (let y2 : ((Unit × Unit) × (((List NodeS) × Unit) × ((ByteArray × Unit) × Unit))) := (q_walk_steps a0 a1)
 cond (ok_walk_steps a0 a1)
 (let y3 : (Unit × ((Unit × (Unit × (Unit × (Unit × (Unit × (Unit × (Unit × (Unit × (Unit × (Unit × (Unit × (Unit × (Unit × (Unit × (Unit × (Unit × (Unit × (Unit × (Unit × (Unit × (Unit × (Unit × (Unit × (Unit × (Unit × (Unit × (Unit × (Unit × (Unit × (Unit × (Unit × (Unit × Unit)))))))))))))))))))))))))))))))) × ((Nat × Unit) × (Unit × ((Int × Unit) × ((Int × Unit) × (((List NodeS) × Unit) × ((ByteArray × Unit) × ((List HeadS) × Unit))))))))) := (q_walk_steps_1 0 ([]) (0 : Int) (0 : Int) y2.2.1.1 y2.2.2.1.1)
 cond (ok_walk_steps_1 0 ([]) (0 : Int) (0 : Int) y2.2.1.1 y2.2.2.1.1)
 (some (encRes ro_walk_Walk rh_walk_Walk ((y3.2.2.1.1, (y3.2.2.2.2.1.1, (y3.2.2.2.2.2.1.1, ()))), (y3.2.2.2.2.2.2.2.2.1, ()))))
 (none))
 (none)))
 (none)
noncomputable def Q_walk_Walk (a0 : (List NodeS)) (a1 : ByteArray) : Option (RS ro_walk_Walk rh_walk_Walk) := decRes ro_walk_Walk rh_walk_Walk (M_walk_Walk FUEL a0 a1)
noncomputable def ok_walk_Walk (a0 : (List NodeS)) (a1 : ByteArray) : Bool := (Q_walk_Walk a0 a1).isSome
noncomputable def q_walk_Walk (a0 : (List NodeS)) (a1 : ByteArray) : RS ro_walk_Walk rh_walk_Walk := RS.get (Q_walk_Walk a0 a1)
/-! ### pack_Packet_Walkx81b -/
abbrev ro_pack_Packet_Walkx81b : List EK := [.ty (.int .i64), .ty (.int .i64)]
abbrev rh_pack_Packet_Walkx81b : List HK := [.one false [.ptr 1 0 0, .hs 5 0, .ptr 3 0 0, .ty (.int .i64)], .one false [.hs 2 0], .row (.int .u8), .one false [.hs 4 0], .row (.int .u8), .row HeadT]
noncomputable def M_pack_Packet_Walkx81b (n : Nat) (a0 : (List NodeS)) (a1 : Int) (a2 : Nat) (a3 : (List Int)) (a4 : Nat) (a5 : (List Int)) : Option Res :=
 let y1 : ((ByteArray × Unit) × ((Unit × (Unit × (Unit × (Int × Unit)))) × ((Nat × Unit) × ((List Int) × ((Nat × Unit) × ((List Int) × Unit)))))) := (q_pack_Packet_Textx626 a1 a2 a3 a4 a5)
 cond (ok_pack_Packet_Textx626 a1 a2 a3 a4 a5)
 (let y2 : ((Nat × (Int × (Int × Unit))) × ((List HeadS) × Unit)) := (q_walk_Walk a0 y1.1.1)
 cond (ok_walk_Walk a0 y1.1.1)
 (some (encRes ro_pack_Packet_Walkx81b rh_pack_Packet_Walkx81b ((y2.1.2.1, (y2.1.2.2.1, ())), (((), (y2.1.1, ((), (y1.2.1.2.2.2.1, ())))), ((y1.2.2.1.1, ()), (y1.2.2.2.1, ((y1.2.2.2.2.1.1, ()), (y1.2.2.2.2.2.1, (y2.2.1, ())))))))))
 (none))
 (none)
noncomputable def Q_pack_Packet_Walkx81b (a0 : (List NodeS)) (a1 : Int) (a2 : Nat) (a3 : (List Int)) (a4 : Nat) (a5 : (List Int)) : Option (RS ro_pack_Packet_Walkx81b rh_pack_Packet_Walkx81b) := decRes ro_pack_Packet_Walkx81b rh_pack_Packet_Walkx81b (M_pack_Packet_Walkx81b FUEL a0 a1 a2 a3 a4 a5)
noncomputable def ok_pack_Packet_Walkx81b (a0 : (List NodeS)) (a1 : Int) (a2 : Nat) (a3 : (List Int)) (a4 : Nat) (a5 : (List Int)) : Bool := (Q_pack_Packet_Walkx81b a0 a1 a2 a3 a4 a5).isSome
noncomputable def q_pack_Packet_Walkx81b (a0 : (List NodeS)) (a1 : Int) (a2 : Nat) (a3 : (List Int)) (a4 : Nat) (a5 : (List Int)) : RS ro_pack_Packet_Walkx81b rh_pack_Packet_Walkx81b := RS.get (Q_pack_Packet_Walkx81b a0 a1 a2 a3 a4 a5)
/-! ### turnoutref15_Form -/
abbrev ro_turnoutref15_Form : List EK := [.ty .bool]
abbrev rh_turnoutref15_Form : List HK := []
noncomputable def F_turnoutref15_Form_0 (n : Nat) (k_t0 : Int → Option Res) (x0_2 : NodeS) (rec : Int → Int → Option Res) (x0_0 : Int) (x0_1 : Int) : Option Res :=
 cond (decide (x0_1 < x0_2.2.2.2.2.2.2.1))
 (rec (IntKind.wrap .u64 (x0_0 * (2 : Int))) (IntKind.wrap .i64 (x0_1 + (1 : Int))))
 (k_t0 x0_0)
noncomputable def L_turnoutref15_Form_0 (n : Nat) (k_t0 : Int → Option Res) (x0_2 : NodeS) : Nat → Int → Int → Option Res
  | 0, _, _ => none
  | m + 1, x0_0, x0_1 => F_turnoutref15_Form_0 n k_t0 x0_2 (L_turnoutref15_Form_0 n k_t0 x0_2 m) x0_0 x0_1
noncomputable def F_turnoutref15_Form_2 (n : Nat) (k_r : Bool → Option Res) (k_t2 : Unit → Option Res) (x2_0 : Int) (x2_2 : NodeS) (rec : Int → Option Res) (x2_1 : Int) : Option Res :=
 cond (decide (x2_1 < (((List.length x2_2.2.2.2.2.2.2.2.1) : Nat) : Int)))
 (cond (decide ((0 : Int) ≤ x2_1 ∧ x2_1 < (((List.length x2_2.2.2.2.2.2.2.2.1) : Nat) : Int)))
 (cond (decide ((IntKind.wrap .u64 (rdd zArmS x2_2.2.2.2.2.2.2.2.1 (Int.toNat x2_1)).1) ≥ x2_0))
 (k_r false)
 (cond (decide (x2_1 > (0 : Int)))
 (cond (decide ((0 : Int) ≤ (IntKind.wrap .i64 (x2_1 - (1 : Int))) ∧ (IntKind.wrap .i64 (x2_1 - (1 : Int))) < (((List.length x2_2.2.2.2.2.2.2.2.1) : Nat) : Int)))
 (cond (decide ((rdd zArmS x2_2.2.2.2.2.2.2.2.1 (Int.toNat x2_1)).1 ≤ (rdd zArmS x2_2.2.2.2.2.2.2.2.1 (Int.toNat (IntKind.wrap .i64 (x2_1 - (1 : Int))))).1))
 (k_r false)
 (cond (decide ((rdd zArmS x2_2.2.2.2.2.2.2.2.1 (Int.toNat x2_1)).2.1 < (0 : Int)))
 (k_r false)
 (cond (decide ((rdd zArmS x2_2.2.2.2.2.2.2.2.1 (Int.toNat x2_1)).2.1 > (65535 : Int)))
 (k_r false)
 (rec (IntKind.wrap .i64 (x2_1 + (1 : Int)))))))
 (none))
 (cond (decide ((rdd zArmS x2_2.2.2.2.2.2.2.2.1 (Int.toNat x2_1)).2.1 < (0 : Int)))
 (k_r false)
 (cond (decide ((rdd zArmS x2_2.2.2.2.2.2.2.2.1 (Int.toNat x2_1)).2.1 > (65535 : Int)))
 (k_r false)
 (rec (IntKind.wrap .i64 (x2_1 + (1 : Int))))))))
 (none))
 (k_t2 ())
noncomputable def L_turnoutref15_Form_2 (n : Nat) (k_r : Bool → Option Res) (k_t2 : Unit → Option Res) (x2_0 : Int) (x2_2 : NodeS) : Nat → Int → Option Res
  | 0, _ => none
  | m + 1, x2_1 => F_turnoutref15_Form_2 n k_r k_t2 x2_0 x2_2 (L_turnoutref15_Form_2 n k_r k_t2 x2_0 x2_2 m) x2_1
noncomputable def M_turnoutref15_Form (n : Nat) (a0 : NodeS) : Option Res :=
 cond (decide (a0.1 < (1 : Int)))
 (some (encRes ro_turnoutref15_Form rh_turnoutref15_Form ((false, ()), ())))
 (cond (decide (a0.1 > (65534 : Int)))
 (some (encRes ro_turnoutref15_Form rh_turnoutref15_Form ((false, ()), ())))
 (cond (decide (a0.2.1 < (0 : Int)))
 (some (encRes ro_turnoutref15_Form rh_turnoutref15_Form ((false, ()), ())))
 (cond (decide (a0.2.1 > (256 : Int)))
 (some (encRes ro_turnoutref15_Form rh_turnoutref15_Form ((false, ()), ())))
 (cond (decide (a0.2.2.2.2.2.2.2.2.1 < (0 : Int)))
 (some (encRes ro_turnoutref15_Form rh_turnoutref15_Form ((false, ()), ())))
 (cond (decide (a0.2.2.2.2.2.2.2.2.1 > (65535 : Int)))
 (some (encRes ro_turnoutref15_Form rh_turnoutref15_Form ((false, ()), ())))
 (cond (a0.2.2.2.1 == (0 : Int))
 (cond (a0.2.2.1 != (0 : Int))
 (some (encRes ro_turnoutref15_Form rh_turnoutref15_Form ((false, ()), ())))
 (cond (a0.2.2.2.2.1 != (0 : Int))
 (some (encRes ro_turnoutref15_Form rh_turnoutref15_Form ((false, ()), ())))
 (cond (a0.2.2.2.1 != (0 : Int))
 (cond (decide (a0.2.2.2.1 < (1 : Int)))
 (some (encRes ro_turnoutref15_Form rh_turnoutref15_Form ((false, ()), ())))
 (cond (decide (a0.2.2.2.1 > (16 : Int)))
 (some (encRes ro_turnoutref15_Form rh_turnoutref15_Form ((false, ()), ())))
 (cond (decide (a0.2.2.2.2.1 < (1 : Int)))
 (some (encRes ro_turnoutref15_Form rh_turnoutref15_Form ((false, ()), ())))
 (cond (decide (a0.2.2.2.2.1 > (256 : Int)))
 (some (encRes ro_turnoutref15_Form rh_turnoutref15_Form ((false, ()), ())))
 (cond (decide (a0.2.2.1 < (0 : Int)))
 (some (encRes ro_turnoutref15_Form rh_turnoutref15_Form ((false, ()), ())))
 (cond (decide (a0.2.2.1 > (2048 : Int)))
 (some (encRes ro_turnoutref15_Form rh_turnoutref15_Form ((false, ()), ())))
 (cond (a0.2.2.2.2.2.2.1 == (0 : Int))
 (cond (a0.2.2.2.2.2.1 != (0 : Int))
 (some (encRes ro_turnoutref15_Form rh_turnoutref15_Form ((false, ()), ())))
 (cond (decide ((((List.length a0.2.2.2.2.2.2.2.1) : Nat) : Int) > (0 : Int)))
 (some (encRes ro_turnoutref15_Form rh_turnoutref15_Form ((false, ()), ())))
 (cond (a0.2.2.2.2.2.2.1 != (0 : Int))
 (cond (decide (a0.2.2.2.2.2.2.1 < (1 : Int)))
 (some (encRes ro_turnoutref15_Form rh_turnoutref15_Form ((false, ()), ())))
 (cond (decide (a0.2.2.2.2.2.2.1 > (32 : Int)))
 (some (encRes ro_turnoutref15_Form rh_turnoutref15_Form ((false, ()), ())))
 (cond (decide (a0.2.2.2.2.2.1 < (0 : Int)))
 (some (encRes ro_turnoutref15_Form rh_turnoutref15_Form ((false, ()), ())))
 (cond (decide (a0.2.2.2.2.2.1 > (2048 : Int)))
 (some (encRes ro_turnoutref15_Form rh_turnoutref15_Form ((false, ()), ())))
 (cond (decide ((((List.length a0.2.2.2.2.2.2.2.1) : Nat) : Int) > (32 : Int)))
 (some (encRes ro_turnoutref15_Form rh_turnoutref15_Form ((false, ()), ())))
 (L_turnoutref15_Form_0 n
  (fun y1 => L_turnoutref15_Form_2 n
  (fun y2 => some (encRes ro_turnoutref15_Form rh_turnoutref15_Form ((y2, ()), ())))
  (fun _ => some (encRes ro_turnoutref15_Form rh_turnoutref15_Form ((true, ()), ())))
  y1
  a0
  n
  (0 : Int))
  a0
  n
  (1 : Int)
  (0 : Int)))))))
 (cond (decide ((((List.length a0.2.2.2.2.2.2.2.1) : Nat) : Int) > (32 : Int)))
 (some (encRes ro_turnoutref15_Form rh_turnoutref15_Form ((false, ()), ())))
 (L_turnoutref15_Form_0 n
  (fun y3 => L_turnoutref15_Form_2 n
  (fun y4 => some (encRes ro_turnoutref15_Form rh_turnoutref15_Form ((y4, ()), ())))
  (fun _ => some (encRes ro_turnoutref15_Form rh_turnoutref15_Form ((true, ()), ())))
  y3
  a0
  n
  (0 : Int))
  a0
  n
  (1 : Int)
  (0 : Int))))))
 (cond (a0.2.2.2.2.2.2.1 != (0 : Int))
 (cond (decide (a0.2.2.2.2.2.2.1 < (1 : Int)))
 (some (encRes ro_turnoutref15_Form rh_turnoutref15_Form ((false, ()), ())))
 (cond (decide (a0.2.2.2.2.2.2.1 > (32 : Int)))
 (some (encRes ro_turnoutref15_Form rh_turnoutref15_Form ((false, ()), ())))
 (cond (decide (a0.2.2.2.2.2.1 < (0 : Int)))
 (some (encRes ro_turnoutref15_Form rh_turnoutref15_Form ((false, ()), ())))
 (cond (decide (a0.2.2.2.2.2.1 > (2048 : Int)))
 (some (encRes ro_turnoutref15_Form rh_turnoutref15_Form ((false, ()), ())))
 (cond (decide ((((List.length a0.2.2.2.2.2.2.2.1) : Nat) : Int) > (32 : Int)))
 (some (encRes ro_turnoutref15_Form rh_turnoutref15_Form ((false, ()), ())))
 (L_turnoutref15_Form_0 n
  (fun y5 => L_turnoutref15_Form_2 n
  (fun y6 => some (encRes ro_turnoutref15_Form rh_turnoutref15_Form ((y6, ()), ())))
  (fun _ => some (encRes ro_turnoutref15_Form rh_turnoutref15_Form ((true, ()), ())))
  y5
  a0
  n
  (0 : Int))
  a0
  n
  (1 : Int)
  (0 : Int)))))))
 (cond (decide ((((List.length a0.2.2.2.2.2.2.2.1) : Nat) : Int) > (32 : Int)))
 (some (encRes ro_turnoutref15_Form rh_turnoutref15_Form ((false, ()), ())))
 (L_turnoutref15_Form_0 n
  (fun y7 => L_turnoutref15_Form_2 n
  (fun y8 => some (encRes ro_turnoutref15_Form rh_turnoutref15_Form ((y8, ()), ())))
  (fun _ => some (encRes ro_turnoutref15_Form rh_turnoutref15_Form ((true, ()), ())))
  y7
  a0
  n
  (0 : Int))
  a0
  n
  (1 : Int)
  (0 : Int)))))))))))
 (cond (a0.2.2.2.2.2.2.1 == (0 : Int))
 (cond (a0.2.2.2.2.2.1 != (0 : Int))
 (some (encRes ro_turnoutref15_Form rh_turnoutref15_Form ((false, ()), ())))
 (cond (decide ((((List.length a0.2.2.2.2.2.2.2.1) : Nat) : Int) > (0 : Int)))
 (some (encRes ro_turnoutref15_Form rh_turnoutref15_Form ((false, ()), ())))
 (cond (a0.2.2.2.2.2.2.1 != (0 : Int))
 (cond (decide (a0.2.2.2.2.2.2.1 < (1 : Int)))
 (some (encRes ro_turnoutref15_Form rh_turnoutref15_Form ((false, ()), ())))
 (cond (decide (a0.2.2.2.2.2.2.1 > (32 : Int)))
 (some (encRes ro_turnoutref15_Form rh_turnoutref15_Form ((false, ()), ())))
 (cond (decide (a0.2.2.2.2.2.1 < (0 : Int)))
 (some (encRes ro_turnoutref15_Form rh_turnoutref15_Form ((false, ()), ())))
 (cond (decide (a0.2.2.2.2.2.1 > (2048 : Int)))
 (some (encRes ro_turnoutref15_Form rh_turnoutref15_Form ((false, ()), ())))
 (cond (decide ((((List.length a0.2.2.2.2.2.2.2.1) : Nat) : Int) > (32 : Int)))
 (some (encRes ro_turnoutref15_Form rh_turnoutref15_Form ((false, ()), ())))
 (L_turnoutref15_Form_0 n
  (fun y9 => L_turnoutref15_Form_2 n
  (fun y10 => some (encRes ro_turnoutref15_Form rh_turnoutref15_Form ((y10, ()), ())))
  (fun _ => some (encRes ro_turnoutref15_Form rh_turnoutref15_Form ((true, ()), ())))
  y9
  a0
  n
  (0 : Int))
  a0
  n
  (1 : Int)
  (0 : Int)))))))
 (cond (decide ((((List.length a0.2.2.2.2.2.2.2.1) : Nat) : Int) > (32 : Int)))
 (some (encRes ro_turnoutref15_Form rh_turnoutref15_Form ((false, ()), ())))
 (L_turnoutref15_Form_0 n
  (fun y11 => L_turnoutref15_Form_2 n
  (fun y12 => some (encRes ro_turnoutref15_Form rh_turnoutref15_Form ((y12, ()), ())))
  (fun _ => some (encRes ro_turnoutref15_Form rh_turnoutref15_Form ((true, ()), ())))
  y11
  a0
  n
  (0 : Int))
  a0
  n
  (1 : Int)
  (0 : Int))))))
 (cond (a0.2.2.2.2.2.2.1 != (0 : Int))
 (cond (decide (a0.2.2.2.2.2.2.1 < (1 : Int)))
 (some (encRes ro_turnoutref15_Form rh_turnoutref15_Form ((false, ()), ())))
 (cond (decide (a0.2.2.2.2.2.2.1 > (32 : Int)))
 (some (encRes ro_turnoutref15_Form rh_turnoutref15_Form ((false, ()), ())))
 (cond (decide (a0.2.2.2.2.2.1 < (0 : Int)))
 (some (encRes ro_turnoutref15_Form rh_turnoutref15_Form ((false, ()), ())))
 (cond (decide (a0.2.2.2.2.2.1 > (2048 : Int)))
 (some (encRes ro_turnoutref15_Form rh_turnoutref15_Form ((false, ()), ())))
 (cond (decide ((((List.length a0.2.2.2.2.2.2.2.1) : Nat) : Int) > (32 : Int)))
 (some (encRes ro_turnoutref15_Form rh_turnoutref15_Form ((false, ()), ())))
 (L_turnoutref15_Form_0 n
  (fun y13 => L_turnoutref15_Form_2 n
  (fun y14 => some (encRes ro_turnoutref15_Form rh_turnoutref15_Form ((y14, ()), ())))
  (fun _ => some (encRes ro_turnoutref15_Form rh_turnoutref15_Form ((true, ()), ())))
  y13
  a0
  n
  (0 : Int))
  a0
  n
  (1 : Int)
  (0 : Int)))))))
 (cond (decide ((((List.length a0.2.2.2.2.2.2.2.1) : Nat) : Int) > (32 : Int)))
 (some (encRes ro_turnoutref15_Form rh_turnoutref15_Form ((false, ()), ())))
 (L_turnoutref15_Form_0 n
  (fun y15 => L_turnoutref15_Form_2 n
  (fun y16 => some (encRes ro_turnoutref15_Form rh_turnoutref15_Form ((y16, ()), ())))
  (fun _ => some (encRes ro_turnoutref15_Form rh_turnoutref15_Form ((true, ()), ())))
  y15
  a0
  n
  (0 : Int))
  a0
  n
  (1 : Int)
  (0 : Int))))))))
 (cond (a0.2.2.2.1 != (0 : Int))
 (cond (decide (a0.2.2.2.1 < (1 : Int)))
 (some (encRes ro_turnoutref15_Form rh_turnoutref15_Form ((false, ()), ())))
 (cond (decide (a0.2.2.2.1 > (16 : Int)))
 (some (encRes ro_turnoutref15_Form rh_turnoutref15_Form ((false, ()), ())))
 (cond (decide (a0.2.2.2.2.1 < (1 : Int)))
 (some (encRes ro_turnoutref15_Form rh_turnoutref15_Form ((false, ()), ())))
 (cond (decide (a0.2.2.2.2.1 > (256 : Int)))
 (some (encRes ro_turnoutref15_Form rh_turnoutref15_Form ((false, ()), ())))
 (cond (decide (a0.2.2.1 < (0 : Int)))
 (some (encRes ro_turnoutref15_Form rh_turnoutref15_Form ((false, ()), ())))
 (cond (decide (a0.2.2.1 > (2048 : Int)))
 (some (encRes ro_turnoutref15_Form rh_turnoutref15_Form ((false, ()), ())))
 (cond (a0.2.2.2.2.2.2.1 == (0 : Int))
 (cond (a0.2.2.2.2.2.1 != (0 : Int))
 (some (encRes ro_turnoutref15_Form rh_turnoutref15_Form ((false, ()), ())))
 (cond (decide ((((List.length a0.2.2.2.2.2.2.2.1) : Nat) : Int) > (0 : Int)))
 (some (encRes ro_turnoutref15_Form rh_turnoutref15_Form ((false, ()), ())))
 (cond (a0.2.2.2.2.2.2.1 != (0 : Int))
 (cond (decide (a0.2.2.2.2.2.2.1 < (1 : Int)))
 (some (encRes ro_turnoutref15_Form rh_turnoutref15_Form ((false, ()), ())))
 (cond (decide (a0.2.2.2.2.2.2.1 > (32 : Int)))
 (some (encRes ro_turnoutref15_Form rh_turnoutref15_Form ((false, ()), ())))
 (cond (decide (a0.2.2.2.2.2.1 < (0 : Int)))
 (some (encRes ro_turnoutref15_Form rh_turnoutref15_Form ((false, ()), ())))
 (cond (decide (a0.2.2.2.2.2.1 > (2048 : Int)))
 (some (encRes ro_turnoutref15_Form rh_turnoutref15_Form ((false, ()), ())))
 (cond (decide ((((List.length a0.2.2.2.2.2.2.2.1) : Nat) : Int) > (32 : Int)))
 (some (encRes ro_turnoutref15_Form rh_turnoutref15_Form ((false, ()), ())))
 (L_turnoutref15_Form_0 n
  (fun y17 => L_turnoutref15_Form_2 n
  (fun y18 => some (encRes ro_turnoutref15_Form rh_turnoutref15_Form ((y18, ()), ())))
  (fun _ => some (encRes ro_turnoutref15_Form rh_turnoutref15_Form ((true, ()), ())))
  y17
  a0
  n
  (0 : Int))
  a0
  n
  (1 : Int)
  (0 : Int)))))))
 (cond (decide ((((List.length a0.2.2.2.2.2.2.2.1) : Nat) : Int) > (32 : Int)))
 (some (encRes ro_turnoutref15_Form rh_turnoutref15_Form ((false, ()), ())))
 (L_turnoutref15_Form_0 n
  (fun y19 => L_turnoutref15_Form_2 n
  (fun y20 => some (encRes ro_turnoutref15_Form rh_turnoutref15_Form ((y20, ()), ())))
  (fun _ => some (encRes ro_turnoutref15_Form rh_turnoutref15_Form ((true, ()), ())))
  y19
  a0
  n
  (0 : Int))
  a0
  n
  (1 : Int)
  (0 : Int))))))
 (cond (a0.2.2.2.2.2.2.1 != (0 : Int))
 (cond (decide (a0.2.2.2.2.2.2.1 < (1 : Int)))
 (some (encRes ro_turnoutref15_Form rh_turnoutref15_Form ((false, ()), ())))
 (cond (decide (a0.2.2.2.2.2.2.1 > (32 : Int)))
 (some (encRes ro_turnoutref15_Form rh_turnoutref15_Form ((false, ()), ())))
 (cond (decide (a0.2.2.2.2.2.1 < (0 : Int)))
 (some (encRes ro_turnoutref15_Form rh_turnoutref15_Form ((false, ()), ())))
 (cond (decide (a0.2.2.2.2.2.1 > (2048 : Int)))
 (some (encRes ro_turnoutref15_Form rh_turnoutref15_Form ((false, ()), ())))
 (cond (decide ((((List.length a0.2.2.2.2.2.2.2.1) : Nat) : Int) > (32 : Int)))
 (some (encRes ro_turnoutref15_Form rh_turnoutref15_Form ((false, ()), ())))
 (L_turnoutref15_Form_0 n
  (fun y21 => L_turnoutref15_Form_2 n
  (fun y22 => some (encRes ro_turnoutref15_Form rh_turnoutref15_Form ((y22, ()), ())))
  (fun _ => some (encRes ro_turnoutref15_Form rh_turnoutref15_Form ((true, ()), ())))
  y21
  a0
  n
  (0 : Int))
  a0
  n
  (1 : Int)
  (0 : Int)))))))
 (cond (decide ((((List.length a0.2.2.2.2.2.2.2.1) : Nat) : Int) > (32 : Int)))
 (some (encRes ro_turnoutref15_Form rh_turnoutref15_Form ((false, ()), ())))
 (L_turnoutref15_Form_0 n
  (fun y23 => L_turnoutref15_Form_2 n
  (fun y24 => some (encRes ro_turnoutref15_Form rh_turnoutref15_Form ((y24, ()), ())))
  (fun _ => some (encRes ro_turnoutref15_Form rh_turnoutref15_Form ((true, ()), ())))
  y23
  a0
  n
  (0 : Int))
  a0
  n
  (1 : Int)
  (0 : Int)))))))))))
 (cond (a0.2.2.2.2.2.2.1 == (0 : Int))
 (cond (a0.2.2.2.2.2.1 != (0 : Int))
 (some (encRes ro_turnoutref15_Form rh_turnoutref15_Form ((false, ()), ())))
 (cond (decide ((((List.length a0.2.2.2.2.2.2.2.1) : Nat) : Int) > (0 : Int)))
 (some (encRes ro_turnoutref15_Form rh_turnoutref15_Form ((false, ()), ())))
 (cond (a0.2.2.2.2.2.2.1 != (0 : Int))
 (cond (decide (a0.2.2.2.2.2.2.1 < (1 : Int)))
 (some (encRes ro_turnoutref15_Form rh_turnoutref15_Form ((false, ()), ())))
 (cond (decide (a0.2.2.2.2.2.2.1 > (32 : Int)))
 (some (encRes ro_turnoutref15_Form rh_turnoutref15_Form ((false, ()), ())))
 (cond (decide (a0.2.2.2.2.2.1 < (0 : Int)))
 (some (encRes ro_turnoutref15_Form rh_turnoutref15_Form ((false, ()), ())))
 (cond (decide (a0.2.2.2.2.2.1 > (2048 : Int)))
 (some (encRes ro_turnoutref15_Form rh_turnoutref15_Form ((false, ()), ())))
 (cond (decide ((((List.length a0.2.2.2.2.2.2.2.1) : Nat) : Int) > (32 : Int)))
 (some (encRes ro_turnoutref15_Form rh_turnoutref15_Form ((false, ()), ())))
 (L_turnoutref15_Form_0 n
  (fun y25 => L_turnoutref15_Form_2 n
  (fun y26 => some (encRes ro_turnoutref15_Form rh_turnoutref15_Form ((y26, ()), ())))
  (fun _ => some (encRes ro_turnoutref15_Form rh_turnoutref15_Form ((true, ()), ())))
  y25
  a0
  n
  (0 : Int))
  a0
  n
  (1 : Int)
  (0 : Int)))))))
 (cond (decide ((((List.length a0.2.2.2.2.2.2.2.1) : Nat) : Int) > (32 : Int)))
 (some (encRes ro_turnoutref15_Form rh_turnoutref15_Form ((false, ()), ())))
 (L_turnoutref15_Form_0 n
  (fun y27 => L_turnoutref15_Form_2 n
  (fun y28 => some (encRes ro_turnoutref15_Form rh_turnoutref15_Form ((y28, ()), ())))
  (fun _ => some (encRes ro_turnoutref15_Form rh_turnoutref15_Form ((true, ()), ())))
  y27
  a0
  n
  (0 : Int))
  a0
  n
  (1 : Int)
  (0 : Int))))))
 (cond (a0.2.2.2.2.2.2.1 != (0 : Int))
 (cond (decide (a0.2.2.2.2.2.2.1 < (1 : Int)))
 (some (encRes ro_turnoutref15_Form rh_turnoutref15_Form ((false, ()), ())))
 (cond (decide (a0.2.2.2.2.2.2.1 > (32 : Int)))
 (some (encRes ro_turnoutref15_Form rh_turnoutref15_Form ((false, ()), ())))
 (cond (decide (a0.2.2.2.2.2.1 < (0 : Int)))
 (some (encRes ro_turnoutref15_Form rh_turnoutref15_Form ((false, ()), ())))
 (cond (decide (a0.2.2.2.2.2.1 > (2048 : Int)))
 (some (encRes ro_turnoutref15_Form rh_turnoutref15_Form ((false, ()), ())))
 (cond (decide ((((List.length a0.2.2.2.2.2.2.2.1) : Nat) : Int) > (32 : Int)))
 (some (encRes ro_turnoutref15_Form rh_turnoutref15_Form ((false, ()), ())))
 (L_turnoutref15_Form_0 n
  (fun y29 => L_turnoutref15_Form_2 n
  (fun y30 => some (encRes ro_turnoutref15_Form rh_turnoutref15_Form ((y30, ()), ())))
  (fun _ => some (encRes ro_turnoutref15_Form rh_turnoutref15_Form ((true, ()), ())))
  y29
  a0
  n
  (0 : Int))
  a0
  n
  (1 : Int)
  (0 : Int)))))))
 (cond (decide ((((List.length a0.2.2.2.2.2.2.2.1) : Nat) : Int) > (32 : Int)))
 (some (encRes ro_turnoutref15_Form rh_turnoutref15_Form ((false, ()), ())))
 (L_turnoutref15_Form_0 n
  (fun y31 => L_turnoutref15_Form_2 n
  (fun y32 => some (encRes ro_turnoutref15_Form rh_turnoutref15_Form ((y32, ()), ())))
  (fun _ => some (encRes ro_turnoutref15_Form rh_turnoutref15_Form ((true, ()), ())))
  y31
  a0
  n
  (0 : Int))
  a0
  n
  (1 : Int)
  (0 : Int))))))))))))
noncomputable def Q_turnoutref15_Form (a0 : NodeS) : Option (RS ro_turnoutref15_Form rh_turnoutref15_Form) := decRes ro_turnoutref15_Form rh_turnoutref15_Form (M_turnoutref15_Form FUEL a0)
noncomputable def ok_turnoutref15_Form (a0 : NodeS) : Bool := (Q_turnoutref15_Form a0).isSome
noncomputable def q_turnoutref15_Form (a0 : NodeS) : RS ro_turnoutref15_Form rh_turnoutref15_Form := RS.get (Q_turnoutref15_Form a0)
/-! ### turnoutref15_Goes -/
abbrev ro_turnoutref15_Goes : List EK := [.hs 0 0]
abbrev rh_turnoutref15_Goes : List HK := [.row (.int .i64)]
noncomputable def F_turnoutref15_Goes_0 (n : Nat) (k_t0 : Nat → (List Int) → Option Res) (x0_2 : NodeS) (rec : Nat → Int → (List Int) → Option Res) (x0_0 : Nat) (x0_1 : Int) (x0_3 : (List Int)) : Option Res :=
 cond (decide (x0_1 < (((List.length x0_2.2.2.2.2.2.2.2.1) : Nat) : Int)))
 (cond (decide ((0 : Int) ≤ x0_1 ∧ x0_1 < (((List.length x0_2.2.2.2.2.2.2.2.1) : Nat) : Int)))
 (cond (decide (((List.length (cutL (0 : Int) x0_3 0 x0_0)) + 1) * 8 ≤ 2 ^ 46 ∧ ((List.length (cutL (0 : Int) x0_3 0 x0_0)) + 1) ≤ 2 ^ 46))
 (rec ((List.length (cutL (0 : Int) x0_3 0 x0_0)) + 1) (IntKind.wrap .i64 (x0_1 + (1 : Int))) ((cutL (0 : Int) x0_3 0 x0_0) ++ [(rdd zArmS x0_2.2.2.2.2.2.2.2.1 (Int.toNat x0_1)).2.1]))
 (none))
 (none))
 (k_t0 x0_0 x0_3)
noncomputable def L_turnoutref15_Goes_0 (n : Nat) (k_t0 : Nat → (List Int) → Option Res) (x0_2 : NodeS) : Nat → Nat → Int → (List Int) → Option Res
  | 0, _, _, _ => none
  | m + 1, x0_0, x0_1, x0_3 => F_turnoutref15_Goes_0 n k_t0 x0_2 (L_turnoutref15_Goes_0 n k_t0 x0_2 m) x0_0 x0_1 x0_3
noncomputable def M_turnoutref15_Goes (n : Nat) (a0 : NodeS) : Option Res :=
 L_turnoutref15_Goes_0 n
  (fun y1 y2 => cond (decide (((List.length (cutL (0 : Int) y2 0 y1)) + 1) * 8 ≤ 2 ^ 46 ∧ ((List.length (cutL (0 : Int) y2 0 y1)) + 1) ≤ 2 ^ 46))
 (some (encRes ro_turnoutref15_Goes rh_turnoutref15_Goes ((((List.length (cutL (0 : Int) y2 0 y1)) + 1), ()), (((cutL (0 : Int) y2 0 y1) ++ [a0.2.2.2.2.2.2.2.2.1]), ()))))
 (none))
  a0
  n
  0
  (0 : Int)
  ([])
noncomputable def Q_turnoutref15_Goes (a0 : NodeS) : Option (RS ro_turnoutref15_Goes rh_turnoutref15_Goes) := decRes ro_turnoutref15_Goes rh_turnoutref15_Goes (M_turnoutref15_Goes FUEL a0)
noncomputable def ok_turnoutref15_Goes (a0 : NodeS) : Bool := (Q_turnoutref15_Goes a0).isSome
noncomputable def q_turnoutref15_Goes (a0 : NodeS) : RS ro_turnoutref15_Goes rh_turnoutref15_Goes := RS.get (Q_turnoutref15_Goes a0)
/-! ### pack_Packet_placexc4b -/
abbrev ro_pack_Packet_placexc4b : List EK := [.ptr 1 0 0, .ty (.int .i64), .ty (.int .i64)]
abbrev rh_pack_Packet_placexc4b : List HK := [.one false [.ptr 1 0 0, .hs 3 0, .ptr 4 0 0, .ty (.int .i64)], .one false [.hs 2 0], .row (.int .u8), .row HeadT, .one false [.hs 5 0], .row (.int .u8)]
abbrev ro_pack_Packet_placexc4b_1 : List EK := [.ptr 4 0 0, .ty (.int .i64), .ty (.int .i64)]
abbrev rh_pack_Packet_placexc4b_1 : List HK := [.one false [.ptr 1 0 0, .hs 3 0, .ptr 4 0 0, .ty (.int .i64)], .one false [.hs 2 0], .row (.int .u8), .row HeadT, .one false [.hs 5 0], .row (.int .u8)]
abbrev ro_pack_Packet_placexc4b_2 : List EK := [.nul 0, .ty (.int .i64), .ty (.int .i64)]
abbrev rh_pack_Packet_placexc4b_2 : List HK := [.one false [.ptr 1 0 0, .hs 3 0, .ptr 4 0 0, .ty (.int .i64)], .one false [.hs 2 0], .row (.int .u8), .row HeadT, .one false [.hs 5 0], .row (.int .u8)]
noncomputable def F_pack_Packet_placexc4b_1 (n : Nat) (k_r : Int → Int → Option Res) (k_t1 : Unit → Option Res) (x1_0 : Nat) (x1_1 : Int) (x1_7 : (List HeadS)) (x1_10 : FieldS) (rec : Int → Option Res) (x1_2 : Int) : Option Res :=
 cond (decide (x1_2 < x1_1))
 (cond (decide ((0 : Int) ≤ x1_2 ∧ x1_2 < ((x1_0 : Nat) : Int)))
 (cond ((rdd zHeadS x1_7 (Int.toNat x1_2)).1 == x1_10.2.2.1)
 (k_r ((rdd zHeadS x1_7 (Int.toNat x1_2)).2.1) (0 : Int))
 (rec (IntKind.wrap .i64 (x1_2 + (1 : Int)))))
 (none))
 (k_t1 ())
noncomputable def L_pack_Packet_placexc4b_1 (n : Nat) (k_r : Int → Int → Option Res) (k_t1 : Unit → Option Res) (x1_0 : Nat) (x1_1 : Int) (x1_7 : (List HeadS)) (x1_10 : FieldS) : Nat → Int → Option Res
  | 0, _ => none
  | m + 1, x1_2 => F_pack_Packet_placexc4b_1 n k_r k_t1 x1_0 x1_1 x1_7 x1_10 (L_pack_Packet_placexc4b_1 n k_r k_t1 x1_0 x1_1 x1_7 x1_10 m) x1_2
noncomputable def M_pack_Packet_placexc4b (n : Nat) (a0 : FieldS) (a1 : Nat) (a2 : Int) (a3 : Nat) (a4 : (List Int)) (a5 : (List HeadS)) (a6 : Nat) (a7 : (List Int)) : Option Res :=
 cond (a0.2.1 == (1 : Int))
 (some (encRes ro_pack_Packet_placexc4b rh_pack_Packet_placexc4b (((), ((0 : Int), ((0 : Int), ()))), (((), (a1, ((), (a2, ())))), ((a3, ()), (a4, (a5, ((a6, ()), (a7, ())))))))))
 (cond (a0.2.1 == (3 : Int))
 (some (encRes ro_pack_Packet_placexc4b_1 rh_pack_Packet_placexc4b_1 (((), ((0 : Int), ((0 : Int), ()))), (((), (a1, ((), (a2, ())))), ((a3, ()), (a4, (a5, ((a6, ()), (a7, ())))))))))
 (cond (a0.2.1 == (2 : Int))
 (L_pack_Packet_placexc4b_1 n
  (fun y1 y2 => some (encRes ro_pack_Packet_placexc4b rh_pack_Packet_placexc4b (((), (y1, (y2, ()))), (((), (a1, ((), (a2, ())))), ((a3, ()), (a4, (a5, ((a6, ()), (a7, ())))))))))
  (fun _ => some (encRes ro_pack_Packet_placexc4b_2 rh_pack_Packet_placexc4b_2 (((), ((0 : Int), ((3 : Int), ()))), (((), (a1, ((), (a2, ())))), ((a3, ()), (a4, (a5, ((a6, ()), (a7, ())))))))))
  a1
  ((a1 : Nat) : Int)
  a5
  a0
  n
  (0 : Int))
 (some (encRes ro_pack_Packet_placexc4b_2 rh_pack_Packet_placexc4b_2 (((), ((0 : Int), ((3 : Int), ()))), (((), (a1, ((), (a2, ())))), ((a3, ()), (a4, (a5, ((a6, ()), (a7, ())))))))))))
noncomputable def Q_pack_Packet_placexc4b (a0 : FieldS) (a1 : Nat) (a2 : Int) (a3 : Nat) (a4 : (List Int)) (a5 : (List HeadS)) (a6 : Nat) (a7 : (List Int)) : Option (RS ro_pack_Packet_placexc4b rh_pack_Packet_placexc4b) := decRes ro_pack_Packet_placexc4b rh_pack_Packet_placexc4b (M_pack_Packet_placexc4b FUEL a0 a1 a2 a3 a4 a5 a6 a7)
noncomputable def Q_pack_Packet_placexc4b_1 (a0 : FieldS) (a1 : Nat) (a2 : Int) (a3 : Nat) (a4 : (List Int)) (a5 : (List HeadS)) (a6 : Nat) (a7 : (List Int)) : Option (RS ro_pack_Packet_placexc4b_1 rh_pack_Packet_placexc4b_1) := decRes ro_pack_Packet_placexc4b_1 rh_pack_Packet_placexc4b_1 (M_pack_Packet_placexc4b FUEL a0 a1 a2 a3 a4 a5 a6 a7)
noncomputable def ok_pack_Packet_placexc4b_1 (a0 : FieldS) (a1 : Nat) (a2 : Int) (a3 : Nat) (a4 : (List Int)) (a5 : (List HeadS)) (a6 : Nat) (a7 : (List Int)) : Bool := (Q_pack_Packet_placexc4b_1 a0 a1 a2 a3 a4 a5 a6 a7).isSome
noncomputable def q_pack_Packet_placexc4b_1 (a0 : FieldS) (a1 : Nat) (a2 : Int) (a3 : Nat) (a4 : (List Int)) (a5 : (List HeadS)) (a6 : Nat) (a7 : (List Int)) : RS ro_pack_Packet_placexc4b_1 rh_pack_Packet_placexc4b_1 := RS.get (Q_pack_Packet_placexc4b_1 a0 a1 a2 a3 a4 a5 a6 a7)
noncomputable def Q_pack_Packet_placexc4b_2 (a0 : FieldS) (a1 : Nat) (a2 : Int) (a3 : Nat) (a4 : (List Int)) (a5 : (List HeadS)) (a6 : Nat) (a7 : (List Int)) : Option (RS ro_pack_Packet_placexc4b_2 rh_pack_Packet_placexc4b_2) := decRes ro_pack_Packet_placexc4b_2 rh_pack_Packet_placexc4b_2 (M_pack_Packet_placexc4b FUEL a0 a1 a2 a3 a4 a5 a6 a7)
noncomputable def ok_pack_Packet_placexc4b_2 (a0 : FieldS) (a1 : Nat) (a2 : Int) (a3 : Nat) (a4 : (List Int)) (a5 : (List HeadS)) (a6 : Nat) (a7 : (List Int)) : Bool := (Q_pack_Packet_placexc4b_2 a0 a1 a2 a3 a4 a5 a6 a7).isSome
noncomputable def q_pack_Packet_placexc4b_2 (a0 : FieldS) (a1 : Nat) (a2 : Int) (a3 : Nat) (a4 : (List Int)) (a5 : (List HeadS)) (a6 : Nat) (a7 : (List Int)) : RS ro_pack_Packet_placexc4b_2 rh_pack_Packet_placexc4b_2 := RS.get (Q_pack_Packet_placexc4b_2 a0 a1 a2 a3 a4 a5 a6 a7)
noncomputable def ok_pack_Packet_placexc4b (a0 : FieldS) (a1 : Nat) (a2 : Int) (a3 : Nat) (a4 : (List Int)) (a5 : (List HeadS)) (a6 : Nat) (a7 : (List Int)) : Bool := (Q_pack_Packet_placexc4b a0 a1 a2 a3 a4 a5 a6 a7).isSome
noncomputable def q_pack_Packet_placexc4b (a0 : FieldS) (a1 : Nat) (a2 : Int) (a3 : Nat) (a4 : (List Int)) (a5 : (List HeadS)) (a6 : Nat) (a7 : (List Int)) : RS ro_pack_Packet_placexc4b rh_pack_Packet_placexc4b := RS.get (Q_pack_Packet_placexc4b a0 a1 a2 a3 a4 a5 a6 a7)
/-! ### pack_Packet_Getxc4b -/
abbrev ro_pack_Packet_Getxc4b : List EK := [.agg WordT, .ty (.int .i64)]
abbrev rh_pack_Packet_Getxc4b : List HK := [.one false [.ptr 1 0 0, .hs 3 0, .ptr 4 0 0, .ty (.int .i64)], .one false [.hs 2 0], .row (.int .u8), .row HeadT, .one false [.hs 5 0], .row (.int .u8)]
noncomputable def M_pack_Packet_Getxc4b (n : Nat) (a0 : FieldS) (a1 : Nat) (a2 : Int) (a3 : Nat) (a4 : (List Int)) (a5 : (List HeadS)) (a6 : Nat) (a7 : (List Int)) : Option Res :=
 let y7 : ((Unit × (Int × (Int × Unit))) × ((Unit × (Nat × (Unit × (Int × Unit)))) × ((Nat × Unit) × ((List Int) × ((List HeadS) × ((Nat × Unit) × ((List Int) × Unit))))))) := (q_pack_Packet_placexc4b a0 a1 a2 a3 a4 a5 a6 a7)
 cond (ok_pack_Packet_placexc4b a0 a1 a2 a3 a4 a5 a6 a7)
 (cond (y7.1.2.2.1 != (0 : Int))
 (some (encRes ro_pack_Packet_Getxc4b rh_pack_Packet_Getxc4b ((((0 : Int), ((0 : Int), ())), (y7.1.2.2.1, ())), (((), (y7.2.1.2.1, ((), (y7.2.1.2.2.2.1, ())))), ((y7.2.2.1.1, ()), (y7.2.2.2.1, (y7.2.2.2.2.1, ((y7.2.2.2.2.2.1.1, ()), (y7.2.2.2.2.2.2.1, ())))))))))
 (let y8 : ((Int × Unit) × Unit) := (q_pack_bit y7.1.2.1 a0.2.2.2.1)
 cond (ok_pack_bit y7.1.2.1 a0.2.2.2.1)
 (let y9 : ((WordS × (Int × Unit)) × ((Nat × Unit) × ((List Int) × Unit))) := (q_buf_Buf_Getx37e y8.1.1 a0.2.2.2.2.1 y7.2.2.1.1 y7.2.2.2.1)
 cond (ok_buf_Buf_Getx37e y8.1.1 a0.2.2.2.2.1 y7.2.2.1.1 y7.2.2.2.1)
 (cond (y9.1.2.1 != (0 : Int))
 (some (encRes ro_pack_Packet_Getxc4b rh_pack_Packet_Getxc4b ((((0 : Int), ((0 : Int), ())), ((1 : Int), ())), (((), (y7.2.1.2.1, ((), (y7.2.1.2.2.2.1, ())))), ((y9.2.1.1, ()), (y9.2.2.1, (y7.2.2.2.2.1, ((y7.2.2.2.2.2.1.1, ()), (y7.2.2.2.2.2.2.1, ())))))))))
 (some (encRes ro_pack_Packet_Getxc4b rh_pack_Packet_Getxc4b ((y9.1.1, ((0 : Int), ())), (((), (y7.2.1.2.1, ((), (y7.2.1.2.2.2.1, ())))), ((y9.2.1.1, ()), (y9.2.2.1, (y7.2.2.2.2.1, ((y7.2.2.2.2.2.1.1, ()), (y7.2.2.2.2.2.2.1, ()))))))))))
 (none))
 (none)))
 (let y4 : ((Unit × (Int × (Int × Unit))) × ((Unit × (Nat × (Unit × (Int × Unit)))) × ((Nat × Unit) × ((List Int) × ((List HeadS) × ((Nat × Unit) × ((List Int) × Unit))))))) := (q_pack_Packet_placexc4b_1 a0 a1 a2 a3 a4 a5 a6 a7)
 cond (ok_pack_Packet_placexc4b_1 a0 a1 a2 a3 a4 a5 a6 a7)
 (cond (y4.1.2.2.1 != (0 : Int))
 (some (encRes ro_pack_Packet_Getxc4b rh_pack_Packet_Getxc4b ((((0 : Int), ((0 : Int), ())), (y4.1.2.2.1, ())), (((), (y4.2.1.2.1, ((), (y4.2.1.2.2.2.1, ())))), ((y4.2.2.1.1, ()), (y4.2.2.2.1, (y4.2.2.2.2.1, ((y4.2.2.2.2.2.1.1, ()), (y4.2.2.2.2.2.2.1, ())))))))))
 (let y5 : ((Int × Unit) × Unit) := (q_pack_bit y4.1.2.1 a0.2.2.2.1)
 cond (ok_pack_bit y4.1.2.1 a0.2.2.2.1)
 (let y6 : ((WordS × (Int × Unit)) × ((Nat × Unit) × ((List Int) × Unit))) := (q_buf_Buf_Getx37e y5.1.1 a0.2.2.2.2.1 y4.2.2.2.2.2.1.1 y4.2.2.2.2.2.2.1)
 cond (ok_buf_Buf_Getx37e y5.1.1 a0.2.2.2.2.1 y4.2.2.2.2.2.1.1 y4.2.2.2.2.2.2.1)
 (cond (y6.1.2.1 != (0 : Int))
 (some (encRes ro_pack_Packet_Getxc4b rh_pack_Packet_Getxc4b ((((0 : Int), ((0 : Int), ())), ((1 : Int), ())), (((), (y4.2.1.2.1, ((), (y4.2.1.2.2.2.1, ())))), ((y4.2.2.1.1, ()), (y4.2.2.2.1, (y4.2.2.2.2.1, ((y6.2.1.1, ()), (y6.2.2.1, ())))))))))
 (some (encRes ro_pack_Packet_Getxc4b rh_pack_Packet_Getxc4b ((y6.1.1, ((0 : Int), ())), (((), (y4.2.1.2.1, ((), (y4.2.1.2.2.2.1, ())))), ((y4.2.2.1.1, ()), (y4.2.2.2.1, (y4.2.2.2.2.1, ((y6.2.1.1, ()), (y6.2.2.1, ()))))))))))
 (none))
 (none)))
 (let y1 : ((Unit × (Int × (Int × Unit))) × ((Unit × (Nat × (Unit × (Int × Unit)))) × ((Nat × Unit) × ((List Int) × ((List HeadS) × ((Nat × Unit) × ((List Int) × Unit))))))) := (q_pack_Packet_placexc4b_2 a0 a1 a2 a3 a4 a5 a6 a7)
 cond (ok_pack_Packet_placexc4b_2 a0 a1 a2 a3 a4 a5 a6 a7)
 (cond (y1.1.2.2.1 != (0 : Int))
 (some (encRes ro_pack_Packet_Getxc4b rh_pack_Packet_Getxc4b ((((0 : Int), ((0 : Int), ())), (y1.1.2.2.1, ())), (((), (y1.2.1.2.1, ((), (y1.2.1.2.2.2.1, ())))), ((y1.2.2.1.1, ()), (y1.2.2.2.1, (y1.2.2.2.2.1, ((y1.2.2.2.2.2.1.1, ()), (y1.2.2.2.2.2.2.1, ())))))))))
 (let y2 : ((Int × Unit) × Unit) := (q_pack_bit y1.1.2.1 a0.2.2.2.1)
 cond (ok_pack_bit y1.1.2.1 a0.2.2.2.1)
 (let y3 : ((WordS × (Int × Unit)) × Unit) := (q_buf_Buf_Getx845 y2.1.1 a0.2.2.2.2.1)
 cond (ok_buf_Buf_Getx845 y2.1.1 a0.2.2.2.2.1)
 (cond (y3.1.2.1 != (0 : Int))
 (some (encRes ro_pack_Packet_Getxc4b rh_pack_Packet_Getxc4b ((((0 : Int), ((0 : Int), ())), ((1 : Int), ())), (((), (y1.2.1.2.1, ((), (y1.2.1.2.2.2.1, ())))), ((y1.2.2.1.1, ()), (y1.2.2.2.1, (y1.2.2.2.2.1, ((y1.2.2.2.2.2.1.1, ()), (y1.2.2.2.2.2.2.1, ())))))))))
 (some (encRes ro_pack_Packet_Getxc4b rh_pack_Packet_Getxc4b ((y3.1.1, ((0 : Int), ())), (((), (y1.2.1.2.1, ((), (y1.2.1.2.2.2.1, ())))), ((y1.2.2.1.1, ()), (y1.2.2.2.1, (y1.2.2.2.2.1, ((y1.2.2.2.2.2.1.1, ()), (y1.2.2.2.2.2.2.1, ()))))))))))
 (none))
 (none)))
 (none)))
noncomputable def Q_pack_Packet_Getxc4b (a0 : FieldS) (a1 : Nat) (a2 : Int) (a3 : Nat) (a4 : (List Int)) (a5 : (List HeadS)) (a6 : Nat) (a7 : (List Int)) : Option (RS ro_pack_Packet_Getxc4b rh_pack_Packet_Getxc4b) := decRes ro_pack_Packet_Getxc4b rh_pack_Packet_Getxc4b (M_pack_Packet_Getxc4b FUEL a0 a1 a2 a3 a4 a5 a6 a7)
noncomputable def ok_pack_Packet_Getxc4b (a0 : FieldS) (a1 : Nat) (a2 : Int) (a3 : Nat) (a4 : (List Int)) (a5 : (List HeadS)) (a6 : Nat) (a7 : (List Int)) : Bool := (Q_pack_Packet_Getxc4b a0 a1 a2 a3 a4 a5 a6 a7).isSome
noncomputable def q_pack_Packet_Getxc4b (a0 : FieldS) (a1 : Nat) (a2 : Int) (a3 : Nat) (a4 : (List Int)) (a5 : (List HeadS)) (a6 : Nat) (a7 : (List Int)) : RS ro_pack_Packet_Getxc4b rh_pack_Packet_Getxc4b := RS.get (Q_pack_Packet_Getxc4b a0 a1 a2 a3 a4 a5 a6 a7)
/-! ### key_textxb09 -/
abbrev ro_key_textxb09 : List EK := [.ty .str, .ty (.int .i64)]
abbrev rh_key_textxb09 : List HK := [.one false [.ptr 1 0 0, .hs 3 0, .ptr 4 0 0, .ty (.int .i64)], .one false [.hs 2 0], .row (.int .u8), .row HeadT, .one false [.hs 5 0], .row (.int .u8)]
noncomputable def M_key_textxb09 (n : Nat) (a0 : FieldS) (a1 : Nat) (a2 : Int) (a3 : Nat) (a4 : (List Int)) (a5 : (List HeadS)) (a6 : Nat) (a7 : (List Int)) : Option Res :=
 let y1 : ((WordS × (Int × Unit)) × ((Unit × (Nat × (Unit × (Int × Unit)))) × ((Nat × Unit) × ((List Int) × ((List HeadS) × ((Nat × Unit) × ((List Int) × Unit))))))) := (q_pack_Packet_Getxc4b a0 a1 a2 a3 a4 a5 a6 a7)
 cond (ok_pack_Packet_Getxc4b a0 a1 a2 a3 a4 a5 a6 a7)
 (cond (y1.1.2.1 != (0 : Int))
 (some (encRes ro_key_textxb09 rh_key_textxb09 (((ByteArray.mk #[]), (y1.1.2.1, ())), (((), (y1.2.1.2.1, ((), (y1.2.1.2.2.2.1, ())))), ((y1.2.2.1.1, ()), (y1.2.2.2.1, (y1.2.2.2.2.1, ((y1.2.2.2.2.2.1.1, ()), (y1.2.2.2.2.2.2.1, ())))))))))
 (let y2 : ((ByteArray × (Int × Unit)) × Unit) := (q_field_Text y1.1.1 a0.2.2.2.2.1)
 cond (ok_field_Text y1.1.1 a0.2.2.2.2.1)
 (some (encRes ro_key_textxb09 rh_key_textxb09 ((y2.1.1, ((0 : Int), ())), (((), (y1.2.1.2.1, ((), (y1.2.1.2.2.2.1, ())))), ((y1.2.2.1.1, ()), (y1.2.2.2.1, (y1.2.2.2.2.1, ((y1.2.2.2.2.2.1.1, ()), (y1.2.2.2.2.2.2.1, ())))))))))
 (none)))
 (none)
noncomputable def Q_key_textxb09 (a0 : FieldS) (a1 : Nat) (a2 : Int) (a3 : Nat) (a4 : (List Int)) (a5 : (List HeadS)) (a6 : Nat) (a7 : (List Int)) : Option (RS ro_key_textxb09 rh_key_textxb09) := decRes ro_key_textxb09 rh_key_textxb09 (M_key_textxb09 FUEL a0 a1 a2 a3 a4 a5 a6 a7)
noncomputable def ok_key_textxb09 (a0 : FieldS) (a1 : Nat) (a2 : Int) (a3 : Nat) (a4 : (List Int)) (a5 : (List HeadS)) (a6 : Nat) (a7 : (List Int)) : Bool := (Q_key_textxb09 a0 a1 a2 a3 a4 a5 a6 a7).isSome
noncomputable def q_key_textxb09 (a0 : FieldS) (a1 : Nat) (a2 : Int) (a3 : Nat) (a4 : (List Int)) (a5 : (List HeadS)) (a6 : Nat) (a7 : (List Int)) : RS ro_key_textxb09 rh_key_textxb09 := RS.get (Q_key_textxb09 a0 a1 a2 a3 a4 a5 a6 a7)
/-! ### key_Ofxcab -/
abbrev ro_key_Ofxcab : List EK := [.ty .str, .ty (.int .i64)]
abbrev rh_key_Ofxcab : List HK := [.one false [.ptr 1 0 0, .hs 3 0, .ptr 4 0 0, .ty (.int .i64)], .one false [.hs 2 0], .row (.int .u8), .row HeadT, .one false [.hs 5 0], .row (.int .u8)]
noncomputable def Q_key_Ofxcab (a0 : (List FieldS)) (a1 : Nat) (a2 : Int) (a3 : Nat) (a4 : (List Int)) (a5 : (List HeadS)) (a6 : Nat) (a7 : (List Int)) : Option (RS ro_key_Ofxcab rh_key_Ofxcab) := ofQ (fun f b => Q_key_textxb09 f b.1.2.1 b.1.2.2.2.1 b.2.1.1 b.2.2.1 b.2.2.2.1 b.2.2.2.2.1.1 b.2.2.2.2.2.1) a0 (((), (a1, ((), (a2, ())))), ((a3, ()), (a4, (a5, ((a6, ()), (a7, ()))))))
noncomputable def ok_key_Ofxcab (a0 : (List FieldS)) (a1 : Nat) (a2 : Int) (a3 : Nat) (a4 : (List Int)) (a5 : (List HeadS)) (a6 : Nat) (a7 : (List Int)) : Bool := (Q_key_Ofxcab a0 a1 a2 a3 a4 a5 a6 a7).isSome
noncomputable def q_key_Ofxcab (a0 : (List FieldS)) (a1 : Nat) (a2 : Int) (a3 : Nat) (a4 : (List Int)) (a5 : (List HeadS)) (a6 : Nat) (a7 : (List Int)) : RS ro_key_Ofxcab rh_key_Ofxcab := RS.get (Q_key_Ofxcab a0 a1 a2 a3 a4 a5 a6 a7)
/-! ### key_Numberxc4b -/
abbrev ro_key_Numberxc4b : List EK := [.ty (.int .u32), .ty (.int .i64)]
abbrev rh_key_Numberxc4b : List HK := [.one false [.ptr 1 0 0, .hs 3 0, .ptr 4 0 0, .ty (.int .i64)], .one false [.hs 2 0], .row (.int .u8), .row HeadT, .one false [.hs 5 0], .row (.int .u8)]
noncomputable def M_key_Numberxc4b (n : Nat) (a0 : FieldS) (a1 : Nat) (a2 : Int) (a3 : Nat) (a4 : (List Int)) (a5 : (List HeadS)) (a6 : Nat) (a7 : (List Int)) : Option Res :=
 let y1 : ((ByteArray × (Int × Unit)) × ((Unit × (Nat × (Unit × (Int × Unit)))) × ((Nat × Unit) × ((List Int) × ((List HeadS) × ((Nat × Unit) × ((List Int) × Unit))))))) := (q_key_textxb09 a0 a1 a2 a3 a4 a5 a6 a7)
 cond (ok_key_textxb09 a0 a1 a2 a3 a4 a5 a6 a7)
 (cond (y1.1.2.1 != (0 : Int))
 (some (encRes ro_key_Numberxc4b rh_key_Numberxc4b (((0 : Int), (y1.1.2.1, ())), (((), (y1.2.1.2.1, ((), (y1.2.1.2.2.2.1, ())))), ((y1.2.2.1.1, ()), (y1.2.2.2.1, (y1.2.2.2.2.1, ((y1.2.2.2.2.2.1.1, ()), (y1.2.2.2.2.2.2.1, ())))))))))
 (let y2 : ((Int × Unit) × Unit) := (q_hash_Of ([y1.1.1]))
 cond (ok_hash_Of ([y1.1.1]))
 (let y3 : ((Int × Unit) × Unit) := (q_hash_Mix y2.1.1)
 cond (ok_hash_Mix y2.1.1)
 (some (encRes ro_key_Numberxc4b rh_key_Numberxc4b ((y3.1.1, ((0 : Int), ())), (((), (y1.2.1.2.1, ((), (y1.2.1.2.2.2.1, ())))), ((y1.2.2.1.1, ()), (y1.2.2.2.1, (y1.2.2.2.2.1, ((y1.2.2.2.2.2.1.1, ()), (y1.2.2.2.2.2.2.1, ())))))))))
 (none))
 (none)))
 (none)
noncomputable def Q_key_Numberxc4b (a0 : FieldS) (a1 : Nat) (a2 : Int) (a3 : Nat) (a4 : (List Int)) (a5 : (List HeadS)) (a6 : Nat) (a7 : (List Int)) : Option (RS ro_key_Numberxc4b rh_key_Numberxc4b) := decRes ro_key_Numberxc4b rh_key_Numberxc4b (M_key_Numberxc4b FUEL a0 a1 a2 a3 a4 a5 a6 a7)
noncomputable def ok_key_Numberxc4b (a0 : FieldS) (a1 : Nat) (a2 : Int) (a3 : Nat) (a4 : (List Int)) (a5 : (List HeadS)) (a6 : Nat) (a7 : (List Int)) : Bool := (Q_key_Numberxc4b a0 a1 a2 a3 a4 a5 a6 a7).isSome
noncomputable def q_key_Numberxc4b (a0 : FieldS) (a1 : Nat) (a2 : Int) (a3 : Nat) (a4 : (List Int)) (a5 : (List HeadS)) (a6 : Nat) (a7 : (List Int)) : RS ro_key_Numberxc4b rh_key_Numberxc4b := RS.get (Q_key_Numberxc4b a0 a1 a2 a3 a4 a5 a6 a7)
/-! ### turnoutlaw18_found -/
abbrev ro_turnoutlaw18_found : List EK := [.nul 0]
abbrev rh_turnoutlaw18_found : List HK := []
abbrev ro_turnoutlaw18_found_1 : List EK := [.ptr 0 0 0]
abbrev rh_turnoutlaw18_found_1 : List HK := [.one false [.ptr 1 0 0, .hs 3 0, .ptr 4 0 0, .ty (.int .i64)], .one false [.hs 2 0], .row (.int .u8), .row HeadT, .one false [.hs 5 0], .row (.int .u8)]
noncomputable def M_turnoutlaw18_found (n : Nat) (a0 : ByteArray) (a1 : (List NodeS)) : Option Res :=
 let y2 : ((Unit × (Unit × Unit)) × ((Unit × (Unit × (Unit × (Int × Unit)))) × ((Nat × Unit) × ((List Int) × ((Nat × Unit) × ((List Int) × Unit)))))) := (q_pack_New (1 : Int) a0)
 cond (ok_pack_New (1 : Int) a0)
 (let y3 : ((Int × (Int × Unit)) × ((Unit × (Nat × (Unit × (Int × Unit)))) × ((Nat × Unit) × ((List Int) × ((Nat × Unit) × ((List Int) × ((List HeadS) × Unit))))))) := (q_pack_Packet_Walkx81b a1 y2.2.1.2.2.2.1 y2.2.2.1.1 y2.2.2.2.1 y2.2.2.2.2.1.1 y2.2.2.2.2.2.1)
 cond (ok_pack_Packet_Walkx81b a1 y2.2.1.2.2.2.1 y2.2.2.1.1 y2.2.2.2.1 y2.2.2.2.2.1.1 y2.2.2.2.2.2.1)
 (some (encRes ro_turnoutlaw18_found_1 rh_turnoutlaw18_found_1 (((), ()), (((), (y3.2.1.2.1, ((), (y3.2.1.2.2.2.1, ())))), ((y3.2.2.1.1, ()), (y3.2.2.2.1, (y3.2.2.2.2.2.2.1, ((y3.2.2.2.2.1.1, ()), (y3.2.2.2.2.2.1, ())))))))))
 (none))
 (let y1 : ((Unit × (Unit × Unit)) × Unit) := (q_pack_New_2 (1 : Int) a0)
 cond (ok_pack_New_2 (1 : Int) a0)
 (some (encRes ro_turnoutlaw18_found rh_turnoutlaw18_found (((), ()), ())))
 (none))
noncomputable def Q_turnoutlaw18_found (a0 : ByteArray) (a1 : (List NodeS)) : Option (RS ro_turnoutlaw18_found rh_turnoutlaw18_found) := decRes ro_turnoutlaw18_found rh_turnoutlaw18_found (M_turnoutlaw18_found FUEL a0 a1)
noncomputable def Q_turnoutlaw18_found_1 (a0 : ByteArray) (a1 : (List NodeS)) : Option (RS ro_turnoutlaw18_found_1 rh_turnoutlaw18_found_1) := decRes ro_turnoutlaw18_found_1 rh_turnoutlaw18_found_1 (M_turnoutlaw18_found FUEL a0 a1)
noncomputable def ok_turnoutlaw18_found_1 (a0 : ByteArray) (a1 : (List NodeS)) : Bool := (Q_turnoutlaw18_found_1 a0 a1).isSome
noncomputable def q_turnoutlaw18_found_1 (a0 : ByteArray) (a1 : (List NodeS)) : RS ro_turnoutlaw18_found_1 rh_turnoutlaw18_found_1 := RS.get (Q_turnoutlaw18_found_1 a0 a1)
noncomputable def ok_turnoutlaw18_found (a0 : ByteArray) (a1 : (List NodeS)) : Bool := (Q_turnoutlaw18_found a0 a1).isSome
noncomputable def q_turnoutlaw18_found (a0 : ByteArray) (a1 : (List NodeS)) : RS ro_turnoutlaw18_found rh_turnoutlaw18_found := RS.get (Q_turnoutlaw18_found a0 a1)
/-! ### turnoutlaw18_KeyWhole -/
abbrev ro_turnoutlaw18_KeyWhole : List EK := [.ty .bool]
abbrev rh_turnoutlaw18_KeyWhole : List HK := []
noncomputable def F_turnoutlaw18_KeyWhole_0 (n : Nat) (k_r : Bool → Option Res) (k_t0 : Unit → Option Res) (x0_0 : (List FieldS)) (x0_1 : Nat) (x0_10 : (List ByteArray)) (rec : Int → Nat → Int → Nat → (List Int) → (List HeadS) → Nat → (List Int) → Option Res) (x0_2 : Int) (x0_3 : Nat) (x0_4 : Int) (x0_5 : Nat) (x0_6 : (List Int)) (x0_7 : (List HeadS)) (x0_8 : Nat) (x0_9 : (List Int)) : Option Res :=
 cond (decide (x0_2 < (((List.length x0_0) : Nat) : Int)))
 (cond (decide ((0 : Int) ≤ x0_2 ∧ x0_2 < (((List.length x0_0) : Nat) : Int)))
 (let y14 : ((ByteArray × (Int × Unit)) × ((Unit × (Nat × (Unit × (Int × Unit)))) × ((Nat × Unit) × ((List Int) × ((List HeadS) × ((Nat × Unit) × ((List Int) × Unit))))))) := (q_key_Ofxcab ([(rdd zFieldS x0_0 (Int.toNat x0_2))]) x0_3 x0_4 x0_5 x0_6 x0_7 x0_8 x0_9)
 cond (ok_key_Ofxcab ([(rdd zFieldS x0_0 (Int.toNat x0_2))]) x0_3 x0_4 x0_5 x0_6 x0_7 x0_8 x0_9)
 (cond (decide ((0 : Int) ≤ x0_2 ∧ x0_2 < (((List.length x0_0) : Nat) : Int)))
 (let y15 : ((WordS × (Int × Unit)) × ((Unit × (Nat × (Unit × (Int × Unit)))) × ((Nat × Unit) × ((List Int) × ((List HeadS) × ((Nat × Unit) × ((List Int) × Unit))))))) := (q_pack_Packet_Getxc4b (rdd zFieldS x0_0 (Int.toNat x0_2)) y14.2.1.2.1 y14.2.1.2.2.2.1 y14.2.2.1.1 y14.2.2.2.1 y14.2.2.2.2.1 y14.2.2.2.2.2.1.1 y14.2.2.2.2.2.2.1)
 cond (ok_pack_Packet_Getxc4b (rdd zFieldS x0_0 (Int.toNat x0_2)) y14.2.1.2.1 y14.2.1.2.2.2.1 y14.2.2.1.1 y14.2.2.2.1 y14.2.2.2.2.1 y14.2.2.2.2.2.1.1 y14.2.2.2.2.2.2.1)
 (cond (decide ((0 : Int) ≤ x0_2 ∧ x0_2 < (((List.length x0_0) : Nat) : Int)))
 (let y16 : ((ByteArray × (Int × Unit)) × Unit) := (q_field_Text y15.1.1 ((rdd zFieldS x0_0 (Int.toNat x0_2)).2.2.2.2.1))
 cond (ok_field_Text y15.1.1 ((rdd zFieldS x0_0 (Int.toNat x0_2)).2.2.2.2.1))
 (cond (y14.1.2.1 != (0 : Int))
 (k_r false)
 (cond (decide ((0 : Int) ≤ x0_2 ∧ x0_2 < ((x0_1 : Nat) : Int)))
 (cond (!(ByteArray.toList y14.1.1 == ByteArray.toList (rdd ByteArray.empty x0_10 (Int.toNat x0_2))))
 (k_r false)
 (cond (y15.1.2.1 != (0 : Int))
 (k_r false)
 (cond (y16.1.2.1 != (0 : Int))
 (k_r false)
 (cond (!(ByteArray.toList y14.1.1 == ByteArray.toList y16.1.1))
 (k_r false)
 (rec (IntKind.wrap .i64 (x0_2 + (1 : Int))) y15.2.1.2.1 y15.2.1.2.2.2.1 y15.2.2.1.1 y15.2.2.2.1 y15.2.2.2.2.1 y15.2.2.2.2.2.1.1 y15.2.2.2.2.2.2.1)))))
 (none)))
 (none))
 (none))
 (none))
 (none))
 (none))
 (none))
 (k_t0 ())
noncomputable def L_turnoutlaw18_KeyWhole_0 (n : Nat) (k_r : Bool → Option Res) (k_t0 : Unit → Option Res) (x0_0 : (List FieldS)) (x0_1 : Nat) (x0_10 : (List ByteArray)) : Nat → Int → Nat → Int → Nat → (List Int) → (List HeadS) → Nat → (List Int) → Option Res
  | 0, _, _, _, _, _, _, _, _ => none
  | m + 1, x0_2, x0_3, x0_4, x0_5, x0_6, x0_7, x0_8, x0_9 => F_turnoutlaw18_KeyWhole_0 n k_r k_t0 x0_0 x0_1 x0_10 (L_turnoutlaw18_KeyWhole_0 n k_r k_t0 x0_0 x0_1 x0_10 m) x0_2 x0_3 x0_4 x0_5 x0_6 x0_7 x0_8 x0_9
noncomputable def M_turnoutlaw18_KeyWhole (n : Nat) (a0 : ByteArray) (a1 : (List NodeS)) (a2 : (List FieldS)) (a3 : (List FieldS)) : Option Res :=
 let y1 : ((Bool × Unit) × Unit) := (q_turnoutlaw18_large a1)
 cond (ok_turnoutlaw18_large a1)
 (cond y1.1.1
 (let y2 : ((Bool × Unit) × Unit) := q_turnoutlaw18_awake
 cond ok_turnoutlaw18_awake
 (some (encRes ro_turnoutlaw18_KeyWhole rh_turnoutlaw18_KeyWhole ((y2.1.1, ()), ())))
 (none))
 (cond (decide (((ByteArray.size a0 : Nat) : Int) > (10000 : Int)))
 (let y3 : ((Bool × Unit) × Unit) := q_turnoutlaw18_awake
 cond ok_turnoutlaw18_awake
 (some (encRes ro_turnoutlaw18_KeyWhole rh_turnoutlaw18_KeyWhole ((y3.1.1, ()), ())))
 (none))
 (cond (decide ((((List.length a2) : Nat) : Int) > (100 : Int)))
 (let y4 : ((Bool × Unit) × Unit) := q_turnoutlaw18_awake
 cond ok_turnoutlaw18_awake
 (some (encRes ro_turnoutlaw18_KeyWhole rh_turnoutlaw18_KeyWhole ((y4.1.1, ()), ())))
 (none))
 (cond (decide ((((List.length a3) : Nat) : Int) > (100 : Int)))
 (let y5 : ((Bool × Unit) × Unit) := q_turnoutlaw18_awake
 cond ok_turnoutlaw18_awake
 (some (encRes ro_turnoutlaw18_KeyWhole rh_turnoutlaw18_KeyWhole ((y5.1.1, ()), ())))
 (none))
 (let y6 : ((Bool × Unit) × Unit) := q_turnoutlaw18_awake
 cond ok_turnoutlaw18_awake
 (cond (!y6.1.1)
 (let y7 : ((Bool × Unit) × Unit) := q_turnoutlaw18_awake
 cond ok_turnoutlaw18_awake
 (some (encRes ro_turnoutlaw18_KeyWhole rh_turnoutlaw18_KeyWhole ((y7.1.1, ()), ())))
 (none))
 (let y18 : ((Unit × Unit) × Unit) := (q_turnoutlaw18_found a0 a1)
 cond (ok_turnoutlaw18_found a0 a1)
 (some (encRes ro_turnoutlaw18_KeyWhole rh_turnoutlaw18_KeyWhole ((true, ()), ())))
 (let y8 : ((Unit × Unit) × ((Unit × (Nat × (Unit × (Int × Unit)))) × ((Nat × Unit) × ((List Int) × ((List HeadS) × ((Nat × Unit) × ((List Int) × Unit))))))) := (q_turnoutlaw18_found_1 a0 a1)
 cond (ok_turnoutlaw18_found_1 a0 a1)
 (let y9 : ((ByteArray × (Int × Unit)) × ((Unit × (Nat × (Unit × (Int × Unit)))) × ((Nat × Unit) × ((List Int) × ((List HeadS) × ((Nat × Unit) × ((List Int) × Unit))))))) := (q_key_Ofxcab a2 y8.2.1.2.1 y8.2.1.2.2.2.1 y8.2.2.1.1 y8.2.2.2.1 y8.2.2.2.2.1 y8.2.2.2.2.2.1.1 y8.2.2.2.2.2.2.1)
 cond (ok_key_Ofxcab a2 y8.2.1.2.1 y8.2.1.2.2.2.1 y8.2.2.1.1 y8.2.2.2.1 y8.2.2.2.2.1 y8.2.2.2.2.2.1.1 y8.2.2.2.2.2.2.1)
 (let y10 : ((ByteArray × (Int × Unit)) × ((Unit × (Nat × (Unit × (Int × Unit)))) × ((Nat × Unit) × ((List Int) × ((List HeadS) × ((Nat × Unit) × ((List Int) × Unit))))))) := (q_key_Ofxcab a3 y9.2.1.2.1 y9.2.1.2.2.2.1 y9.2.2.1.1 y9.2.2.2.1 y9.2.2.2.2.1 y9.2.2.2.2.2.1.1 y9.2.2.2.2.2.2.1)
 cond (ok_key_Ofxcab a3 y9.2.1.2.1 y9.2.1.2.2.2.1 y9.2.2.1.1 y9.2.2.2.1 y9.2.2.2.2.1 y9.2.2.2.2.2.1.1 y9.2.2.2.2.2.2.1)
 (cond (decide ((0 + (List.length a2)) * 40 ≤ 2 ^ 46 ∧ (0 + (List.length a2)) ≤ 2 ^ 46))
 (cond (decide (((List.length (cutL zFieldS a2 0 (0 + (List.length a2)))) + (List.length a3)) * 40 ≤ 2 ^ 46 ∧ ((List.length (cutL zFieldS a2 0 (0 + (List.length a2)))) + (List.length a3)) ≤ 2 ^ 46))
 (let y11 : ((ByteArray × (Int × Unit)) × ((Unit × (Nat × (Unit × (Int × Unit)))) × ((Nat × Unit) × ((List Int) × ((List HeadS) × ((Nat × Unit) × ((List Int) × Unit))))))) := (q_key_Ofxcab (cutL zFieldS ((cutL zFieldS a2 0 (0 + (List.length a2))) ++ a3) 0 ((List.length (cutL zFieldS a2 0 (0 + (List.length a2)))) + (List.length a3))) y10.2.1.2.1 y10.2.1.2.2.2.1 y10.2.2.1.1 y10.2.2.2.1 y10.2.2.2.2.1 y10.2.2.2.2.2.1.1 y10.2.2.2.2.2.2.1)
 cond (ok_key_Ofxcab (cutL zFieldS ((cutL zFieldS a2 0 (0 + (List.length a2))) ++ a3) 0 ((List.length (cutL zFieldS a2 0 (0 + (List.length a2)))) + (List.length a3))) y10.2.1.2.1 y10.2.1.2.2.2.1 y10.2.2.1.1 y10.2.2.2.1 y10.2.2.2.2.1 y10.2.2.2.2.2.1.1 y10.2.2.2.2.2.2.1)
 (cond (y9.1.2.1 != (0 : Int))
 (cond (ByteArray.toList y11.1.1 == ByteArray.toList (ByteArray.mk #[]))
 (cond (y11.1.2.1 != (0 : Int))
 (cond (y9.1.2.1 == (0 : Int))
 (some (encRes ro_turnoutlaw18_KeyWhole rh_turnoutlaw18_KeyWhole ((true, ()), ())))
 (cond (ByteArray.toList y9.1.1 == ByteArray.toList (ByteArray.mk #[]))
 (some (encRes ro_turnoutlaw18_KeyWhole rh_turnoutlaw18_KeyWhole (((y11.1.2.1 == y9.1.2.1), ()), ())))
 (some (encRes ro_turnoutlaw18_KeyWhole rh_turnoutlaw18_KeyWhole ((false, ()), ())))))
 (some (encRes ro_turnoutlaw18_KeyWhole rh_turnoutlaw18_KeyWhole ((false, ()), ()))))
 (some (encRes ro_turnoutlaw18_KeyWhole rh_turnoutlaw18_KeyWhole ((false, ()), ()))))
 (cond (y10.1.2.1 != (0 : Int))
 (cond (ByteArray.toList y11.1.1 == ByteArray.toList (ByteArray.mk #[]))
 (cond (y11.1.2.1 != (0 : Int))
 (cond (y9.1.2.1 == (0 : Int))
 (some (encRes ro_turnoutlaw18_KeyWhole rh_turnoutlaw18_KeyWhole ((true, ()), ())))
 (cond (ByteArray.toList y9.1.1 == ByteArray.toList (ByteArray.mk #[]))
 (some (encRes ro_turnoutlaw18_KeyWhole rh_turnoutlaw18_KeyWhole (((y11.1.2.1 == y9.1.2.1), ()), ())))
 (some (encRes ro_turnoutlaw18_KeyWhole rh_turnoutlaw18_KeyWhole ((false, ()), ())))))
 (some (encRes ro_turnoutlaw18_KeyWhole rh_turnoutlaw18_KeyWhole ((false, ()), ()))))
 (some (encRes ro_turnoutlaw18_KeyWhole rh_turnoutlaw18_KeyWhole ((false, ()), ()))))
 (cond (y11.1.2.1 != (0 : Int))
 (some (encRes ro_turnoutlaw18_KeyWhole rh_turnoutlaw18_KeyWhole ((false, ()), ())))
 (cond (decide (ByteArray.size y9.1.1 + ByteArray.size y10.1.1 ≤ 9223372036854775807))
 (cond (!(ByteArray.toList y11.1.1 == ByteArray.toList (y9.1.1 ++ y10.1.1)))
 (some (encRes ro_turnoutlaw18_KeyWhole rh_turnoutlaw18_KeyWhole ((false, ()), ())))
 (let y12 : ((Nat × Unit) × ((List Int) × Unit)) := (q_key_Widths a2)
 cond (ok_key_Widths a2)
 (let y13 : ((Nat × (Int × Unit)) × ((List ByteArray) × Unit)) := (q_key_Segments y9.1.1 (cutL (0 : Int) y12.2.1 0 y12.1.1))
 cond (ok_key_Segments y9.1.1 (cutL (0 : Int) y12.2.1 0 y12.1.1))
 (cond (y13.1.2.1 != (0 : Int))
 (some (encRes ro_turnoutlaw18_KeyWhole rh_turnoutlaw18_KeyWhole ((false, ()), ())))
 (cond (((y13.1.1 : Nat) : Int) != (((List.length a2) : Nat) : Int))
 (some (encRes ro_turnoutlaw18_KeyWhole rh_turnoutlaw18_KeyWhole ((false, ()), ())))
 (L_turnoutlaw18_KeyWhole_0 n
  (fun y17 => some (encRes ro_turnoutlaw18_KeyWhole rh_turnoutlaw18_KeyWhole ((y17, ()), ())))
  (fun _ => some (encRes ro_turnoutlaw18_KeyWhole rh_turnoutlaw18_KeyWhole ((true, ()), ())))
  a2
  y13.1.1
  y13.2.1
  n
  (0 : Int)
  y11.2.1.2.1
  y11.2.1.2.2.2.1
  y11.2.2.1.1
  y11.2.2.2.1
  y11.2.2.2.2.1
  y11.2.2.2.2.2.1.1
  y11.2.2.2.2.2.2.1)))
 (none))
 (none)))
 (none)))))
 (none))
 (none))
 (none))
 (none))
 (none))
 (none))))
 (none))))))
 (none)
noncomputable def Q_turnoutlaw18_KeyWhole (a0 : ByteArray) (a1 : (List NodeS)) (a2 : (List FieldS)) (a3 : (List FieldS)) : Option (RS ro_turnoutlaw18_KeyWhole rh_turnoutlaw18_KeyWhole) := decRes ro_turnoutlaw18_KeyWhole rh_turnoutlaw18_KeyWhole (M_turnoutlaw18_KeyWhole FUEL a0 a1 a2 a3)
noncomputable def ok_turnoutlaw18_KeyWhole (a0 : ByteArray) (a1 : (List NodeS)) (a2 : (List FieldS)) (a3 : (List FieldS)) : Bool := (Q_turnoutlaw18_KeyWhole a0 a1 a2 a3).isSome
noncomputable def q_turnoutlaw18_KeyWhole (a0 : ByteArray) (a1 : (List NodeS)) (a2 : (List FieldS)) (a3 : (List FieldS)) : RS ro_turnoutlaw18_KeyWhole rh_turnoutlaw18_KeyWhole := RS.get (Q_turnoutlaw18_KeyWhole a0 a1 a2 a3)
/-! ### turnoutlaw18_KeyGone -/
abbrev ro_turnoutlaw18_KeyGone : List EK := [.ty .bool]
abbrev rh_turnoutlaw18_KeyGone : List HK := []
noncomputable def F_turnoutlaw18_KeyGone_0 (n : Nat) (k_t0 : Int → Nat → Int → Nat → (List Int) → (List HeadS) → Nat → (List Int) → Option Res) (x0_0 : (List FieldS)) (rec : Int → Int → Nat → Int → Nat → (List Int) → (List HeadS) → Nat → (List Int) → Option Res) (x0_1 : Int) (x0_2 : Int) (x0_3 : Nat) (x0_4 : Int) (x0_5 : Nat) (x0_6 : (List Int)) (x0_7 : (List HeadS)) (x0_8 : Nat) (x0_9 : (List Int)) : Option Res :=
 cond (decide (x0_2 < (((List.length x0_0) : Nat) : Int)))
 (cond (decide ((0 : Int) ≤ x0_2 ∧ x0_2 < (((List.length x0_0) : Nat) : Int)))
 (let y8 : ((WordS × (Int × Unit)) × ((Unit × (Nat × (Unit × (Int × Unit)))) × ((Nat × Unit) × ((List Int) × ((List HeadS) × ((Nat × Unit) × ((List Int) × Unit))))))) := (q_pack_Packet_Getxc4b (rdd zFieldS x0_0 (Int.toNat x0_2)) x0_3 x0_4 x0_5 x0_6 x0_7 x0_8 x0_9)
 cond (ok_pack_Packet_Getxc4b (rdd zFieldS x0_0 (Int.toNat x0_2)) x0_3 x0_4 x0_5 x0_6 x0_7 x0_8 x0_9)
 (cond (x0_1 == (0 : Int))
 (rec y8.1.2.1 (IntKind.wrap .i64 (x0_2 + (1 : Int))) y8.2.1.2.1 y8.2.1.2.2.2.1 y8.2.2.1.1 y8.2.2.2.1 y8.2.2.2.2.1 y8.2.2.2.2.2.1.1 y8.2.2.2.2.2.2.1)
 (rec x0_1 (IntKind.wrap .i64 (x0_2 + (1 : Int))) y8.2.1.2.1 y8.2.1.2.2.2.1 y8.2.2.1.1 y8.2.2.2.1 y8.2.2.2.2.1 y8.2.2.2.2.2.1.1 y8.2.2.2.2.2.2.1))
 (none))
 (none))
 (k_t0 x0_1 x0_3 x0_4 x0_5 x0_6 x0_7 x0_8 x0_9)
noncomputable def L_turnoutlaw18_KeyGone_0 (n : Nat) (k_t0 : Int → Nat → Int → Nat → (List Int) → (List HeadS) → Nat → (List Int) → Option Res) (x0_0 : (List FieldS)) : Nat → Int → Int → Nat → Int → Nat → (List Int) → (List HeadS) → Nat → (List Int) → Option Res
  | 0, _, _, _, _, _, _, _, _, _ => none
  | m + 1, x0_1, x0_2, x0_3, x0_4, x0_5, x0_6, x0_7, x0_8, x0_9 => F_turnoutlaw18_KeyGone_0 n k_t0 x0_0 (L_turnoutlaw18_KeyGone_0 n k_t0 x0_0 m) x0_1 x0_2 x0_3 x0_4 x0_5 x0_6 x0_7 x0_8 x0_9
noncomputable def M_turnoutlaw18_KeyGone (n : Nat) (a0 : ByteArray) (a1 : (List NodeS)) (a2 : (List FieldS)) : Option Res :=
 let y1 : ((Bool × Unit) × Unit) := (q_turnoutlaw18_large a1)
 cond (ok_turnoutlaw18_large a1)
 (cond y1.1.1
 (let y2 : ((Bool × Unit) × Unit) := q_turnoutlaw18_awake
 cond ok_turnoutlaw18_awake
 (some (encRes ro_turnoutlaw18_KeyGone rh_turnoutlaw18_KeyGone ((y2.1.1, ()), ())))
 (none))
 (cond (decide (((ByteArray.size a0 : Nat) : Int) > (10000 : Int)))
 (let y3 : ((Bool × Unit) × Unit) := q_turnoutlaw18_awake
 cond ok_turnoutlaw18_awake
 (some (encRes ro_turnoutlaw18_KeyGone rh_turnoutlaw18_KeyGone ((y3.1.1, ()), ())))
 (none))
 (cond (decide ((((List.length a2) : Nat) : Int) > (100 : Int)))
 (let y4 : ((Bool × Unit) × Unit) := q_turnoutlaw18_awake
 cond ok_turnoutlaw18_awake
 (some (encRes ro_turnoutlaw18_KeyGone rh_turnoutlaw18_KeyGone ((y4.1.1, ()), ())))
 (none))
 (let y5 : ((Bool × Unit) × Unit) := q_turnoutlaw18_awake
 cond ok_turnoutlaw18_awake
 (cond (!y5.1.1)
 (let y6 : ((Bool × Unit) × Unit) := q_turnoutlaw18_awake
 cond ok_turnoutlaw18_awake
 (some (encRes ro_turnoutlaw18_KeyGone rh_turnoutlaw18_KeyGone ((y6.1.1, ()), ())))
 (none))
 (let y18 : ((Unit × Unit) × Unit) := (q_turnoutlaw18_found a0 a1)
 cond (ok_turnoutlaw18_found a0 a1)
 (some (encRes ro_turnoutlaw18_KeyGone rh_turnoutlaw18_KeyGone ((true, ()), ())))
 (let y7 : ((Unit × Unit) × ((Unit × (Nat × (Unit × (Int × Unit)))) × ((Nat × Unit) × ((List Int) × ((List HeadS) × ((Nat × Unit) × ((List Int) × Unit))))))) := (q_turnoutlaw18_found_1 a0 a1)
 cond (ok_turnoutlaw18_found_1 a0 a1)
 (L_turnoutlaw18_KeyGone_0 n
  (fun y9 y10 y11 y12 y13 y14 y15 y16 => let y17 : ((ByteArray × (Int × Unit)) × ((Unit × (Nat × (Unit × (Int × Unit)))) × ((Nat × Unit) × ((List Int) × ((List HeadS) × ((Nat × Unit) × ((List Int) × Unit))))))) := (q_key_Ofxcab a2 y10 y11 y12 y13 y14 y15 y16)
 cond (ok_key_Ofxcab a2 y10 y11 y12 y13 y14 y15 y16)
 (cond (y17.1.2.1 == y9)
 (cond (y17.1.2.1 == (0 : Int))
 (some (encRes ro_turnoutlaw18_KeyGone rh_turnoutlaw18_KeyGone ((true, ()), ())))
 (some (encRes ro_turnoutlaw18_KeyGone rh_turnoutlaw18_KeyGone (((ByteArray.toList y17.1.1 == ByteArray.toList (ByteArray.mk #[])), ()), ()))))
 (some (encRes ro_turnoutlaw18_KeyGone rh_turnoutlaw18_KeyGone ((false, ()), ()))))
 (none))
  a2
  n
  (0 : Int)
  (0 : Int)
  y7.2.1.2.1
  y7.2.1.2.2.2.1
  y7.2.2.1.1
  y7.2.2.2.1
  y7.2.2.2.2.1
  y7.2.2.2.2.2.1.1
  y7.2.2.2.2.2.2.1)
 (none))))
 (none)))))
 (none)
noncomputable def Q_turnoutlaw18_KeyGone (a0 : ByteArray) (a1 : (List NodeS)) (a2 : (List FieldS)) : Option (RS ro_turnoutlaw18_KeyGone rh_turnoutlaw18_KeyGone) := decRes ro_turnoutlaw18_KeyGone rh_turnoutlaw18_KeyGone (M_turnoutlaw18_KeyGone FUEL a0 a1 a2)
noncomputable def ok_turnoutlaw18_KeyGone (a0 : ByteArray) (a1 : (List NodeS)) (a2 : (List FieldS)) : Bool := (Q_turnoutlaw18_KeyGone a0 a1 a2).isSome
noncomputable def q_turnoutlaw18_KeyGone (a0 : ByteArray) (a1 : (List NodeS)) (a2 : (List FieldS)) : RS ro_turnoutlaw18_KeyGone rh_turnoutlaw18_KeyGone := RS.get (Q_turnoutlaw18_KeyGone a0 a1 a2)
end Go.AMach
