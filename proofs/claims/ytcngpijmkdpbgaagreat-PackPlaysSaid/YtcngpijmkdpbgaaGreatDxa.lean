/- A part of the walk. -/
import Derived.Test.YtcngpijmkdpbgaaGreatAm21
import Derived.Test.YtcngpijmkdpbgaaGreatAm24
namespace Go.AMach
set_option linter.unusedVariables false
set_option linter.unusedSimpArgs false
set_option linter.unnecessarySimpa false
noncomputable section
set_option linter.unusedVariables false
abbrev ArmT : Ty := (.pair (.int .u32) (.pair (.int .i64) .unit))
abbrev ArmS : Type := (Int × (Int × Unit))
abbrev jbq : ArmS := ((0 : Int), ((0 : Int), ()))
abbrev jaq : Ty := (.pair (.int .i64) (.pair (.int .i64) .unit))
abbrev jan : Type := (Int × (Int × Unit))
abbrev jak : jan := ((0 : Int), ((0 : Int), ()))
abbrev jaL : Ty := (.pair (.int .u64) (.pair (.int .u64) .unit))
abbrev jaW : Type := (Int × (Int × Unit))
abbrev zWordS : jaW := ((0 : Int), ((0 : Int), ()))
abbrev SpanT : Ty := (.pair (.int .i64) jaq)
abbrev SpanS : Type := (Int × jan)
abbrev zSpanS : SpanS := ((0 : Int), jak)
abbrev ComeT : Ty := (.pair jaq (.pair .bool (.pair (.int .i64) .unit)))
abbrev ComeS : Type := (jan × (Bool × (Int × Unit)))
abbrev zComeS : ComeS := (jak, (false, ((0 : Int), ())))
abbrev jaT : Ty := (.pair (.int .i64) (.pair (.int .u8) SpanT))
abbrev jaB : Type := (Int × (Int × SpanS))
abbrev jCr : jaB := ((0 : Int), ((0 : Int), zSpanS))
abbrev PacketT : Ty := (.pair .str (.pair .str (.pair (.int .i64) (.pair (.slice jaq) .unit))))
abbrev PacketS : Type := (ByteArray × (ByteArray × (Int × ((List jan) × Unit))))
abbrev zPacketS : PacketS := (ByteArray.empty, (ByteArray.empty, ((0 : Int), ([], ()))))
abbrev jay : Ty := (.pair (.int .i64) (.pair (.int .i64) (.pair (.int .i64) (.pair (.int .i64) (.pair (.int .i64) (.pair (.int .i64) (.pair (.int .i64) (.pair (.slice ArmT) (.pair (.int .i64) .unit)))))))))
abbrev jai : Type := (Int × (Int × (Int × (Int × (Int × (Int × (Int × ((List ArmS) × (Int × Unit)))))))))
abbrev jaC : jai := ((0 : Int), ((0 : Int), ((0 : Int), ((0 : Int), ((0 : Int), ((0 : Int), ((0 : Int), ([], ((0 : Int), ())))))))))
abbrev ActT : Ty := (.pair (.int .u8) (.pair jaT (.pair jaT (.pair (.int .i64) (.pair jaL .unit)))))
abbrev ActS : Type := (Int × (jaB × (jaB × (Int × (jaW × Unit)))))
abbrev jkG : ActS := ((0 : Int), (jCr, (jCr, ((0 : Int), (zWordS, ())))))
/-! z00: buf_New -/
abbrev jxJ : List EK := [.nul 0, .ci .i64 (5 : Int)]
abbrev jyn : List HK := []
abbrev jiv : List EK := [.ptr 0 0 0, .ci .i64 (0 : Int)]
abbrev jgo : List HK := [.one false [.hs 1 0], .row (.int .u8)]
def jwR (n : Nat) (a0 : ByteArray) : Option Res :=
 cond (decide (((ByteArray.size a0 : Nat) : Int) > (9216 : Int)))
 (some (jaa jxJ jyn (((), ((), ())), ())))
 (some (jaa jiv jgo (((), ((), ())), (((ByteArray.size a0), ()), ((jax a0), ())))))
def jCj (a0 : _) := jap jxJ jyn (jwR FUEL a0)
def jrl (a0 : _) := jap jiv jgo (jwR FUEL a0)
def jpT (a0 : _) := (jrl a0).isSome
def jvn (a0 : _) := RS.get (jrl a0)
def jyK (a0 : _) := (jCj a0).isSome
def q_z00 (a0 : _) := RS.get (jCj a0)
/-! z01: pack_New -/
abbrev jxI : List EK := [.ptr 0 0 0, .ci .i64 (0 : Int)]
abbrev jym : List HK := [.one false [.ptr 1 0 0, .nul 4, .ptr 3 0 0, .ty (.int .i64)], .one false [.hs 2 0], .row (.int .u8), .one false [.hs 4 0], .row (.int .u8)]
abbrev jxH : List EK := [.ptr 0 0 0, .ci .i64 (0 : Int)]
abbrev jyl : List HK := [.one false [.ptr 1 0 0, .nul 4, .nul 0, .ty (.int .i64)], .one false [.hs 2 0], .row (.int .u8)]
abbrev jiu : List EK := [.nul 0, .ci .i64 (10 : Int)]
abbrev jiA : List HK := []
def juB (n : Nat) (a0 : Int) (a1 : ByteArray) : Option Res :=
 let y4 := (q_z00 a1)
 cond (jyK a1)
 (some (jaa jiu jiA (((), ((), ())), ())))
 (let y1 := (jvn a1)
 cond (jpT a1)
 (cond (decide ((0 : Int) ≤ (32 : Int) ∧ (32 : Int) ≤ (32 : Int) ∧ (1 : Nat) * (32 : Int) ≤ (2 : Int) ^ 46))
 (let y3 := (q_z00 (bytesOf (mkL (Int.toNat (32 : Int)) (fun i => (0 : Int)))))
 cond (jyK (bytesOf (mkL (Int.toNat (32 : Int)) (fun i => (0 : Int)))))
 (some (jaa jxH jyl (((), ((), ())), (((), ((), ((), (a0, ())))), ((y1.2.1.1, ()), (y1.2.2.1, ()))))))
 (let y2 := (jvn (bytesOf (mkL (Int.toNat (32 : Int)) (fun i => (0 : Int)))))
 cond (jpT (bytesOf (mkL (Int.toNat (32 : Int)) (fun i => (0 : Int)))))
 (some (jaa jxI jym (((), ((), ())), (((), ((), ((), (a0, ())))), ((y1.2.1.1, ()), (y1.2.2.1, ((y2.2.1.1, ()), (y2.2.2.1, ()))))))))
 (none)))
 (none))
 (none))
def jCi (a0 a1 : _) := jap jxI jym (juB FUEL a0 a1)
def jJP (a0 a1 : _) := jap jxH jyl (juB FUEL a0 a1)
def ok_z01_1 (a0 a1 : _) := (jJP a0 a1).isSome
def q_z01_1 (a0 a1 : _) := RS.get (jJP a0 a1)
def jrk (a0 a1 : _) := jap jiu jiA (juB FUEL a0 a1)
def jyJ (a0 a1 : _) := (jrk a0 a1).isSome
def jEf (a0 a1 : _) := RS.get (jrk a0 a1)
def jPi (a0 a1 : _) := (jCi a0 a1).isSome
def q_z01 (a0 a1 : _) := RS.get (jCi a0 a1)
/-! z02: turnoutlaw17_nodes -/
abbrev jsK : List EK := [.hs 0 0]
abbrev jta : List HK := [.row jay]
def M_z02 (n : Nat) : Option Res :=
 some (jaa jsK jta ((2, ()), ([((1 : Int), ((2 : Int), ((0 : Int), ((0 : Int), ((0 : Int), ((8 : Int), ((8 : Int), ([((5 : Int), ((2 : Int), ()))], ((65535 : Int), ()))))))))), ((2 : Int), ((1 : Int), ((0 : Int), ((8 : Int), ((1 : Int), ((0 : Int), ((0 : Int), ([], ((0 : Int), ())))))))))], ())))
def Q_z02 : Option (RS jsK jta) := jap jsK jta (M_z02 FUEL)
def ok_z02 : Bool := (Q_z02).isSome
def q_z02 : RS jsK jta := RS.get (Q_z02)
/-! z03: buf_Buf_Textx455 -/
abbrev jDo : List EK := [.ty .str]
abbrev jDU : List HK := [.one false [.hs 1 0], .row (.int .u8)]
def jKx (n : Nat) (a0 : Nat) (a1 : (List Int)) : Option Res :=
 some (jaa jDo jDU (((bytesOf (cutL (0 : Int) a1 0 a0)), ()), ((a0, ()), (a1, ()))))
def jJO (a0 a1 : _) := jap jDo jDU (jKx FUEL a0 a1)
def joy (a0 a1 : _) := (jJO a0 a1).isSome
def jBA (a0 a1 : _) := RS.get (jJO a0 a1)
/-! z04: pack_Packet_Textx626 -/
abbrev jDn : List EK := [.ty .str]
abbrev jDT : List HK := [.one false [.ptr 1 0 0, .nul 4, .ptr 3 0 0, .ty (.int .i64)], .one false [.hs 2 0], .row (.int .u8), .one false [.hs 4 0], .row (.int .u8)]
def jOx (n : Nat) (a0 : Int) (a1 : Nat) (a2 : (List Int)) (a3 : Nat) (a4 : (List Int)) : Option Res :=
 let y1 := (jBA a1 a2)
 cond (joy a1 a2)
 (some (jaa jDn jDT ((y1.1.1, ()), (((), ((), ((), (a0, ())))), ((y1.2.1.1, ()), (y1.2.2.1, ((a3, ()), (a4, ()))))))))
 (none)
def jNo (a0 a1 a2 a3 a4 : _) := jap jDn jDT (jOx FUEL a0 a1 a2 a3 a4)
def jPh (a0 a1 a2 a3 a4 : _) := (jNo a0 a1 a2 a3 a4).isSome
def q_z04 (a0 a1 a2 a3 a4 : _) := RS.get (jNo a0 a1 a2 a3 a4)
/-! z05: graph_to -/
abbrev jxG : List EK := [.ty .bool]
abbrev jyk : List HK := []
def jOw (n : Nat) (a0 : Int) : Option Res :=
 cond (decide (a0 ≥ (0 : Int)))
 (some (jaa jxG jyk (((decide (a0 ≤ (65535 : Int))), ()), ())))
 (some (jaa jxG jyk ((false, ()), ())))
def jNn (a0 : _) := jap jxG jyk (jOw FUEL a0)
def jtq (a0 : _) := (jNn a0).isSome
def jEe (a0 : _) := RS.get (jNn a0)
/-! z06: graph_span_may -/
abbrev jlA : List EK := [.ty .bool]
abbrev jlO : List HK := []
def jOv (n : Nat) (a0 : SpanS) : Option Res :=
 cond (a0.2.1 == (0 : Int))
 (some (jaa jlA jlO (((a0.1 == (0 : Int)), ()), ())))
 (cond (decide (a0.2.1 > (0 : Int)))
 (cond (decide (a0.2.1 ≤ a0.2.2.1))
 (cond (decide (a0.1 ≥ (0 : Int)))
 (some (jaa jlA jlO (((decide (a0.1 ≤ (2048 : Int))), ()), ())))
 (some (jaa jlA jlO ((false, ()), ()))))
 (some (jaa jlA jlO ((false, ()), ()))))
 (some (jaa jlA jlO ((false, ()), ()))))
def jNm (a0 : _) := jap jlA jlO (jOv FUEL a0)
def jEv (a0 : _) := (jNm a0).isSome
def q_z06 (a0 : _) := RS.get (jNm a0)
/-! z07: graph_unit -/
abbrev jsJ : List EK := [.ty .bool]
abbrev jsZ : List HK := []
def jOu (n : Nat) (a0 : jai) : Option Res :=
 cond (a0.2.2.2.1 == (0 : Int))
 (some (jaa jsJ jsZ (((a0.2.2.2.2.1 == (0 : Int)), ()), ())))
 (cond (decide (a0.2.2.2.2.1 ≥ (1 : Int)))
 (some (jaa jsJ jsZ (((decide (a0.2.2.2.2.1 ≤ (256 : Int))), ()), ())))
 (some (jaa jsJ jsZ ((false, ()), ()))))
def jNl (a0 : _) := jap jsJ jsZ (jOu FUEL a0)
def jPg (a0 : _) := (jNl a0).isSome
def q_z07 (a0 : _) := RS.get (jNl a0)
/-! z08: graph_Form -/
abbrev jef : List EK := [.ty .bool]
abbrev jeg : List HK := []
def jsh (n : Nat) (k_r : Bool → Option Res) (k_t0 : Unit → Option Res) (x0_0 : (List ArmS)) (x0_1 : Int) (x0_3 : jai) (rec : Int → Option Res) (x0_2 : Int) : Option Res :=
 cond (decide (x0_2 < x0_1))
 (cond (decide ((0 : Int) ≤ x0_2 ∧ x0_2 < (((List.length x0_0) : Nat) : Int)))
 (cond (decide ((0 : Int) ≤ x0_3.2.2.2.2.2.2.1))
 (let y5 : Int := (Int.fdiv (IntKind.wrap .u64 (rdd jbq x0_0 (Int.toNat x0_2)).1) (2 ^ (min (Int.toNat x0_3.2.2.2.2.2.2.1) (IntKind.bits .u64))))
 cond (decide (y5 > (0 : Int)))
 (k_r false)
 (cond (x0_3.2.2.2.2.2.2.1 == (0 : Int))
 (k_r false)
 (cond (decide (x0_2 > (0 : Int)))
 (cond (decide ((0 : Int) ≤ (IntKind.wrap .i64 (x0_2 - (1 : Int))) ∧ (IntKind.wrap .i64 (x0_2 - (1 : Int))) < (((List.length x0_3.2.2.2.2.2.2.2.1) : Nat) : Int)))
 (cond (decide ((rdd jbq x0_0 (Int.toNat x0_2)).1 ≤ (rdd jbq x0_3.2.2.2.2.2.2.2.1 (Int.toNat (IntKind.wrap .i64 (x0_2 - (1 : Int))))).1))
 (k_r false)
 (let y6 := (jEe ((rdd jbq x0_0 (Int.toNat x0_2)).2.1))
 cond (jtq ((rdd jbq x0_0 (Int.toNat x0_2)).2.1))
 (cond (!y6.1.1)
 (k_r false)
 (rec (IntKind.wrap .i64 (x0_2 + (1 : Int)))))
 (none)))
 (none))
 (let y7 := (jEe ((rdd jbq x0_0 (Int.toNat x0_2)).2.1))
 cond (jtq ((rdd jbq x0_0 (Int.toNat x0_2)).2.1))
 (cond (!y7.1.1)
 (k_r false)
 (rec (IntKind.wrap .i64 (x0_2 + (1 : Int)))))
 (none)))))
 (none))
 (none))
 (k_t0 ())
def jkg (n : Nat) (k_r : Bool → Option Res) (k_t0 : Unit → Option Res) (x0_0 : (List ArmS)) (x0_1 : Int) (x0_3 : jai) : Nat → Int → Option Res
  | 0, _ => none
  | m + 1, x0_2 => jsh n k_r k_t0 x0_0 x0_1 x0_3 (jkg n k_r k_t0 x0_0 x0_1 x0_3 m) x0_2
def jOt (n : Nat) (a0 : jai) : Option Res :=
 cond (decide (a0.1 < (1 : Int)))
 (some (jaa jef jeg ((false, ()), ())))
 (cond (decide (a0.1 > (65534 : Int)))
 (some (jaa jef jeg ((false, ()), ())))
 (cond (decide (a0.2.1 < (0 : Int)))
 (some (jaa jef jeg ((false, ()), ())))
 (cond (decide (a0.2.1 > (256 : Int)))
 (some (jaa jef jeg ((false, ()), ())))
 (let y1 := (jEe a0.2.2.2.2.2.2.2.2.1)
 cond (jtq a0.2.2.2.2.2.2.2.2.1)
 (cond (!y1.1.1)
 (some (jaa jef jeg ((false, ()), ())))
 (cond (decide ((((List.length a0.2.2.2.2.2.2.2.1) : Nat) : Int) > (32 : Int)))
 (some (jaa jef jeg ((false, ()), ())))
 (let y2 := (q_z06 (a0.2.2.1, (a0.2.2.2.1, ((16 : Int), ()))))
 cond (jEv (a0.2.2.1, (a0.2.2.2.1, ((16 : Int), ()))))
 (cond (!y2.1.1)
 (some (jaa jef jeg ((false, ()), ())))
 (let y3 := (q_z07 a0)
 cond (jPg a0)
 (cond (!y3.1.1)
 (some (jaa jef jeg ((false, ()), ())))
 (let y4 := (q_z06 (a0.2.2.2.2.2.1, (a0.2.2.2.2.2.2.1, ((32 : Int), ()))))
 cond (jEv (a0.2.2.2.2.2.1, (a0.2.2.2.2.2.2.1, ((32 : Int), ()))))
 (cond (!y4.1.1)
 (some (jaa jef jeg ((false, ()), ())))
 (jkg n
  (fun y8 => some (jaa jef jeg ((y8, ()), ())))
  (fun _ => some (jaa jef jeg ((true, ()), ())))
  a0.2.2.2.2.2.2.2.1
  (((List.length a0.2.2.2.2.2.2.2.1) : Nat) : Int)
  a0
  n
  (0 : Int)))
 (none)))
 (none)))
 (none))))
 (none)))))
def jNk (a0 : _) := jap jef jeg (jOt FUEL a0)
def jPf (a0 : _) := (jNk a0).isSome
def q_z08 (a0 : _) := RS.get (jNk a0)
/-! z09: graph_form -/
abbrev jxF : List EK := [.ty .bool]
abbrev jyj : List HK := []
def jsg (n : Nat) (k_r : Bool → Option Res) (k_t0 : Unit → Option Res) (x0_0 : (List jai)) (x0_1 : (List jai)) (x0_2 : Int) (rec : Int → Option Res) (x0_3 : Int) : Option Res :=
 cond (decide (x0_3 < x0_2))
 (cond (decide ((0 : Int) ≤ x0_3 ∧ x0_3 < (((List.length x0_1) : Nat) : Int)))
 (let y1 := (q_z08 (rdd jaC x0_1 (Int.toNat x0_3)))
 cond (jPf (rdd jaC x0_1 (Int.toNat x0_3)))
 (cond (!y1.1.1)
 (k_r false)
 (cond (decide (x0_3 > (0 : Int)))
 (cond (decide ((0 : Int) ≤ (IntKind.wrap .i64 (x0_3 - (1 : Int))) ∧ (IntKind.wrap .i64 (x0_3 - (1 : Int))) < (((List.length x0_0) : Nat) : Int)))
 (cond (decide ((rdd jaC x0_1 (Int.toNat x0_3)).1 ≤ (rdd jaC x0_0 (Int.toNat (IntKind.wrap .i64 (x0_3 - (1 : Int))))).1))
 (k_r false)
 (rec (IntKind.wrap .i64 (x0_3 + (1 : Int)))))
 (none))
 (rec (IntKind.wrap .i64 (x0_3 + (1 : Int))))))
 (none))
 (none))
 (k_t0 ())
def jkf (n : Nat) (k_r : Bool → Option Res) (k_t0 : Unit → Option Res) (x0_0 : (List jai)) (x0_1 : (List jai)) (x0_2 : Int) : Nat → Int → Option Res
  | 0, _ => none
  | m + 1, x0_3 => jsg n k_r k_t0 x0_0 x0_1 x0_2 (jkf n k_r k_t0 x0_0 x0_1 x0_2 m) x0_3
def M_z09 (n : Nat) (a0 : (List jai)) : Option Res :=
 jkf n
  (fun y2 => some (jaa jxF jyj ((y2, ()), ())))
  (fun _ => some (jaa jxF jyj ((true, ()), ())))
  a0
  a0
  (((List.length a0) : Nat) : Int)
  n
  (0 : Int)
def jNj (a0 : _) := jap jxF jyj (M_z09 FUEL a0)
def jPe (a0 : _) := (jNj a0).isSome
def q_z09 (a0 : _) := RS.get (jNj a0)
/-! z0a: graph_goes -/
abbrev jDm : List EK := [.hs 0 0]
abbrev jDS : List HK := [.row (.int .i64)]
def jsf (n : Nat) (k_t0 : Nat → (List Int) → Option Res) (x0_1 : (List ArmS)) (x0_2 : Int) (rec : Nat → Int → (List Int) → Option Res) (x0_0 : Nat) (x0_3 : Int) (x0_4 : (List Int)) : Option Res :=
 cond (decide (x0_3 < x0_2))
 (cond (decide ((0 : Int) ≤ x0_3 ∧ x0_3 < (((List.length x0_1) : Nat) : Int)))
 (cond (decide (((List.length (cutL (0 : Int) x0_4 0 x0_0)) + 1) * 8 ≤ 2 ^ 46 ∧ ((List.length (cutL (0 : Int) x0_4 0 x0_0)) + 1) ≤ 2 ^ 46))
 (rec ((List.length (cutL (0 : Int) x0_4 0 x0_0)) + 1) (IntKind.wrap .i64 (x0_3 + (1 : Int))) ((cutL (0 : Int) x0_4 0 x0_0) ++ [(rdd jbq x0_1 (Int.toNat x0_3)).2.1]))
 (none))
 (none))
 (k_t0 x0_0 x0_4)
def jke (n : Nat) (k_t0 : Nat → (List Int) → Option Res) (x0_1 : (List ArmS)) (x0_2 : Int) : Nat → Nat → Int → (List Int) → Option Res
  | 0, _, _, _ => none
  | m + 1, x0_0, x0_3, x0_4 => jsf n k_t0 x0_1 x0_2 (jke n k_t0 x0_1 x0_2 m) x0_0 x0_3 x0_4
def M_z0a (n : Nat) (a0 : jai) : Option Res :=
 jke n
  (fun y1 y2 => some (jaa jDm jDS ((y1, ()), (y2, ()))))
  a0.2.2.2.2.2.2.2.1
  (((List.length a0.2.2.2.2.2.2.2.1) : Nat) : Int)
  n
  1
  (0 : Int)
  ([a0.2.2.2.2.2.2.2.2.1])
def jNi (a0 : _) := jap jDm jDS (M_z0a FUEL a0)
def jyI (a0 : _) := (jNi a0).isSome
def jLg (a0 : _) := RS.get (jNi a0)
/-! z0b: graph_Find -/
abbrev jxE : List EK := [.agg jay, .ty .bool]
abbrev jyi : List HK := []
def jse (n : Nat) (k_r : Bool → jai → Option Res) (k_t0 : Unit → Option Res) (x0_0 : Int) (x0_1 : (List jai)) (x0_2 : Int) (x0_4 : jai) (rec : Int → Option Res) (x0_3 : Int) : Option Res :=
 cond (decide (x0_3 < x0_2))
 (cond (decide ((0 : Int) ≤ x0_3 ∧ x0_3 < (((List.length x0_1) : Nat) : Int)))
 (cond ((rdd jaC x0_1 (Int.toNat x0_3)).1 == x0_0)
 (k_r true (rdd jaC x0_1 (Int.toNat x0_3)))
 (rec (IntKind.wrap .i64 (x0_3 + (1 : Int)))))
 (none))
 (k_t0 ())
def jkd (n : Nat) (k_r : Bool → jai → Option Res) (k_t0 : Unit → Option Res) (x0_0 : Int) (x0_1 : (List jai)) (x0_2 : Int) (x0_4 : jai) : Nat → Int → Option Res
  | 0, _ => none
  | m + 1, x0_3 => jse n k_r k_t0 x0_0 x0_1 x0_2 x0_4 (jkd n k_r k_t0 x0_0 x0_1 x0_2 x0_4 m) x0_3
def M_z0b (n : Nat) (a0 : (List jai)) (a1 : Int) : Option Res :=
 jkd n
  (fun y1 y2 => some (jaa jxE jyi ((y2, (y1, ())), ())))
  (fun _ => some (jaa jxE jyi ((((0 : Int), ((0 : Int), ((0 : Int), ((0 : Int), ((0 : Int), ((0 : Int), ((0 : Int), ([], ((0 : Int), ()))))))))), (false, ())), ())))
  a1
  a0
  (((List.length a0) : Nat) : Int)
  ((0 : Int), ((0 : Int), ((0 : Int), ((0 : Int), ((0 : Int), ((0 : Int), ((0 : Int), ([], ((0 : Int), ())))))))))
  n
  (0 : Int)
def jNh (a0 a1 : _) := jap jxE jyi (M_z0b FUEL a0 a1)
def jfK (a0 a1 : _) := (jNh a0 a1).isSome
def jlT (a0 a1 : _) := RS.get (jNh a0 a1)
/-! z0c: graph_refs -/
abbrev jxD : List EK := [.ty .bool]
abbrev jyh : List HK := []
def jsc (n : Nat) (k_r : Bool → Option Res) (k_t2 : Unit → Option Res) (x2_0 : (List jai)) (x2_1 : (List jai)) (x2_2 : Int) (x2_3 : Int) (x2_4 : Nat) (x2_5 : Int) (x2_7 : (List Int)) (rec : Int → Option Res) (x2_6 : Int) : Option Res :=
 cond (decide (x2_6 < x2_5))
 (cond (decide ((0 : Int) ≤ x2_6 ∧ x2_6 < ((x2_4 : Nat) : Int)))
 (let y2 := (jlT x2_0 (rdd (0 : Int) x2_7 (Int.toNat x2_6)))
 cond (jfK x2_0 (rdd (0 : Int) x2_7 (Int.toNat x2_6)))
 (cond (!y2.1.2.1)
 (cond ((rdd (0 : Int) x2_7 (Int.toNat x2_6)) != (0 : Int))
 (cond ((rdd (0 : Int) x2_7 (Int.toNat x2_6)) != (65535 : Int))
 (k_r false)
 (rec (IntKind.wrap .i64 (x2_6 + (1 : Int)))))
 (rec (IntKind.wrap .i64 (x2_6 + (1 : Int)))))
 (rec (IntKind.wrap .i64 (x2_6 + (1 : Int)))))
 (none))
 (none))
 (k_t2 ())
def jkb (n : Nat) (k_r : Bool → Option Res) (k_t2 : Unit → Option Res) (x2_0 : (List jai)) (x2_1 : (List jai)) (x2_2 : Int) (x2_3 : Int) (x2_4 : Nat) (x2_5 : Int) (x2_7 : (List Int)) : Nat → Int → Option Res
  | 0, _ => none
  | m + 1, x2_6 => jsc n k_r k_t2 x2_0 x2_1 x2_2 x2_3 x2_4 x2_5 x2_7 (jkb n k_r k_t2 x2_0 x2_1 x2_2 x2_3 x2_4 x2_5 x2_7 m) x2_6
def jsd (n : Nat) (k_r : Bool → Option Res) (k_t0 : Unit → Option Res) (x0_0 : (List jai)) (x0_1 : (List jai)) (x0_2 : Int) (rec : Int → Option Res) (x0_3 : Int) : Option Res :=
 cond (decide (x0_3 < x0_2))
 (cond (decide ((0 : Int) ≤ x0_3 ∧ x0_3 < (((List.length x0_1) : Nat) : Int)))
 (let y1 := (jLg (rdd jaC x0_1 (Int.toNat x0_3)))
 cond (jyI (rdd jaC x0_1 (Int.toNat x0_3)))
 (jkb n
  (fun y3 => k_r y3)
  (fun _ => rec (IntKind.wrap .i64 (x0_3 + (1 : Int))))
  x0_0
  x0_1
  x0_2
  x0_3
  y1.1.1
  ((y1.1.1 : Nat) : Int)
  y1.2.1
  n
  (0 : Int))
 (none))
 (none))
 (k_t0 ())
def jkc (n : Nat) (k_r : Bool → Option Res) (k_t0 : Unit → Option Res) (x0_0 : (List jai)) (x0_1 : (List jai)) (x0_2 : Int) : Nat → Int → Option Res
  | 0, _ => none
  | m + 1, x0_3 => jsd n k_r k_t0 x0_0 x0_1 x0_2 (jkc n k_r k_t0 x0_0 x0_1 x0_2 m) x0_3
def M_z0c (n : Nat) (a0 : (List jai)) : Option Res :=
 jkc n
  (fun y4 => some (jaa jxD jyh ((y4, ()), ())))
  (fun _ => some (jaa jxD jyh ((true, ()), ())))
  a0
  a0
  (((List.length a0) : Nat) : Int)
  n
  (0 : Int)
def jNg (a0 : _) := jap jxD jyh (M_z0c FUEL a0)
def jPd (a0 : _) := (jNg a0).isSome
def q_z0c (a0 : _) := RS.get (jNg a0)
/-! z0d: graph_longest_walk -/
abbrev jbw : List EK := [.ty (.int .i64)]
abbrev jbx : List HK := [.one true [.ty (.slice jay)], .one false [.mp 2], .mf (.int .i64) (.int .i64), .one true [.ty .bool], .one false [.mp 5], .mf (.int .i64) (.int .i64), .one false [.fn 99 [(0, 0, 0), (1, 0, 0), (3, 0, 0), (4, 0, 0), (6, 0, 0)]]]
def jsb (n : Nat) (qr_z0d : Int → (List jai) → (Int → Option (Int)) → Bool → (Int → Option (Int)) → Option (RS jbw jbx)) (k_t1 : Int → (List jai) → (Int → Option (Int)) → Bool → (Int → Option (Int)) → Option Res) (x1_0 : Int) (x1_2 : Nat) (x1_3 : Int) (x1_9 : (List Int)) (rec : Int → Int → (List jai) → (Int → Option (Int)) → Bool → (Int → Option (Int)) → Option Res) (x1_1 : Int) (x1_4 : Int) (x1_5 : (List jai)) (x1_6 : (Int → Option (Int))) (x1_7 : Bool) (x1_8 : (Int → Option (Int))) : Option Res :=
 cond (decide (x1_4 < x1_3))
 (cond (decide ((0 : Int) ≤ x1_4 ∧ x1_4 < ((x1_2 : Nat) : Int)))
 (let y3 := (RS.get (qr_z0d (rdd (0 : Int) x1_9 (Int.toNat x1_4)) x1_5 x1_6 x1_7 x1_8))
 cond (Option.isSome (qr_z0d (rdd (0 : Int) x1_9 (Int.toNat x1_4)) x1_5 x1_6 x1_7 x1_8))
 (rec (if y3.1.1 > x1_1 then y3.1.1 else x1_1) (IntKind.wrap .i64 (x1_4 + (1 : Int))) y3.2.1.1 y3.2.2.2.1 y3.2.2.2.2.1.1 y3.2.2.2.2.2.2.1)
 (none))
 (none))
 (k_t1 x1_1 x1_5 x1_6 x1_7 x1_8)
def jka (n : Nat) (qr_z0d : Int → (List jai) → (Int → Option (Int)) → Bool → (Int → Option (Int)) → Option (RS jbw jbx)) (k_t1 : Int → (List jai) → (Int → Option (Int)) → Bool → (Int → Option (Int)) → Option Res) (x1_0 : Int) (x1_2 : Nat) (x1_3 : Int) (x1_9 : (List Int)) : Nat → Int → Int → (List jai) → (Int → Option (Int)) → Bool → (Int → Option (Int)) → Option Res
  | 0, _, _, _, _, _, _ => none
  | m + 1, x1_1, x1_4, x1_5, x1_6, x1_7, x1_8 => jsb n qr_z0d k_t1 x1_0 x1_2 x1_3 x1_9 (jka n qr_z0d k_t1 x1_0 x1_2 x1_3 x1_9 m) x1_1 x1_4 x1_5 x1_6 x1_7 x1_8
def jKw (n : Nat) (qr_z0d : Int → (List jai) → (Int → Option (Int)) → Bool → (Int → Option (Int)) → Option (RS jbw jbx)) (a0 : Int) (a1 : (List jai)) (a2 : (Int → Option (Int))) (a3 : Bool) (a4 : (Int → Option (Int))) : Option Res :=
 let y1 := (jlT a1 a0)
 cond (jfK a1 a0)
 (cond (!y1.1.2.1)
 (some (jaa jbw jbx (((0 : Int), ()), ((a1, ()), (((), ()), (a2, ((a3, ()), (((), ()), (a4, (((), ()), ()))))))))))
 (cond (decide ((Option.getD (a2 a0) (0 : Int)) > (0 : Int)))
 (some (jaa jbw jbx (((0 : Int), ()), ((a1, ()), (((), ()), (a2, ((false, ()), (((), ()), (a4, (((), ()), ()))))))))))
 (cond (decide ((Option.getD (a4 a0) (0 : Int)) > (0 : Int)))
 (some (jaa jbw jbx (((Option.getD (a4 a0) (0 : Int)), ()), ((a1, ()), (((), ()), (a2, ((a3, ()), (((), ()), (a4, (((), ()), ()))))))))))
 (let y2 := (jLg y1.1.1)
 cond (jyI y1.1.1)
 (jka n qr_z0d
  (fun y4 y5 y6 y7 y8 => some (jaa jbw jbx (((IntKind.wrap .i64 (y4 + (1 : Int))), ()), ((y5, ()), (((), ()), ((fun i => cond (decide (i = a0)) (some (IntKind.wrap .i64 ((Option.getD (y6 a0) (0 : Int)) - (1 : Int)))) (y6 i)), ((y7, ()), (((), ()), ((fun i => cond (decide (i = a0)) (some (IntKind.wrap .i64 (y4 + (1 : Int)))) (y8 i)), (((), ()), ()))))))))))
  a0
  y2.1.1
  ((y2.1.1 : Nat) : Int)
  y2.2.1
  n
  (0 : Int)
  (0 : Int)
  a1
  (fun i => cond (decide (i = a0)) (some (IntKind.wrap .i64 ((Option.getD (a2 a0) (0 : Int)) + (1 : Int)))) (a2 i))
  a3
  a4)
 (none)))))
 (none)
def jnc : Nat → Int → (List jai) → (Int → Option (Int)) → Bool → (Int → Option (Int)) → Option (RS jbw jbx)
  | 0, _, _, _, _, _ => none
  | dp + 1, a0, a1, a2, a3, a4 => jap jbw jbx (jKw FUEL (jnc dp) a0 a1 a2 a3 a4)
def jNf (a0 : Int) (a1 : (List jai)) (a2 : (Int → Option (Int))) (a3 : Bool) (a4 : (Int → Option (Int))) : Option (RS jbw jbx) := jnc FUEL a0 a1 a2 a3 a4
def jPc (a0 : Int) (a1 : (List jai)) (a2 : (Int → Option (Int))) (a3 : Bool) (a4 : (Int → Option (Int))) : Bool := (jNf a0 a1 a2 a3 a4).isSome
def q_z0d (a0 : Int) (a1 : (List jai)) (a2 : (Int → Option (Int))) (a3 : Bool) (a4 : (Int → Option (Int))) : RS jbw jbx := RS.get (jNf a0 a1 a2 a3 a4)
/-! z0e: graph_longest -/
abbrev jsI : List EK := [.fn 99 [(0, 0, 0), (1, 0, 0), (3, 0, 0), (4, 0, 0), (6, 0, 0)], .ty .bool]
abbrev jsY : List HK := [.one true [.ty (.slice jay)], .one false [.mp 2], .mf (.int .i64) (.int .i64), .one true [.ty .bool], .one false [.mp 5], .mf (.int .i64) (.int .i64), .one false [.fn 99 [(0, 0, 0), (1, 0, 0), (3, 0, 0), (4, 0, 0), (6, 0, 0)]]]
def jsa (n : Nat) (k_t0 : Bool → (List jai) → (Int → Option (Int)) → (Int → Option (Int)) → Option Res) (x0_0 : (List jai)) (x0_1 : Int) (rec : Int → Bool → (List jai) → (Int → Option (Int)) → (Int → Option (Int)) → Option Res) (x0_2 : Int) (x0_3 : Bool) (x0_4 : (List jai)) (x0_5 : (Int → Option (Int))) (x0_6 : (Int → Option (Int))) : Option Res :=
 cond (decide (x0_2 < x0_1))
 (cond (decide ((0 : Int) ≤ x0_2 ∧ x0_2 < (((List.length x0_0) : Nat) : Int)))
 (let y1 := (q_z0d ((rdd jaC x0_0 (Int.toNat x0_2)).1) x0_4 x0_5 x0_3 x0_6)
 cond (jPc ((rdd jaC x0_0 (Int.toNat x0_2)).1) x0_4 x0_5 x0_3 x0_6)
 (rec (IntKind.wrap .i64 (x0_2 + (1 : Int))) y1.2.2.2.2.1.1 y1.2.1.1 y1.2.2.2.1 y1.2.2.2.2.2.2.1)
 (none))
 (none))
 (k_t0 x0_3 x0_4 x0_5 x0_6)
def jjZ (n : Nat) (k_t0 : Bool → (List jai) → (Int → Option (Int)) → (Int → Option (Int)) → Option Res) (x0_0 : (List jai)) (x0_1 : Int) : Nat → Int → Bool → (List jai) → (Int → Option (Int)) → (Int → Option (Int)) → Option Res
  | 0, _, _, _, _, _ => none
  | m + 1, x0_2, x0_3, x0_4, x0_5, x0_6 => jsa n k_t0 x0_0 x0_1 (jjZ n k_t0 x0_0 x0_1 m) x0_2 x0_3 x0_4 x0_5 x0_6
def M_z0e (n : Nat) (a0 : (List jai)) : Option Res :=
 jjZ n
  (fun y2 y3 y4 y5 => some (jaa jsI jsY (((), (y2, ())), ((y3, ()), (((), ()), (y4, ((y2, ()), (((), ()), (y5, (((), ()), ()))))))))))
  a0
  (((List.length a0) : Nat) : Int)
  n
  (0 : Int)
  true
  a0
  (fun _ => none)
  (fun _ => none)
def jJN (a0 : _) := jap jsI jsY (M_z0e FUEL a0)
def jPb (a0 : _) := (jJN a0).isSome
def q_z0e (a0 : _) := RS.get (jJN a0)
/-! z0f: graph_May -/
abbrev jlz : List EK := [.ty (.int .i64)]
abbrev jlN : List HK := []
def jOs (n : Nat) (a0 : (List jai)) : Option Res :=
 let y1 := (q_z09 a0)
 cond (jPe a0)
 (cond (!y1.1.1)
 (some (jaa jlz jlN (((3 : Int), ()), ())))
 (cond (decide ((((List.length a0) : Nat) : Int) > (32 : Int)))
 (some (jaa jlz jlN (((12 : Int), ()), ())))
 (let y2 := (q_z0c a0)
 cond (jPd a0)
 (cond (!y2.1.1)
 (some (jaa jlz jlN (((8 : Int), ()), ())))
 (let y3 := (q_z0e a0)
 cond (jPb a0)
 (cond (!y3.1.2.1)
 (some (jaa jlz jlN (((10 : Int), ()), ())))
 (some (jaa jlz jlN (((0 : Int), ()), ()))))
 (none)))
 (none))))
 (none)
def jNe (a0 : _) := jap jlz jlN (jOs FUEL a0)
def jPa (a0 : _) := (jNe a0).isSome
def q_z0f (a0 : _) := RS.get (jNe a0)
/-! z0g: walk_steps -/
abbrev jDl : List EK := [.fn 76 [(0, 0, 0), (1, 0, 0)]]
abbrev jDR : List HK := [.one true [.ty (.slice jay)], .one true [.ty .str]]
def M_z0g (n : Nat) (a0 : (List jai)) (a1 : ByteArray) : Option Res :=
 some (jaa jDl jDR (((), ()), ((a0, ()), ((a1, ()), ()))))
def jNd (a0 a1 : _) := jap jDl jDR (M_z0g FUEL a0 a1)
def jOZ (a0 a1 : _) := (jNd a0 a1).isSome
def q_z0g (a0 a1 : _) := RS.get (jNd a0 a1)
/-! z0h: walk_may -/
abbrev jcR : List EK := [.ty .bool]
abbrev jcS : List HK := []
def jOr (n : Nat) (a0 : jai) : Option Res :=
 cond (decide (a0.2.1 < (0 : Int)))
 (some (jaa jcR jcS ((false, ()), ())))
 (cond (decide (a0.2.1 > (256 : Int)))
 (some (jaa jcR jcS ((false, ()), ())))
 (cond (decide (a0.2.2.1 < (0 : Int)))
 (some (jaa jcR jcS ((false, ()), ())))
 (cond (decide (a0.2.2.1 > (2048 : Int)))
 (some (jaa jcR jcS ((false, ()), ())))
 (cond (decide (a0.2.2.2.1 < (0 : Int)))
 (some (jaa jcR jcS ((false, ()), ())))
 (cond (decide (a0.2.2.2.1 > (16 : Int)))
 (some (jaa jcR jcS ((false, ()), ())))
 (cond (a0.2.2.2.1 == (0 : Int))
 (cond (a0.2.2.1 == (0 : Int))
 (some (jaa jcR jcS (((a0.2.2.2.2.1 == (0 : Int)), ()), ())))
 (some (jaa jcR jcS ((false, ()), ()))))
 (cond (decide (a0.2.2.2.2.1 ≥ (1 : Int)))
 (some (jaa jcR jcS (((decide (a0.2.2.2.2.1 ≤ (256 : Int))), ()), ())))
 (some (jaa jcR jcS ((false, ()), ()))))))))))
def jNc (a0 : _) := jap jcR jcS (jOr FUEL a0)
def jOY (a0 : _) := (jNc a0).isSome
def q_z0h (a0 : _) := RS.get (jNc a0)
/-! z0i: field_may -/
abbrev jly : List EK := [.ty (.int .i64)]
abbrev jlM : List HK := []
def jCq (n : Nat) (a0 : ByteArray) (a1 : Int) (a2 : Int) : Option Res :=
 cond (decide (a2 < (1 : Int)))
 (some (jaa jly jlM (((1 : Int), ()), ())))
 (cond (decide (a2 > (128 : Int)))
 (some (jaa jly jlM (((1 : Int), ()), ())))
 (cond (decide (a1 < (0 : Int)))
 (some (jaa jly jlM (((1 : Int), ()), ())))
 (let y1 : Int := (IntKind.wrap .i64 ((IntKind.wrap .i64 ((8 : Int) * ((ByteArray.size a0 : Nat) : Int))) - a2))
 cond (decide (a1 > y1))
 (some (jaa jly jlM (((4 : Int), ()), ())))
 (some (jaa jly jlM (((0 : Int), ()), ()))))))
def jCh (a0 a1 a2 : _) := jap jly jlM (jCq FUEL a0 a1 a2)
def jox (a0 a1 a2 : _) := (jCh a0 a1 a2).isSome
def jBz (a0 a1 a2 : _) := RS.get (jCh a0 a1 a2)
/-! z0j: word_Left -/
abbrev jlx : List EK := [.agg jaL]
abbrev jlL : List HK := []
def jwQ (n : Nat) (a0 : jaW) (a1 : Int) : Option Res :=
 cond (decide (a1 ≤ (0 : Int)))
 (some (jaa jlx jlL ((a0, ()), ())))
 (cond (decide (a1 ≥ (64 : Int)))
 (cond (decide ((0 : Int) ≤ (IntKind.wrap .i64 (a1 - (64 : Int)))))
 (let y1 : Int := (IntKind.wrap .u64 (a0.2.1 * 2 ^ (min (Int.toNat (IntKind.wrap .i64 (a1 - (64 : Int)))) (IntKind.bits .u64))))
 some (jaa jlx jlL (((y1, ((0 : Int), ())), ()), ())))
 (none))
 (cond (decide ((0 : Int) ≤ a1))
 (cond (decide ((0 : Int) ≤ (IntKind.wrap .i64 ((64 : Int) - a1))))
 (let y2 : Int := (Int.fdiv a0.2.1 (2 ^ (min (Int.toNat (IntKind.wrap .i64 ((64 : Int) - a1))) (IntKind.bits .u64))))
 let y3 : Int := (IntKind.wrap .u64 (BitVec.toNat (BitVec.ofInt (IntKind.bits .u64) (IntKind.wrap .u64 (a0.1 * 2 ^ (min (Int.toNat a1) (IntKind.bits .u64)))) ||| BitVec.ofInt (IntKind.bits .u64) y2) : Nat))
 cond (decide ((0 : Int) ≤ a1))
 (some (jaa jlx jlL (((y3, ((IntKind.wrap .u64 (a0.2.1 * 2 ^ (min (Int.toNat a1) (IntKind.bits .u64)))), ())), ()), ())))
 (none))
 (none))
 (none)))
def jCg (a0 a1 : _) := jap jlx jlL (jwQ FUEL a0 a1)
def jyH (a0 a1 : _) := (jCg a0 a1).isSome
def jnf (a0 a1 : _) := RS.get (jCg a0 a1)
/-! z0k: word_New -/
abbrev jDk : List EK := [.agg jaL]
abbrev jDQ : List HK := []
def M_z0k (n : Nat) (a0 : Int) : Option Res :=
 some (jaa jDk jDQ ((((0 : Int), (a0, ())), ()), ()))
def jJM (a0 : _) := jap jDk jDQ (M_z0k FUEL a0)
def jkw (a0 : _) := (jJM a0).isSome
def jlS (a0 : _) := RS.get (jJM a0)
/-! z0l: word_Or -/
abbrev jDj : List EK := [.agg jaL]
abbrev jDP : List HK := []
def jOq (n : Nat) (a0 : jaW) (a1 : jaW) : Option Res :=
 let y1 : Int := (IntKind.wrap .u64 (BitVec.toNat (BitVec.ofInt (IntKind.bits .u64) a0.1 ||| BitVec.ofInt (IntKind.bits .u64) a1.1) : Nat))
 let y2 : Int := (IntKind.wrap .u64 (BitVec.toNat (BitVec.ofInt (IntKind.bits .u64) a0.2.1 ||| BitVec.ofInt (IntKind.bits .u64) a1.2.1) : Nat))
 some (jaa jDj jDP (((y1, (y2, ())), ()), ()))
def jCf (a0 a1 : _) := jap jDj jDP (jOq FUEL a0 a1)
def jyG (a0 a1 : _) := (jCf a0 a1).isSome
def jtf (a0 a1 : _) := RS.get (jCf a0 a1)
/-! z0m: word_Not -/
abbrev jDi : List EK := [.agg jaL]
abbrev jDO : List HK := []
def M_z0m (n : Nat) (a0 : jaW) : Option Res :=
 let y1 : Int := (IntKind.wrap .u64 (BitVec.toNat (BitVec.ofInt (IntKind.bits .u64) (IntKind.max .u64) ^^^ BitVec.ofInt (IntKind.bits .u64) a0.1) : Nat))
 let y2 : Int := (IntKind.wrap .u64 (BitVec.toNat (BitVec.ofInt (IntKind.bits .u64) (IntKind.max .u64) ^^^ BitVec.ofInt (IntKind.bits .u64) a0.2.1) : Nat))
 some (jaa jDi jDO (((y1, (y2, ())), ()), ()))
def jJL (a0 : _) := jap jDi jDO (M_z0m FUEL a0)
def jOX (a0 : _) := (jJL a0).isSome
def q_z0m (a0 : _) := RS.get (jJL a0)
/-! z0n: word_Right -/
abbrev jlw : List EK := [.agg jaL]
abbrev jlK : List HK := []
def jwP (n : Nat) (a0 : jaW) (a1 : Int) : Option Res :=
 cond (decide (a1 ≤ (0 : Int)))
 (some (jaa jlw jlK ((a0, ()), ())))
 (cond (decide (a1 ≥ (64 : Int)))
 (cond (decide ((0 : Int) ≤ (IntKind.wrap .i64 (a1 - (64 : Int)))))
 (let y1 : Int := (Int.fdiv a0.1 (2 ^ (min (Int.toNat (IntKind.wrap .i64 (a1 - (64 : Int)))) (IntKind.bits .u64))))
 some (jaa jlw jlK ((((0 : Int), (y1, ())), ()), ())))
 (none))
 (cond (decide ((0 : Int) ≤ a1))
 (cond (decide ((0 : Int) ≤ a1))
 (cond (decide ((0 : Int) ≤ (IntKind.wrap .i64 ((64 : Int) - a1))))
 (let y2 : Int := (IntKind.wrap .u64 (a0.1 * 2 ^ (min (Int.toNat (IntKind.wrap .i64 ((64 : Int) - a1))) (IntKind.bits .u64))))
 let y3 : Int := (IntKind.wrap .u64 (BitVec.toNat (BitVec.ofInt (IntKind.bits .u64) (Int.fdiv a0.2.1 (2 ^ (min (Int.toNat a1) (IntKind.bits .u64)))) ||| BitVec.ofInt (IntKind.bits .u64) y2) : Nat))
 some (jaa jlw jlK ((((Int.fdiv a0.1 (2 ^ (min (Int.toNat a1) (IntKind.bits .u64)))), (y3, ())), ()), ())))
 (none))
 (none))
 (none)))
def jCe (a0 a1 : _) := jap jlw jlK (jwP FUEL a0 a1)
def jyF (a0 a1 : _) := (jCe a0 a1).isSome
def jBy (a0 a1 : _) := RS.get (jCe a0 a1)
/-! z0o: word_Mask -/
abbrev jxC : List EK := [.agg jaL]
abbrev jyg : List HK := []
def jKv (n : Nat) (a0 : Int) : Option Res :=
 let y1 := (q_z0m ((0 : Int), ((0 : Int), ())))
 cond (jOX ((0 : Int), ((0 : Int), ())))
 (let y2 : Int := (if (128 : Int) < (if (0 : Int) > a0 then (0 : Int) else a0) then (128 : Int) else (if (0 : Int) > a0 then (0 : Int) else a0))
 let y3 := (jBy y1.1.1 (IntKind.wrap .i64 ((128 : Int) - y2)))
 cond (jyF y1.1.1 (IntKind.wrap .i64 ((128 : Int) - y2)))
 (some (jaa jxC jyg ((y3.1.1, ()), ())))
 (none))
 (none)
def jCd (a0 : _) := jap jxC jyg (jKv FUEL a0)
def jEu (a0 : _) := (jCd a0).isSome
def jLf (a0 : _) := RS.get (jCd a0)
/-! z0p: word_And -/
abbrev jDh : List EK := [.agg jaL]
abbrev jDN : List HK := []
def jKu (n : Nat) (a0 : jaW) (a1 : jaW) : Option Res :=
 let y1 : Int := (IntKind.wrap .u64 (BitVec.toNat (BitVec.ofInt (IntKind.bits .u64) a0.1 &&& BitVec.ofInt (IntKind.bits .u64) a1.1) : Nat))
 let y2 : Int := (IntKind.wrap .u64 (BitVec.toNat (BitVec.ofInt (IntKind.bits .u64) a0.2.1 &&& BitVec.ofInt (IntKind.bits .u64) a1.2.1) : Nat))
 some (jaa jDh jDN (((y1, (y2, ())), ()), ()))
def jwG (a0 a1 : _) := jap jDh jDN (jKu FUEL a0 a1)
def jtp (a0 a1 : _) := (jwG a0 a1).isSome
def jBx (a0 a1 : _) := RS.get (jwG a0 a1)
/-! z0q: word_Cut -/
abbrev jxB : List EK := [.agg jaL]
abbrev jyf : List HK := []
def jCp (n : Nat) (a0 : jaW) (a1 : Int) : Option Res :=
 let y1 := (jLf a1)
 cond (jEu a1)
 (let y2 := (jBx a0 y1.1.1)
 cond (jtp a0 y1.1.1)
 (some (jaa jxB jyf ((y2.1.1, ()), ())))
 (none))
 (none)
def jCc (a0 a1 : _) := jap jxB jyf (jCp FUEL a0 a1)
def jOW (a0 a1 : _) := (jCc a0 a1).isSome
def jBw (a0 a1 : _) := RS.get (jCc a0 a1)
/-! z0r: field_Get -/
abbrev jxA : List EK := [.agg jaL, .ty (.int .i64)]
abbrev jye : List HK := []
def jrZ (n : Nat) (k_t0 : jaW → Option Res) (x0_0 : ByteArray) (x0_1 : Int) (x0_2 : Int) (x0_3 : Int) (x0_4 : Int) (x0_5 : Int) (x0_7 : jaW) (rec : Int → jaW → Option Res) (x0_6 : Int) (x0_8 : jaW) : Option Res :=
 cond (decide (x0_6 < x0_5))
 (let y4 := (jnf x0_8 (8 : Int))
 cond (jyH x0_8 (8 : Int))
 (cond (decide ((0 : Int) ≤ (IntKind.wrap .i64 (x0_3 + x0_6)) ∧ (IntKind.wrap .i64 (x0_3 + x0_6)) < ((ByteArray.size x0_0 : Nat) : Int)))
 (let y5 := (jlS (IntKind.wrap .u64 (jbs x0_0 (Int.toNat (IntKind.wrap .i64 (x0_3 + x0_6))))))
 cond (jkw (IntKind.wrap .u64 (jbs x0_0 (Int.toNat (IntKind.wrap .i64 (x0_3 + x0_6))))))
 (let y6 := (jtf y4.1.1 y5.1.1)
 cond (jyG y4.1.1 y5.1.1)
 (rec (IntKind.wrap .i64 (x0_6 + (1 : Int))) y6.1.1)
 (none))
 (none))
 (none))
 (none))
 (k_t0 x0_8)
def jjY (n : Nat) (k_t0 : jaW → Option Res) (x0_0 : ByteArray) (x0_1 : Int) (x0_2 : Int) (x0_3 : Int) (x0_4 : Int) (x0_5 : Int) (x0_7 : jaW) : Nat → Int → jaW → Option Res
  | 0, _, _ => none
  | m + 1, x0_6, x0_8 => jrZ n k_t0 x0_0 x0_1 x0_2 x0_3 x0_4 x0_5 x0_7 (jjY n k_t0 x0_0 x0_1 x0_2 x0_3 x0_4 x0_5 x0_7 m) x0_6 x0_8
def jKt (n : Nat) (a0 : ByteArray) (a1 : Int) (a2 : Int) : Option Res :=
 let y1 := (jBz a0 a1 a2)
 cond (jox a0 a1 a2)
 (cond (y1.1.1 != (0 : Int))
 (some (jaa jxA jye ((((0 : Int), ((0 : Int), ())), (y1.1.1, ())), ())))
 (cond ((8 : Int) != 0)
 (let y2 : Int := (IntKind.wrap .i64 ((IntKind.wrap .i64 ((IntKind.wrap .i64 (a1 + a2)) + (8 : Int))) - (1 : Int)))
 cond ((8 : Int) != 0)
 (let y3 : Int := (IntKind.wrap .i64 ((IntKind.wrap .i64 (Int.tdiv y2 (8 : Int))) - (IntKind.wrap .i64 (Int.tdiv a1 (8 : Int)))))
 jjY n
  (fun y7 => let y8 : Int := (IntKind.wrap .i64 ((IntKind.wrap .i64 ((IntKind.wrap .i64 (Int.tdiv y2 (8 : Int))) * (8 : Int))) - a1))
 let y9 := (jnf y7 (IntKind.wrap .i64 ((8 : Int) - (IntKind.wrap .i64 (y8 - a2)))))
 cond (jyH y7 (IntKind.wrap .i64 ((8 : Int) - (IntKind.wrap .i64 (y8 - a2)))))
 (cond (decide ((0 : Int) ≤ (IntKind.wrap .i64 ((IntKind.wrap .i64 (Int.tdiv y2 (8 : Int))) - (1 : Int))) ∧ (IntKind.wrap .i64 ((IntKind.wrap .i64 (Int.tdiv y2 (8 : Int))) - (1 : Int))) < ((ByteArray.size a0 : Nat) : Int)))
 (let y10 : Int := (jbs a0 (Int.toNat (IntKind.wrap .i64 ((IntKind.wrap .i64 (Int.tdiv y2 (8 : Int))) - (1 : Int)))))
 cond (decide ((0 : Int) ≤ (IntKind.wrap .i64 (y8 - a2))))
 (let y11 : Int := (IntKind.wrap .u64 (Int.fdiv y10 (2 ^ (min (Int.toNat (IntKind.wrap .i64 (y8 - a2))) (IntKind.bits .u8)))))
 let y12 := (jlS y11)
 cond (jkw y11)
 (let y13 := (jtf y9.1.1 y12.1.1)
 cond (jyG y9.1.1 y12.1.1)
 (let y14 := (jBw y13.1.1 a2)
 cond (jOW y13.1.1 a2)
 (some (jaa jxA jye ((y14.1.1, ((0 : Int), ())), ())))
 (none))
 (none))
 (none))
 (none))
 (none))
 (none))
  a0
  a1
  a2
  (IntKind.wrap .i64 (Int.tdiv a1 (8 : Int)))
  (IntKind.wrap .i64 (Int.tdiv y2 (8 : Int)))
  (IntKind.wrap .i64 (y3 - (1 : Int)))
  ((0 : Int), ((0 : Int), ()))
  n
  (0 : Int)
  ((0 : Int), ((0 : Int), ())))
 (none))
 (none)))
 (none)
def jJK (a0 a1 a2 : _) := jap jxA jye (jKt FUEL a0 a1 a2)
def jmd (a0 a1 a2 : _) := (jJK a0 a1 a2).isSome
def jvm (a0 a1 a2 : _) := RS.get (jJK a0 a1 a2)
/-! z0s: walk_number -/
abbrev jsH : List EK := [.ty (.int .i64), .ty .bool]
abbrev jsX : List HK := []
def jOp (n : Nat) (a0 : ByteArray) (a1 : Int) (a2 : Int) (a3 : Int) : Option Res :=
 cond (decide (a1 < (0 : Int)))
 (some (jaa jsH jsX (((0 : Int), (false, ())), ())))
 (cond (decide (a1 > ((ByteArray.size a0 : Nat) : Int)))
 (some (jaa jsH jsX (((0 : Int), (false, ())), ())))
 (cond (decide ((0 : Int) ≤ a1 ∧ a1 ≤ ((ByteArray.size a0 : Nat) : Int) ∧ ((ByteArray.size a0 : Nat) : Int) ≤ ((ByteArray.size a0 : Nat) : Int)))
 (let y1 : ByteArray := (ByteArray.extract a0 (Int.toNat a1) (Int.toNat ((ByteArray.size a0 : Nat) : Int)))
 let y2 := (jvm y1 a2 a3)
 cond (jmd y1 a2 a3)
 (some (jaa jsH jsX (((IntKind.wrap .i64 y2.1.1.2.1), ((y2.1.2.1 == (0 : Int)), ())), ())))
 (none))
 (none)))
def jNb (a0 a1 a2 a3 : _) := jap jsH jsX (jOp FUEL a0 a1 a2 a3)
def jyE (a0 a1 a2 a3 : _) := (jNb a0 a1 a2 a3).isSome
def jLe (a0 a1 a2 a3 : _) := RS.get (jNb a0 a1 a2 a3)
/-! z0t: walk_Size -/
abbrev jcf : List EK := [.ty (.int .i64), .ty (.int .i64)]
abbrev jcg : List HK := []
def jOo (n : Nat) (a0 : jai) (a1 : ByteArray) (a2 : Int) : Option Res :=
 let y1 := (q_z0h a0)
 cond (jOY a0)
 (cond (!y1.1.1)
 (some (jaa jcf jcg (((0 : Int), ((4 : Int), ())), ())))
 (cond (decide (a0.2.2.2.1 > (0 : Int)))
 (let y2 := (jLe a1 a2 a0.2.2.1 a0.2.2.2.1)
 cond (jyE a1 a2 a0.2.2.1 a0.2.2.2.1)
 (cond (!y2.1.2.1)
 (some (jaa jcf jcg (((0 : Int), ((1 : Int), ())), ())))
 (cond (decide ((IntKind.wrap .i64 (a0.2.1 + (IntKind.wrap .i64 (a0.2.2.2.2.1 * y2.1.1)))) > (256 : Int)))
 (some (jaa jcf jcg (((0 : Int), ((2 : Int), ())), ())))
 (cond (decide (a2 < (0 : Int)))
 (some (jaa jcf jcg (((0 : Int), ((1 : Int), ())), ())))
 (cond (decide (a2 > ((ByteArray.size a1 : Nat) : Int)))
 (some (jaa jcf jcg (((0 : Int), ((1 : Int), ())), ())))
 (cond (decide ((IntKind.wrap .i64 (a0.2.1 + (IntKind.wrap .i64 (a0.2.2.2.2.1 * y2.1.1)))) > (IntKind.wrap .i64 (((ByteArray.size a1 : Nat) : Int) - a2))))
 (some (jaa jcf jcg (((0 : Int), ((1 : Int), ())), ())))
 (some (jaa jcf jcg (((IntKind.wrap .i64 (a0.2.1 + (IntKind.wrap .i64 (a0.2.2.2.2.1 * y2.1.1)))), ((0 : Int), ())), ()))))))))
 (none))
 (cond (decide (a0.2.1 > (256 : Int)))
 (some (jaa jcf jcg (((0 : Int), ((2 : Int), ())), ())))
 (cond (decide (a2 < (0 : Int)))
 (some (jaa jcf jcg (((0 : Int), ((1 : Int), ())), ())))
 (cond (decide (a2 > ((ByteArray.size a1 : Nat) : Int)))
 (some (jaa jcf jcg (((0 : Int), ((1 : Int), ())), ())))
 (cond (decide (a0.2.1 > (IntKind.wrap .i64 (((ByteArray.size a1 : Nat) : Int) - a2))))
 (some (jaa jcf jcg (((0 : Int), ((1 : Int), ())), ())))
 (some (jaa jcf jcg ((a0.2.1, ((0 : Int), ())), ())))))))))
 (none)
def jNa (a0 a1 a2 : _) := jap jcf jcg (jOo FUEL a0 a1 a2)
def jOV (a0 a1 a2 : _) := (jNa a0 a1 a2).isSome
def q_z0t (a0 a1 a2 : _) := RS.get (jNa a0 a1 a2)
/-! z0u: graph_Next -/
abbrev joa : List EK := [.ty (.int .i64)]
abbrev joh : List HK := []
def jii (n : Nat) (k_r : Int → Option Res) (k_t0 : Unit → Option Res) (x0_0 : Int) (x0_1 : (List ArmS)) (x0_2 : Int) (x0_4 : jai) (rec : Int → Option Res) (x0_3 : Int) : Option Res :=
 cond (decide (x0_3 < x0_2))
 (cond (decide ((0 : Int) ≤ x0_3 ∧ x0_3 < (((List.length x0_1) : Nat) : Int)))
 (cond ((rdd jbq x0_1 (Int.toNat x0_3)).1 == x0_0)
 (k_r ((rdd jbq x0_1 (Int.toNat x0_3)).2.1))
 (rec (IntKind.wrap .i64 (x0_3 + (1 : Int)))))
 (none))
 (k_t0 ())
def jeB (n : Nat) (k_r : Int → Option Res) (k_t0 : Unit → Option Res) (x0_0 : Int) (x0_1 : (List ArmS)) (x0_2 : Int) (x0_4 : jai) : Nat → Int → Option Res
  | 0, _ => none
  | m + 1, x0_3 => jii n k_r k_t0 x0_0 x0_1 x0_2 x0_4 (jeB n k_r k_t0 x0_0 x0_1 x0_2 x0_4 m) x0_3
def jKs (n : Nat) (a0 : (List jai)) (a1 : Int) (a2 : Int) : Option Res :=
 let y1 := (jlT a0 a1)
 cond (jfK a0 a1)
 (jeB n
  (fun y2 => some (jaa joa joh ((y2, ()), ())))
  (fun _ => some (jaa joa joh ((y1.1.1.2.2.2.2.2.2.2.2.1, ()), ())))
  a2
  y1.1.1.2.2.2.2.2.2.2.1
  (((List.length y1.1.1.2.2.2.2.2.2.2.1) : Nat) : Int)
  y1.1.1
  n
  (0 : Int))
 (none)
def jwF (a0 a1 a2 : _) := jap joa joh (jKs FUEL a0 a1 a2)
def jEt (a0 a1 a2 : _) := (jwF a0 a1 a2).isSome
def jBv (a0 a1 a2 : _) := RS.get (jwF a0 a1 a2)
/-! z0v: walk_next -/
abbrev jgC : List EK := [.ty (.int .i64), .ty (.int .i64)]
abbrev jgD : List HK := []
def jOn (n : Nat) (a0 : (List jai)) (a1 : jai) (a2 : ByteArray) (a3 : Int) : Option Res :=
 cond (decide (a1.2.2.2.2.2.2.1 > (0 : Int)))
 (let y1 := (jLe a2 a3 a1.2.2.2.2.2.1 a1.2.2.2.2.2.2.1)
 cond (jyE a2 a3 a1.2.2.2.2.2.1 a1.2.2.2.2.2.2.1)
 (cond (!y1.1.2.1)
 (some (jaa jgC jgD (((0 : Int), ((1 : Int), ())), ())))
 (let y2 := (jBv a0 a1.1 (IntKind.wrap .u32 y1.1.1))
 cond (jEt a0 a1.1 (IntKind.wrap .u32 y1.1.1))
 (cond (y2.1.1 == (65535 : Int))
 (some (jaa jgC jgD (((0 : Int), ((4 : Int), ())), ())))
 (some (jaa jgC jgD ((y2.1.1, ((0 : Int), ())), ()))))
 (none)))
 (none))
 (let y3 := (jBv a0 a1.1 (IntKind.wrap .u32 (0 : Int)))
 cond (jEt a0 a1.1 (IntKind.wrap .u32 (0 : Int)))
 (cond (y3.1.1 == (65535 : Int))
 (some (jaa jgC jgD (((0 : Int), ((4 : Int), ())), ())))
 (some (jaa jgC jgD ((y3.1.1, ((0 : Int), ())), ()))))
 (none))
def jMZ (a0 a1 a2 a3 : _) := jap jgC jgD (jOn FUEL a0 a1 a2 a3)
def jOU (a0 a1 a2 a3 : _) := (jMZ a0 a1 a2 a3).isSome
def q_z0v (a0 a1 a2 a3 : _) := RS.get (jMZ a0 a1 a2 a3)
/-! z0w: walk_steps_1 -/
abbrev jsG : List EK := []
abbrev jsW : List HK := [.lp 0 [.junk, .junk, .junk, .junk, .junk, .junk, .junk, .ptr 1 0 0, .ptr 3 0 0, .ptr 4 0 0, .junk, .junk, .junk, .junk, .junk, .junk, .junk, .junk, .junk, .junk, .junk, .junk, .junk, .junk, .junk, .junk, .junk, .junk, .junk, .junk, .junk, .junk], .one false [.hs 7 0], .gone, .one true [.ty (.int .i64)], .one true [.ty (.int .i64)], .one true [.ty (.slice jay)], .one true [.ty .str], .row jaq]
def jkk (n : Nat) (k_r : Nat → Int → Int → (List jan) → Option Res) (k_t0 : Nat → Int → Int → (List jan) → Option Res) (x0_5 : (List jai)) (x0_6 : ByteArray) (rec : Int → Bool → Nat → Int → Int → (List jan) → jai → Option Res) (x0_0 : Int) (x0_1 : Bool) (x0_2 : Nat) (x0_3 : Int) (x0_4 : Int) (x0_7 : (List jan)) (x0_8 : jai) : Option Res :=
 cond x0_1
 (let y2 := (q_z0t x0_8 x0_6 x0_0)
 cond (jOV x0_8 x0_6 x0_0)
 (cond (y2.1.2.1 != (0 : Int))
 (k_r x0_2 (IntKind.wrap .i64 (x0_3 + (1 : Int))) y2.1.2.1 x0_7)
 (let y3 := (q_z0v x0_5 x0_8 x0_6 x0_0)
 cond (jOU x0_5 x0_8 x0_6 x0_0)
 (cond (decide (((List.length (cutL jak x0_7 0 x0_2)) + 1) * 16 ≤ 2 ^ 46 ∧ ((List.length (cutL jak x0_7 0 x0_2)) + 1) ≤ 2 ^ 46))
 (cond (!true)
 (k_r ((List.length (cutL jak x0_7 0 x0_2)) + 1) (IntKind.wrap .i64 (x0_3 + (1 : Int))) y3.1.2.1 ((cutL jak x0_7 0 x0_2) ++ [(x0_8.1, (x0_0, ()))]))
 (cond (y3.1.2.1 != (0 : Int))
 (k_r ((List.length (cutL jak x0_7 0 x0_2)) + 1) (IntKind.wrap .i64 (x0_3 + (1 : Int))) y3.1.2.1 ((cutL jak x0_7 0 x0_2) ++ [(x0_8.1, (x0_0, ()))]))
 (let y4 := (jlT x0_5 y3.1.1)
 cond (jfK x0_5 y3.1.1)
 (rec (IntKind.wrap .i64 (x0_0 + y2.1.1)) y4.1.2.1 ((List.length (cutL jak x0_7 0 x0_2)) + 1) (IntKind.wrap .i64 (x0_3 + (1 : Int))) y3.1.2.1 ((cutL jak x0_7 0 x0_2) ++ [(x0_8.1, (x0_0, ()))]) y4.1.1)
 (none))))
 (none))
 (none)))
 (none))
 (k_t0 x0_2 x0_3 x0_4 x0_7)
def jih (n : Nat) (k_r : Nat → Int → Int → (List jan) → Option Res) (k_t0 : Nat → Int → Int → (List jan) → Option Res) (x0_5 : (List jai)) (x0_6 : ByteArray) : Nat → Int → Bool → Nat → Int → Int → (List jan) → jai → Option Res
  | 0, _, _, _, _, _, _, _ => none
  | m + 1, x0_0, x0_1, x0_2, x0_3, x0_4, x0_7, x0_8 => jkk n k_r k_t0 x0_5 x0_6 (jih n k_r k_t0 x0_5 x0_6 m) x0_0 x0_1 x0_2 x0_3 x0_4 x0_7 x0_8
def jOm (n : Nat) (a0 : Nat) (a1 : (List jan)) (a2 : Int) (a3 : Int) (a4 : (List jai)) (a5 : ByteArray) : Option Res :=
 let y1 := (jlT a4 (1 : Int))
 cond (jfK a4 (1 : Int))
 (jih n
  (fun y5 y6 y7 y8 => some (jaa jsG jsW ((), (((), ((), ((), ((), ((), ((), ((), ((), ((), ((), ((), ((), ((), ((), ((), ((), ((), ((), ((), ((), ((), ((), ((), ((), ((), ((), ((), ((), ((), ((), ((), ((), ())))))))))))))))))))))))))))))))), ((y5, ()), ((), ((y6, ()), ((y7, ()), ((a4, ()), ((a5, ()), (y8, ())))))))))))
  (fun y9 y10 y11 y12 => some (jaa jsG jsW ((), (((), ((), ((), ((), ((), ((), ((), ((), ((), ((), ((), ((), ((), ((), ((), ((), ((), ((), ((), ((), ((), ((), ((), ((), ((), ((), ((), ((), ((), ((), ((), ((), ())))))))))))))))))))))))))))))))), ((y9, ()), ((), ((y10, ()), ((y11, ()), ((a4, ()), ((a5, ()), (y12, ())))))))))))
  a4
  a5
  n
  (0 : Int)
  y1.1.2.1
  a0
  a2
  a3
  a1
  y1.1.1)
 (none)
def jMY (a0 a1 a2 a3 a4 a5 : _) := jap jsG jsW (jOm FUEL a0 a1 a2 a3 a4 a5)
def jOT (a0 a1 a2 a3 a4 a5 : _) := (jMY a0 a1 a2 a3 a4 a5).isSome
def q_z0w (a0 a1 a2 a3 a4 a5 : _) := RS.get (jMY a0 a1 a2 a3 a4 a5)
/-! z0x: walk_Walk -/
abbrev jxz : List EK := [.hs 0 0, .ty (.int .i64), .ty (.int .i64)]
abbrev jyd : List HK := [.row jaq]
def jOl (n : Nat) (a0 : (List jai)) (a1 : ByteArray) : Option Res :=
 let y1 := (q_z0f a0)
 cond (jPa a0)
 (cond (y1.1.1 != (0 : Int))
 (some (jaa jxz jyd ((0, ((0 : Int), ((0 : Int), ()))), ([], ()))))
 (let y2 := (q_z0g a0 a1)
 cond (jOZ a0 a1)
 (let y3 := (q_z0w 0 ([]) (0 : Int) (0 : Int) y2.2.1.1 y2.2.2.1.1)
 cond (jOT 0 ([]) (0 : Int) (0 : Int) y2.2.1.1 y2.2.2.1.1)
 (some (jaa jxz jyd ((y3.2.2.1.1, (y3.2.2.2.2.1.1, (y3.2.2.2.2.2.1.1, ()))), (y3.2.2.2.2.2.2.2.2.1, ()))))
 (none))
 (none)))
 (none)
def jMX (a0 a1 : _) := jap jxz jyd (jOl FUEL a0 a1)
def jEs (a0 a1 : _) := (jMX a0 a1).isSome
def q_z0x (a0 a1 : _) := RS.get (jMX a0 a1)
/-! z0y: pack_Packet_Walkx81b -/
abbrev jDg : List EK := [.ty (.int .i64), .ty (.int .i64)]
abbrev jDM : List HK := [.one false [.ptr 1 0 0, .hs 5 0, .ptr 3 0 0, .ty (.int .i64)], .one false [.hs 2 0], .row (.int .u8), .one false [.hs 4 0], .row (.int .u8), .row jaq]
def jOk (n : Nat) (a0 : (List jai)) (a1 : Int) (a2 : Nat) (a3 : (List Int)) (a4 : Nat) (a5 : (List Int)) : Option Res :=
 let y1 := (q_z04 a1 a2 a3 a4 a5)
 cond (jPh a1 a2 a3 a4 a5)
 (let y2 := (q_z0x a0 y1.1.1)
 cond (jEs a0 y1.1.1)
 (some (jaa jDg jDM ((y2.1.2.1, (y2.1.2.2.1, ())), (((), (y2.1.1, ((), (y1.2.1.2.2.2.1, ())))), ((y1.2.2.1.1, ()), (y1.2.2.2.1, ((y1.2.2.2.2.1.1, ()), (y1.2.2.2.2.2.1, (y2.2.1, ())))))))))
 (none))
 (none)
def jMW (a0 a1 a2 a3 a4 a5 : _) := jap jDg jDM (jOk FUEL a0 a1 a2 a3 a4 a5)
def jOS (a0 a1 a2 a3 a4 a5 : _) := (jMW a0 a1 a2 a3 a4 a5).isSome
def q_z0y (a0 a1 a2 a3 a4 a5 : _) := RS.get (jMW a0 a1 a2 a3 a4 a5)
/-! z0z: turnoutlaw17_walked -/
abbrev jlv : List EK := [.nul 0]
abbrev jlJ : List HK := []
abbrev jit : List EK := [.ptr 0 0 0]
abbrev jiz : List HK := [.one false [.ptr 1 0 0, .hs 3 0, .ptr 4 0 0, .ty (.int .i64)], .one false [.hs 2 0], .row (.int .u8), .row jaq, .one false [.hs 5 0], .row (.int .u8)]
def jOj (n : Nat) : Option Res :=
 let y2 := (q_z01 (3 : Int) (ByteArray.mk #[0, 5, 2, 255, 255, 255]))
 cond (jPi (3 : Int) (ByteArray.mk #[0, 5, 2, 255, 255, 255]))
 (let y3 := q_z02
 cond ok_z02
 (let y4 := (q_z0y (cutL jaC y3.2.1 0 y3.1.1) y2.2.1.2.2.2.1 y2.2.2.1.1 y2.2.2.2.1 y2.2.2.2.2.1.1 y2.2.2.2.2.2.1)
 cond (jOS (cutL jaC y3.2.1 0 y3.1.1) y2.2.1.2.2.2.1 y2.2.2.1.1 y2.2.2.2.1 y2.2.2.2.2.1.1 y2.2.2.2.2.2.1)
 (cond (y4.1.1 != (2 : Int))
 (some (jaa jlv jlJ (((), ()), ())))
 (cond (y4.1.2.1 != (0 : Int))
 (some (jaa jlv jlJ (((), ()), ())))
 (some (jaa jit jiz (((), ()), (((), (y4.2.1.2.1, ((), (y4.2.1.2.2.2.1, ())))), ((y4.2.2.1.1, ()), (y4.2.2.2.1, (y4.2.2.2.2.2.2.1, ((y4.2.2.2.2.1.1, ()), (y4.2.2.2.2.2.1, ())))))))))))
 (none))
 (none))
 (let y1 := (jEf (3 : Int) (ByteArray.mk #[0, 5, 2, 255, 255, 255]))
 cond (jyJ (3 : Int) (ByteArray.mk #[0, 5, 2, 255, 255, 255]))
 (some (jaa jlv jlJ (((), ()), ())))
 (none))
def Q_z0z : Option (RS jlv jlJ) := jap jlv jlJ (jOj FUEL)
def jwE : Option (RS jit jiz) := jap jit jiz (jOj FUEL)
def jLo : Bool := (jwE).isSome
def q_z0z_1 : RS jit jiz := RS.get (jwE)
def ok_z0z : Bool := (Q_z0z).isSome
def q_z0z : RS jlv jlJ := RS.get (Q_z0z)
/-! z10: slices_Clone -/
abbrev jDf : List EK := [.hs 0 0]
abbrev jDL : List HK := [.row jaq]
def jJJ (a0 : List jan) : Option (RS jDf jDL) := juj a0
def jEr (a0 : List jan) : Bool := (jJJ a0).isSome
def q_z10 (a0 : List jan) : RS jDf jDL := RS.get (jJJ a0)
/-! z11: pack_Packet_Headsx135 -/
abbrev jDe : List EK := [.hs 6 0]
abbrev jDK : List HK := [.one false [.ptr 1 0 0, .hs 3 0, .ptr 4 0 0, .ty (.int .i64)], .one false [.hs 2 0], .row (.int .u8), .row jaq, .one false [.hs 5 0], .row (.int .u8), .row jaq]
def jOi (n : Nat) (a0 : Nat) (a1 : Int) (a2 : Nat) (a3 : (List Int)) (a4 : (List jan)) (a5 : Nat) (a6 : (List Int)) : Option Res :=
 let y1 := (q_z10 (cutL jak a4 0 a0))
 cond (jEr (cutL jak a4 0 a0))
 (some (jaa jDe jDK ((y1.1.1, ()), (((), (a0, ((), (a1, ())))), ((a2, ()), (a3, (a4, ((a5, ()), (a6, (y1.2.1, ()))))))))))
 (none)
def jMV (a0 a1 a2 a3 a4 a5 a6 : _) := jap jDe jDK (jOi FUEL a0 a1 a2 a3 a4 a5 a6)
def jow (a0 a1 a2 a3 a4 a5 a6 : _) := (jMV a0 a1 a2 a3 a4 a5 a6).isSome
def jBu (a0 a1 a2 a3 a4 a5 a6 : _) := RS.get (jMV a0 a1 a2 a3 a4 a5 a6)
/-! z12: turnoutref17_Heads -/
abbrev jsF : List EK := [.ty .bool]
abbrev jsV : List HK := []
def jrY (n : Nat) (k_r : Bool → Option Res) (k_t0 : Unit → Option Res) (x0_0 : (List jan)) (x0_1 : (List jan)) (rec : Int → Option Res) (x0_2 : Int) : Option Res :=
 cond (decide (x0_2 < (((List.length x0_0) : Nat) : Int)))
 (cond (decide ((0 : Int) ≤ x0_2 ∧ x0_2 < (((List.length x0_0) : Nat) : Int)))
 (cond (decide ((0 : Int) ≤ x0_2 ∧ x0_2 < (((List.length x0_1) : Nat) : Int)))
 (cond (!(((rdd jak x0_0 (Int.toNat x0_2)).1 == (rdd jak x0_1 (Int.toNat x0_2)).1) && (((rdd jak x0_0 (Int.toNat x0_2)).2.1 == (rdd jak x0_1 (Int.toNat x0_2)).2.1) && true)))
 (k_r false)
 (rec (IntKind.wrap .i64 (x0_2 + (1 : Int)))))
 (none))
 (none))
 (k_t0 ())
def jjX (n : Nat) (k_r : Bool → Option Res) (k_t0 : Unit → Option Res) (x0_0 : (List jan)) (x0_1 : (List jan)) : Nat → Int → Option Res
  | 0, _ => none
  | m + 1, x0_2 => jrY n k_r k_t0 x0_0 x0_1 (jjX n k_r k_t0 x0_0 x0_1 m) x0_2
def jOh (n : Nat) (a0 : (List jan)) (a1 : (List jan)) : Option Res :=
 cond ((((List.length a0) : Nat) : Int) != (((List.length a1) : Nat) : Int))
 (some (jaa jsF jsV ((false, ()), ())))
 (jjX n
  (fun y1 => some (jaa jsF jsV ((y1, ()), ())))
  (fun _ => some (jaa jsF jsV ((true, ()), ())))
  a0
  a1
  n
  (0 : Int))
def jJI (a0 a1 : _) := jap jsF jsV (jOh FUEL a0 a1)
def jov (a0 a1 : _) := (jJI a0 a1).isSome
def jBt (a0 a1 : _) := RS.get (jJI a0 a1)
/-! z13: pack_Packet_Portx135 -/
abbrev jDd : List EK := [.ty (.int .i64)]
abbrev jDJ : List HK := [.one false [.ptr 1 0 0, .hs 3 0, .ptr 4 0 0, .ty (.int .i64)], .one false [.hs 2 0], .row (.int .u8), .row jaq, .one false [.hs 5 0], .row (.int .u8)]
def M_z13 (n : Nat) (a0 : Nat) (a1 : Int) (a2 : Nat) (a3 : (List Int)) (a4 : (List jan)) (a5 : Nat) (a6 : (List Int)) : Option Res :=
 some (jaa jDd jDJ ((a1, ()), (((), (a0, ((), (a1, ())))), ((a2, ()), (a3, (a4, ((a5, ()), (a6, ()))))))))
def jMU (a0 a1 a2 a3 a4 a5 a6 : _) := jap jDd jDJ (M_z13 FUEL a0 a1 a2 a3 a4 a5 a6)
def jOR (a0 a1 a2 a3 a4 a5 a6 : _) := (jMU a0 a1 a2 a3 a4 a5 a6).isSome
def q_z13 (a0 a1 a2 a3 a4 a5 a6 : _) := RS.get (jMU a0 a1 a2 a3 a4 a5 a6)
/-! z14: turnoutlaw17_inHeader -/
abbrev jDc : List EK := [.agg jaT]
abbrev jDI : List HK := []
def M_z14 (n : Nat) (a0 : Int) (a1 : Int) (a2 : Int) : Option Res :=
 some (jaa jDc jDI ((((0 : Int), ((2 : Int), (a0, (a1, (a2, ()))))), ()), ()))
def Q_z14 (a0 a1 a2 : _) := jap jDc jDI (M_z14 FUEL a0 a1 a2)
def jyD (a0 a1 a2 : _) := (Q_z14 a0 a1 a2).isSome
def jLd (a0 a1 a2 : _) := RS.get (Q_z14 a0 a1 a2)
/-! z15: pack_Packet_placexc4b -/
abbrev jlu : List EK := [.ptr 1 0 0, .ty (.int .i64), .ty (.int .i64)]
abbrev jeF : List HK := [.one false [.ptr 1 0 0, .hs 3 0, .ptr 4 0 0, .ty (.int .i64)], .one false [.hs 2 0], .row (.int .u8), .row jaq, .one false [.hs 5 0], .row (.int .u8)]
abbrev jgj : List EK := [.ptr 4 0 0, .ty (.int .i64), .ty (.int .i64)]
abbrev jgn : List HK := [.one false [.ptr 1 0 0, .hs 3 0, .ptr 4 0 0, .ty (.int .i64)], .one false [.hs 2 0], .row (.int .u8), .row jaq, .one false [.hs 5 0], .row (.int .u8)]
abbrev jeS : List EK := [.nul 0, .ty (.int .i64), .ty (.int .i64)]
abbrev jeV : List HK := [.one false [.ptr 1 0 0, .hs 3 0, .ptr 4 0 0, .ty (.int .i64)], .one false [.hs 2 0], .row (.int .u8), .row jaq, .one false [.hs 5 0], .row (.int .u8)]
def jrX (n : Nat) (k_r : Int → Int → Option Res) (k_t1 : Unit → Option Res) (x1_0 : Nat) (x1_1 : Int) (x1_7 : (List jan)) (x1_10 : jaB) (rec : Int → Option Res) (x1_2 : Int) : Option Res :=
 cond (decide (x1_2 < x1_1))
 (cond (decide ((0 : Int) ≤ x1_2 ∧ x1_2 < ((x1_0 : Nat) : Int)))
 (cond ((rdd jak x1_7 (Int.toNat x1_2)).1 == x1_10.2.2.1)
 (k_r ((rdd jak x1_7 (Int.toNat x1_2)).2.1) (0 : Int))
 (rec (IntKind.wrap .i64 (x1_2 + (1 : Int)))))
 (none))
 (k_t1 ())
def jjW (n : Nat) (k_r : Int → Int → Option Res) (k_t1 : Unit → Option Res) (x1_0 : Nat) (x1_1 : Int) (x1_7 : (List jan)) (x1_10 : jaB) : Nat → Int → Option Res
  | 0, _ => none
  | m + 1, x1_2 => jrX n k_r k_t1 x1_0 x1_1 x1_7 x1_10 (jjW n k_r k_t1 x1_0 x1_1 x1_7 x1_10 m) x1_2
def jwO (n : Nat) (a0 : jaB) (a1 : Nat) (a2 : Int) (a3 : Nat) (a4 : (List Int)) (a5 : (List jan)) (a6 : Nat) (a7 : (List Int)) : Option Res :=
 cond (a0.2.1 == (1 : Int))
 (some (jaa jlu jeF (((), ((0 : Int), ((0 : Int), ()))), (((), (a1, ((), (a2, ())))), ((a3, ()), (a4, (a5, ((a6, ()), (a7, ())))))))))
 (cond (a0.2.1 == (3 : Int))
 (some (jaa jgj jgn (((), ((0 : Int), ((0 : Int), ()))), (((), (a1, ((), (a2, ())))), ((a3, ()), (a4, (a5, ((a6, ()), (a7, ())))))))))
 (cond (a0.2.1 == (2 : Int))
 (jjW n
  (fun y1 y2 => some (jaa jlu jeF (((), (y1, (y2, ()))), (((), (a1, ((), (a2, ())))), ((a3, ()), (a4, (a5, ((a6, ()), (a7, ())))))))))
  (fun _ => some (jaa jeS jeV (((), ((0 : Int), ((3 : Int), ()))), (((), (a1, ((), (a2, ())))), ((a3, ()), (a4, (a5, ((a6, ()), (a7, ())))))))))
  a1
  ((a1 : Nat) : Int)
  a5
  a0
  n
  (0 : Int))
 (some (jaa jeS jeV (((), ((0 : Int), ((3 : Int), ()))), (((), (a1, ((), (a2, ())))), ((a3, ()), (a4, (a5, ((a6, ()), (a7, ())))))))))))
def jus (a0 a1 a2 a3 a4 a5 a6 a7 : _) := jap jlu jeF (jwO FUEL a0 a1 a2 a3 a4 a5 a6 a7)
def jju (a0 a1 a2 a3 a4 a5 a6 a7 : _) := jap jgj jgn (jwO FUEL a0 a1 a2 a3 a4 a5 a6 a7)
def jcC (a0 a1 a2 a3 a4 a5 a6 a7 : _) := (jju a0 a1 a2 a3 a4 a5 a6 a7).isSome
def jgS (a0 a1 a2 a3 a4 a5 a6 a7 : _) := RS.get (jju a0 a1 a2 a3 a4 a5 a6 a7)
def jrj (a0 a1 a2 a3 a4 a5 a6 a7 : _) := jap jeS jeV (jwO FUEL a0 a1 a2 a3 a4 a5 a6 a7)
def jgr (a0 a1 a2 a3 a4 a5 a6 a7 : _) := (jrj a0 a1 a2 a3 a4 a5 a6 a7).isSome
def jjg (a0 a1 a2 a3 a4 a5 a6 a7 : _) := RS.get (jrj a0 a1 a2 a3 a4 a5 a6 a7)
def jes (a0 a1 a2 a3 a4 a5 a6 a7 : _) := (jus a0 a1 a2 a3 a4 a5 a6 a7).isSome
def jvl (a0 a1 a2 a3 a4 a5 a6 a7 : _) := RS.get (jus a0 a1 a2 a3 a4 a5 a6 a7)
/-! z16: pack_bit -/
abbrev jxy : List EK := [.ty (.int .i64)]
abbrev jyc : List HK := []
def jOg (n : Nat) (a0 : Int) (a1 : Int) : Option Res :=
 cond (decide (a1 < (0 : Int)))
 (some (jaa jxy jyc (((-1 : Int), ()), ())))
 (let y1 : Int := (IntKind.wrap .i64 ((IntKind.wrap .i64 ((8 : Int) * a0)) + (if (147456 : Int) < a1 then (147456 : Int) else a1)))
 some (jaa jxy jyc ((y1, ()), ())))
def jCb (a0 a1 : _) := jap jxy jyc (jOg FUEL a0 a1)
def jfp (a0 a1 : _) := (jCb a0 a1).isSome
def jkL (a0 a1 : _) := RS.get (jCb a0 a1)
/-! z17: buf_Buf_Getx845 -/
abbrev jDb : List EK := [.agg jaL, .ty (.int .i64)]
abbrev jDH : List HK := []
def M_z17 (n : Nat) (a0 : Int) (a1 : Int) : Option Res :=
 some (jaa jDb jDH ((((0 : Int), ((0 : Int), ())), ((2 : Int), ())), ()))
def Q_z17 (a0 a1 : _) := jap jDb jDH (M_z17 FUEL a0 a1)
def ok_z17 (a0 a1 : _) := (Q_z17 a0 a1).isSome
def q_z17 (a0 a1 : _) := RS.get (Q_z17 a0 a1)
/-! z18: buf_Buf_windowx37e -/
abbrev jkq : List EK := [.hs 1 0, .ty (.int .i64)]
abbrev jlI : List HK := [.one false [.hs 1 0], .row (.int .u8)]
abbrev jgi : List EK := [.hv 1, .ty (.int .i64)]
abbrev jgm : List HK := [.one false [.hs 1 0], .row (.int .u8)]
def jwN (n : Nat) (a0 : Int) (a1 : Int) (a2 : Nat) (a3 : (List Int)) : Option Res :=
 cond (decide (a0 < (0 : Int)))
 (some (jaa jkq jlI ((a2, ((0 : Int), ())), ((a2, ()), (a3, ())))))
 (cond (decide (a1 < (1 : Int)))
 (some (jaa jkq jlI ((a2, ((0 : Int), ())), ((a2, ()), (a3, ())))))
 (cond (decide (a1 > (128 : Int)))
 (some (jaa jkq jlI ((a2, ((0 : Int), ())), ((a2, ()), (a3, ())))))
 (cond (decide (a0 > (IntKind.wrap .i64 ((IntKind.wrap .i64 ((8 : Int) * ((a2 : Nat) : Int))) - a1))))
 (some (jaa jkq jlI ((a2, ((0 : Int), ())), ((a2, ()), (a3, ())))))
 (cond ((8 : Int) != 0)
 (cond ((8 : Int) != 0)
 (let y1 : Int := (IntKind.wrap .i64 (Int.tdiv (IntKind.wrap .i64 ((IntKind.wrap .i64 (a0 + a1)) + (7 : Int))) (8 : Int)))
 cond (decide ((0 : Int) ≤ (IntKind.wrap .i64 (Int.tdiv a0 (8 : Int))) ∧ (IntKind.wrap .i64 (Int.tdiv a0 (8 : Int))) ≤ y1 ∧ y1 ≤ ((a2 : Nat) : Int) ∧ ((a2 : Nat) : Int) ≤ ((a2 : Nat) : Int)))
 (some (jaa jgi jgm (((((0 + Int.toNat (IntKind.wrap .i64 (Int.tdiv a0 (8 : Int)))), (Int.toNat y1 - Int.toNat (IntKind.wrap .i64 (Int.tdiv a0 (8 : Int))))).1, ((0 + Int.toNat (IntKind.wrap .i64 (Int.tdiv a0 (8 : Int)))), (Int.toNat y1 - Int.toNat (IntKind.wrap .i64 (Int.tdiv a0 (8 : Int))))).2), ((IntKind.wrap .i64 (Int.tdiv a0 (8 : Int))), ())), ((a2, ()), (a3, ())))))
 (none))
 (none))
 (none)))))
def jCa (a0 a1 a2 a3 : _) := jap jkq jlI (jwN FUEL a0 a1 a2 a3)
def jri (a0 a1 a2 a3 : _) := jap jgi jgm (jwN FUEL a0 a1 a2 a3)
def jkQ (a0 a1 a2 a3 : _) := (jri a0 a1 a2 a3).isSome
def jpO (a0 a1 a2 a3 : _) := RS.get (jri a0 a1 a2 a3)
def jkv (a0 a1 a2 a3 : _) := (jCa a0 a1 a2 a3).isSome
def jBs (a0 a1 a2 a3 : _) := RS.get (jCa a0 a1 a2 a3)
/-! z19: buf_Buf_Getx37e -/
abbrev jxx : List EK := [.agg jaL, .ty (.int .i64)]
abbrev jyb : List HK := [.one false [.hs 1 0], .row (.int .u8)]
def jOf (n : Nat) (a0 : Int) (a1 : Int) (a2 : Nat) (a3 : (List Int)) : Option Res :=
 let y3 := (jBs a0 a1 a2 a3)
 cond (jkv a0 a1 a2 a3)
 (let y4 := (jvm (bytesOf (cutL (0 : Int) y3.2.2.1 0 y3.1.1)) (IntKind.wrap .i64 (a0 - (IntKind.wrap .i64 ((8 : Int) * y3.1.2.1)))) a1)
 cond (jmd (bytesOf (cutL (0 : Int) y3.2.2.1 0 y3.1.1)) (IntKind.wrap .i64 (a0 - (IntKind.wrap .i64 ((8 : Int) * y3.1.2.1)))) a1)
 (some (jaa jxx jyb ((y4.1.1, (y4.1.2.1, ())), ((y3.2.1.1, ()), (y3.2.2.1, ())))))
 (none))
 (let y1 := (jpO a0 a1 a2 a3)
 cond (jkQ a0 a1 a2 a3)
 (let y2 := (jvm (bytesOf (cutL (0 : Int) y1.2.2.1 y1.1.1.1 y1.1.1.2)) (IntKind.wrap .i64 (a0 - (IntKind.wrap .i64 ((8 : Int) * y1.1.2.1)))) a1)
 cond (jmd (bytesOf (cutL (0 : Int) y1.2.2.1 y1.1.1.1 y1.1.1.2)) (IntKind.wrap .i64 (a0 - (IntKind.wrap .i64 ((8 : Int) * y1.1.2.1)))) a1)
 (some (jaa jxx jyb ((y2.1.1, (y2.1.2.1, ())), ((y1.2.1.1, ()), (y1.2.2.1, ())))))
 (none))
 (none))
def jMT (a0 a1 a2 a3 : _) := jap jxx jyb (jOf FUEL a0 a1 a2 a3)
def jyC (a0 a1 a2 a3 : _) := (jMT a0 a1 a2 a3).isSome
def jLc (a0 a1 a2 a3 : _) := RS.get (jMT a0 a1 a2 a3)
/-! z1a: pack_Packet_Getxc4b -/
abbrev jfw : List EK := [.agg jaL, .ty (.int .i64)]
abbrev jfz : List HK := [.one false [.ptr 1 0 0, .hs 3 0, .ptr 4 0 0, .ty (.int .i64)], .one false [.hs 2 0], .row (.int .u8), .row jaq, .one false [.hs 5 0], .row (.int .u8)]
def jOe (n : Nat) (a0 : jaB) (a1 : Nat) (a2 : Int) (a3 : Nat) (a4 : (List Int)) (a5 : (List jan)) (a6 : Nat) (a7 : (List Int)) : Option Res :=
 let y7 := (jvl a0 a1 a2 a3 a4 a5 a6 a7)
 cond (jes a0 a1 a2 a3 a4 a5 a6 a7)
 (cond (y7.1.2.2.1 != (0 : Int))
 (some (jaa jfw jfz ((((0 : Int), ((0 : Int), ())), (y7.1.2.2.1, ())), (((), (y7.2.1.2.1, ((), (y7.2.1.2.2.2.1, ())))), ((y7.2.2.1.1, ()), (y7.2.2.2.1, (y7.2.2.2.2.1, ((y7.2.2.2.2.2.1.1, ()), (y7.2.2.2.2.2.2.1, ())))))))))
 (let y8 := (jkL y7.1.2.1 a0.2.2.2.1)
 cond (jfp y7.1.2.1 a0.2.2.2.1)
 (let y9 := (jLc y8.1.1 a0.2.2.2.2.1 y7.2.2.1.1 y7.2.2.2.1)
 cond (jyC y8.1.1 a0.2.2.2.2.1 y7.2.2.1.1 y7.2.2.2.1)
 (cond (y9.1.2.1 != (0 : Int))
 (some (jaa jfw jfz ((((0 : Int), ((0 : Int), ())), ((1 : Int), ())), (((), (y7.2.1.2.1, ((), (y7.2.1.2.2.2.1, ())))), ((y9.2.1.1, ()), (y9.2.2.1, (y7.2.2.2.2.1, ((y7.2.2.2.2.2.1.1, ()), (y7.2.2.2.2.2.2.1, ())))))))))
 (some (jaa jfw jfz ((y9.1.1, ((0 : Int), ())), (((), (y7.2.1.2.1, ((), (y7.2.1.2.2.2.1, ())))), ((y9.2.1.1, ()), (y9.2.2.1, (y7.2.2.2.2.1, ((y7.2.2.2.2.2.1.1, ()), (y7.2.2.2.2.2.2.1, ()))))))))))
 (none))
 (none)))
 (let y4 := (jgS a0 a1 a2 a3 a4 a5 a6 a7)
 cond (jcC a0 a1 a2 a3 a4 a5 a6 a7)
 (cond (y4.1.2.2.1 != (0 : Int))
 (some (jaa jfw jfz ((((0 : Int), ((0 : Int), ())), (y4.1.2.2.1, ())), (((), (y4.2.1.2.1, ((), (y4.2.1.2.2.2.1, ())))), ((y4.2.2.1.1, ()), (y4.2.2.2.1, (y4.2.2.2.2.1, ((y4.2.2.2.2.2.1.1, ()), (y4.2.2.2.2.2.2.1, ())))))))))
 (let y5 := (jkL y4.1.2.1 a0.2.2.2.1)
 cond (jfp y4.1.2.1 a0.2.2.2.1)
 (let y6 := (jLc y5.1.1 a0.2.2.2.2.1 y4.2.2.2.2.2.1.1 y4.2.2.2.2.2.2.1)
 cond (jyC y5.1.1 a0.2.2.2.2.1 y4.2.2.2.2.2.1.1 y4.2.2.2.2.2.2.1)
 (cond (y6.1.2.1 != (0 : Int))
 (some (jaa jfw jfz ((((0 : Int), ((0 : Int), ())), ((1 : Int), ())), (((), (y4.2.1.2.1, ((), (y4.2.1.2.2.2.1, ())))), ((y4.2.2.1.1, ()), (y4.2.2.2.1, (y4.2.2.2.2.1, ((y6.2.1.1, ()), (y6.2.2.1, ())))))))))
 (some (jaa jfw jfz ((y6.1.1, ((0 : Int), ())), (((), (y4.2.1.2.1, ((), (y4.2.1.2.2.2.1, ())))), ((y4.2.2.1.1, ()), (y4.2.2.2.1, (y4.2.2.2.2.1, ((y6.2.1.1, ()), (y6.2.2.1, ()))))))))))
 (none))
 (none)))
 (let y1 := (jjg a0 a1 a2 a3 a4 a5 a6 a7)
 cond (jgr a0 a1 a2 a3 a4 a5 a6 a7)
 (cond (y1.1.2.2.1 != (0 : Int))
 (some (jaa jfw jfz ((((0 : Int), ((0 : Int), ())), (y1.1.2.2.1, ())), (((), (y1.2.1.2.1, ((), (y1.2.1.2.2.2.1, ())))), ((y1.2.2.1.1, ()), (y1.2.2.2.1, (y1.2.2.2.2.1, ((y1.2.2.2.2.2.1.1, ()), (y1.2.2.2.2.2.2.1, ())))))))))
 (let y2 := (jkL y1.1.2.1 a0.2.2.2.1)
 cond (jfp y1.1.2.1 a0.2.2.2.1)
 (let y3 := (q_z17 y2.1.1 a0.2.2.2.2.1)
 cond (ok_z17 y2.1.1 a0.2.2.2.2.1)
 (cond (y3.1.2.1 != (0 : Int))
 (some (jaa jfw jfz ((((0 : Int), ((0 : Int), ())), ((1 : Int), ())), (((), (y1.2.1.2.1, ((), (y1.2.1.2.2.2.1, ())))), ((y1.2.2.1.1, ()), (y1.2.2.2.1, (y1.2.2.2.2.1, ((y1.2.2.2.2.2.1.1, ()), (y1.2.2.2.2.2.2.1, ())))))))))
 (some (jaa jfw jfz ((y3.1.1, ((0 : Int), ())), (((), (y1.2.1.2.1, ((), (y1.2.1.2.2.2.1, ())))), ((y1.2.2.1.1, ()), (y1.2.2.2.1, (y1.2.2.2.2.1, ((y1.2.2.2.2.2.1.1, ()), (y1.2.2.2.2.2.2.1, ()))))))))))
 (none))
 (none)))
 (none)))
def jMS (a0 a1 a2 a3 a4 a5 a6 a7 : _) := jap jfw jfz (jOe FUEL a0 a1 a2 a3 a4 a5 a6 a7)
def jou (a0 a1 a2 a3 a4 a5 a6 a7 : _) := (jMS a0 a1 a2 a3 a4 a5 a6 a7).isSome
def jBr (a0 a1 a2 a3 a4 a5 a6 a7 : _) := RS.get (jMS a0 a1 a2 a3 a4 a5 a6 a7)
/-! z1b: buf_Buf_Lenxd13 -/
abbrev jsE : List EK := [.ty (.int .i64)]
abbrev jsU : List HK := []
def M_z1b (n : Nat) : Option Res :=
 some (jaa jsE jsU (((0 : Int), ()), ()))
def Q_z1b : Option (RS jsE jsU) := jap jsE jsU (M_z1b FUEL)
def ok_z1b : Bool := (Q_z1b).isSome
def q_z1b : RS jsE jsU := RS.get (Q_z1b)
/-! z1c: pack_atx5f6 -/
abbrev jsD : List EK := [.ty (.int .i64), .ty (.int .i64)]
abbrev jsT : List HK := []
def M_z1c (n : Nat) (a0 : Int) (a1 : jaB) : Option Res :=
 cond (decide (a1.2.2.2.1 < (0 : Int)))
 (some (jaa jsD jsT (((0 : Int), ((1 : Int), ())), ())))
 (cond ((8 : Int) != 0)
 (let y1 := q_z1b
 cond ok_z1b
 (cond (decide ((IntKind.wrap .i64 (Int.tdiv a1.2.2.2.1 (8 : Int))) > (IntKind.wrap .i64 (y1.1.1 - a0))))
 (some (jaa jsD jsT (((0 : Int), ((1 : Int), ())), ())))
 (cond ((8 : Int) != 0)
 (some (jaa jsD jsT (((IntKind.wrap .i64 (a0 + (IntKind.wrap .i64 (Int.tdiv a1.2.2.2.1 (8 : Int))))), ((0 : Int), ())), ())))
 (none)))
 (none))
 (none))
def Q_z1c (a0 a1 : _) := jap jsD jsT (M_z1c FUEL a0 a1)
def ok_z1c (a0 a1 : _) := (Q_z1c a0 a1).isSome
def q_z1c (a0 a1 : _) := RS.get (Q_z1c a0 a1)
/-! z1d: buf_Buf_Lenx455 -/
abbrev jDa : List EK := [.ty (.int .i64)]
abbrev jDG : List HK := [.one false [.hs 1 0], .row (.int .u8)]
def M_z1d (n : Nat) (a0 : Nat) (a1 : (List Int)) : Option Res :=
 some (jaa jDa jDG ((((a0 : Nat) : Int), ()), ((a0, ()), (a1, ()))))
def jMR (a0 a1 : _) := jap jDa jDG (M_z1d FUEL a0 a1)
def jyB (a0 a1 : _) := (jMR a0 a1).isSome
def jLb (a0 a1 : _) := RS.get (jMR a0 a1)
/-! z1e: pack_atxd47 -/
abbrev jsC : List EK := [.ty (.int .i64), .ty (.int .i64)]
abbrev jsS : List HK := [.one false [.hs 1 0], .row (.int .u8)]
def jOd (n : Nat) (a0 : Int) (a1 : jaB) (a2 : Nat) (a3 : (List Int)) : Option Res :=
 cond (decide (a1.2.2.2.1 < (0 : Int)))
 (some (jaa jsC jsS (((0 : Int), ((1 : Int), ())), ((a2, ()), (a3, ())))))
 (cond ((8 : Int) != 0)
 (let y1 := (jLb a2 a3)
 cond (jyB a2 a3)
 (cond (decide ((IntKind.wrap .i64 (Int.tdiv a1.2.2.2.1 (8 : Int))) > (IntKind.wrap .i64 (y1.1.1 - a0))))
 (some (jaa jsC jsS (((0 : Int), ((1 : Int), ())), ((y1.2.1.1, ()), (y1.2.2.1, ())))))
 (cond ((8 : Int) != 0)
 (some (jaa jsC jsS (((IntKind.wrap .i64 (a0 + (IntKind.wrap .i64 (Int.tdiv a1.2.2.2.1 (8 : Int))))), ((0 : Int), ())), ((y1.2.1.1, ()), (y1.2.2.1, ())))))
 (none)))
 (none))
 (none))
def jMQ (a0 a1 a2 a3 : _) := jap jsC jsS (jOd FUEL a0 a1 a2 a3)
def jyA (a0 a1 a2 a3 : _) := (jMQ a0 a1 a2 a3).isSome
def jLa (a0 a1 a2 a3 : _) := RS.get (jMQ a0 a1 a2 a3)
/-! z1f: pack_Packet_Atxc4b -/
abbrev jkp : List EK := [.ty (.int .i64), .ty (.int .i64)]
abbrev jkr : List HK := [.one false [.ptr 1 0 0, .hs 3 0, .ptr 4 0 0, .ty (.int .i64)], .one false [.hs 2 0], .row (.int .u8), .row jaq, .one false [.hs 5 0], .row (.int .u8)]
def jOc (n : Nat) (a0 : jaB) (a1 : Nat) (a2 : Int) (a3 : Nat) (a4 : (List Int)) (a5 : (List jan)) (a6 : Nat) (a7 : (List Int)) : Option Res :=
 let y5 := (jvl a0 a1 a2 a3 a4 a5 a6 a7)
 cond (jes a0 a1 a2 a3 a4 a5 a6 a7)
 (cond (y5.1.2.2.1 != (0 : Int))
 (some (jaa jkp jkr (((0 : Int), (y5.1.2.2.1, ())), (((), (y5.2.1.2.1, ((), (y5.2.1.2.2.2.1, ())))), ((y5.2.2.1.1, ()), (y5.2.2.2.1, (y5.2.2.2.2.1, ((y5.2.2.2.2.2.1.1, ()), (y5.2.2.2.2.2.2.1, ())))))))))
 (let y6 := (jLa y5.1.2.1 a0 y5.2.2.1.1 y5.2.2.2.1)
 cond (jyA y5.1.2.1 a0 y5.2.2.1.1 y5.2.2.2.1)
 (some (jaa jkp jkr ((y6.1.1, (y6.1.2.1, ())), (((), (y5.2.1.2.1, ((), (y5.2.1.2.2.2.1, ())))), ((y6.2.1.1, ()), (y6.2.2.1, (y5.2.2.2.2.1, ((y5.2.2.2.2.2.1.1, ()), (y5.2.2.2.2.2.2.1, ())))))))))
 (none)))
 (let y3 := (jgS a0 a1 a2 a3 a4 a5 a6 a7)
 cond (jcC a0 a1 a2 a3 a4 a5 a6 a7)
 (cond (y3.1.2.2.1 != (0 : Int))
 (some (jaa jkp jkr (((0 : Int), (y3.1.2.2.1, ())), (((), (y3.2.1.2.1, ((), (y3.2.1.2.2.2.1, ())))), ((y3.2.2.1.1, ()), (y3.2.2.2.1, (y3.2.2.2.2.1, ((y3.2.2.2.2.2.1.1, ()), (y3.2.2.2.2.2.2.1, ())))))))))
 (let y4 := (jLa y3.1.2.1 a0 y3.2.2.2.2.2.1.1 y3.2.2.2.2.2.2.1)
 cond (jyA y3.1.2.1 a0 y3.2.2.2.2.2.1.1 y3.2.2.2.2.2.2.1)
 (some (jaa jkp jkr ((y4.1.1, (y4.1.2.1, ())), (((), (y3.2.1.2.1, ((), (y3.2.1.2.2.2.1, ())))), ((y3.2.2.1.1, ()), (y3.2.2.2.1, (y3.2.2.2.2.1, ((y4.2.1.1, ()), (y4.2.2.1, ())))))))))
 (none)))
 (let y1 := (jjg a0 a1 a2 a3 a4 a5 a6 a7)
 cond (jgr a0 a1 a2 a3 a4 a5 a6 a7)
 (cond (y1.1.2.2.1 != (0 : Int))
 (some (jaa jkp jkr (((0 : Int), (y1.1.2.2.1, ())), (((), (y1.2.1.2.1, ((), (y1.2.1.2.2.2.1, ())))), ((y1.2.2.1.1, ()), (y1.2.2.2.1, (y1.2.2.2.2.1, ((y1.2.2.2.2.2.1.1, ()), (y1.2.2.2.2.2.2.1, ())))))))))
 (let y2 := (q_z1c y1.1.2.1 a0)
 cond (ok_z1c y1.1.2.1 a0)
 (some (jaa jkp jkr ((y2.1.1, (y2.1.2.1, ())), (((), (y1.2.1.2.1, ((), (y1.2.1.2.2.2.1, ())))), ((y1.2.2.1.1, ()), (y1.2.2.2.1, (y1.2.2.2.2.1, ((y1.2.2.2.2.2.1.1, ()), (y1.2.2.2.2.2.2.1, ())))))))))
 (none)))
 (none)))
def jMP (a0 a1 a2 a3 a4 a5 a6 a7 : _) := jap jkp jkr (jOc FUEL a0 a1 a2 a3 a4 a5 a6 a7)
def jEq (a0 a1 a2 a3 a4 a5 a6 a7 : _) := (jMP a0 a1 a2 a3 a4 a5 a6 a7).isSome
def q_z1f (a0 a1 a2 a3 a4 a5 a6 a7 : _) := RS.get (jMP a0 a1 a2 a3 a4 a5 a6 a7)
/-! z1g: pack_Packet_spotxc4b -/
abbrev jxw : List EK := [.ty (.int .i64), .ty (.int .i64)]
abbrev jya : List HK := [.one false [.ptr 1 0 0, .hs 3 0, .ptr 4 0 0, .ty (.int .i64)], .one false [.hs 2 0], .row (.int .u8), .row jaq, .one false [.hs 5 0], .row (.int .u8)]
def jOb (n : Nat) (a0 : jaB) (a1 : Nat) (a2 : Int) (a3 : Nat) (a4 : (List Int)) (a5 : (List jan)) (a6 : Nat) (a7 : (List Int)) : Option Res :=
 cond (a0.2.1 == (3 : Int))
 (some (jaa jxw jya (((0 : Int), ((3 : Int), ())), (((), (a1, ((), (a2, ())))), ((a3, ()), (a4, (a5, ((a6, ()), (a7, ())))))))))
 (let y1 := (q_z1f a0 a1 a2 a3 a4 a5 a6 a7)
 cond (jEq a0 a1 a2 a3 a4 a5 a6 a7)
 (some (jaa jxw jya ((y1.1.1, (y1.1.2.1, ())), (((), (y1.2.1.2.1, ((), (y1.2.1.2.2.2.1, ())))), ((y1.2.2.1.1, ()), (y1.2.2.2.1, (y1.2.2.2.2.1, ((y1.2.2.2.2.2.1.1, ()), (y1.2.2.2.2.2.2.1, ())))))))))
 (none))
def jMO (a0 a1 a2 a3 a4 a5 a6 a7 : _) := jap jxw jya (jOb FUEL a0 a1 a2 a3 a4 a5 a6 a7)
def jku (a0 a1 a2 a3 a4 a5 a6 a7 : _) := (jMO a0 a1 a2 a3 a4 a5 a6 a7).isSome
def jte (a0 a1 a2 a3 a4 a5 a6 a7 : _) := RS.get (jMO a0 a1 a2 a3 a4 a5 a6 a7)
/-! z1h: buf_Buf_offx37e -/
abbrev jlt : List EK := [.ty (.int .i64)]
abbrev jlH : List HK := [.one false [.hs 1 0], .row (.int .u8)]
def jCo (n : Nat) (a0 : Int) (a1 : Int) (a2 : Nat) (a3 : (List Int)) : Option Res :=
 cond (decide (a0 < (0 : Int)))
 (some (jaa jlt jlH (((1 : Int), ()), ((a2, ()), (a3, ())))))
 (cond (decide (a1 < (0 : Int)))
 (some (jaa jlt jlH (((1 : Int), ()), ((a2, ()), (a3, ())))))
 (cond (decide (a0 > ((a2 : Nat) : Int)))
 (some (jaa jlt jlH (((4 : Int), ()), ((a2, ()), (a3, ())))))
 (cond (decide (a1 > (IntKind.wrap .i64 (((a2 : Nat) : Int) - a0))))
 (some (jaa jlt jlH (((4 : Int), ()), ((a2, ()), (a3, ())))))
 (some (jaa jlt jlH (((0 : Int), ()), ((a2, ()), (a3, ()))))))))
def jBZ (a0 a1 a2 a3 : _) := jap jlt jlH (jCo FUEL a0 a1 a2 a3)
def jfJ (a0 a1 a2 a3 : _) := (jBZ a0 a1 a2 a3).isSome
def jtd (a0 a1 a2 a3 : _) := RS.get (jBZ a0 a1 a2 a3)
/-! z1i: buf_Buf_Insertx37e -/
abbrev jls : List EK := [.ty (.int .i64)]
abbrev jlG : List HK := [.one false [.hs 1 0], .row (.int .u8)]
abbrev jcB : List EK := [.ty (.int .i64)]
abbrev jcn : List HK := [.one false [.hs 2 0], .row (.int .u8), .row (.int .u8)]
def jjw (n : Nat) (a0 : Int) (a1 : Int) (a2 : Nat) (a3 : (List Int)) : Option Res :=
 let y1 := (jtd a0 (if (0 : Int) < a1 then (0 : Int) else a1) a2 a3)
 cond (jfJ a0 (if (0 : Int) < a1 then (0 : Int) else a1) a2 a3)
 (cond (y1.1.1 != (0 : Int))
 (some (jaa jls jlG ((y1.1.1, ()), ((y1.2.1.1, ()), (y1.2.2.1, ())))))
 (cond (decide (a1 > (IntKind.wrap .i64 ((9216 : Int) - ((y1.2.1.1 : Nat) : Int)))))
 (some (jaa jls jlG (((5 : Int), ()), ((y1.2.1.1, ()), (y1.2.2.1, ())))))
 (cond (decide ((0 : Int) ≤ (0 : Int) ∧ (0 : Int) ≤ a0 ∧ a0 ≤ a0 ∧ a0 ≤ ((y1.2.1.1 : Nat) : Int)))
 (cond (a0 == a0)
 (cond (decide ((0 : Int) ≤ a0 ∧ a0 ≤ ((y1.2.1.1 : Nat) : Int) ∧ ((y1.2.1.1 : Nat) : Int) ≤ ((y1.2.1.1 : Nat) : Int) ∧ ((y1.2.1.1 : Nat) : Int) ≤ ((y1.2.1.1 : Nat) : Int)))
 (cond (decide ((0 : Int) ≤ a1))
 (cond ((Int.toNat a0 - Int.toNat (0 : Int)) == 0)
 (cond (decide ((0 + (List.length (mkL (Int.toNat a1) (fun _ => (0 : Int))))) * 1 ≤ 2 ^ 46 ∧ (0 + (List.length (mkL (Int.toNat a1) (fun _ => (0 : Int))))) ≤ 2 ^ 46))
 (cond (decide (((List.length (cutL (0 : Int) (mkL (Int.toNat a1) (fun _ => (0 : Int))) 0 (0 + (List.length (mkL (Int.toNat a1) (fun _ => (0 : Int))))))) + (List.length (cutL (0 : Int) y1.2.2.1 (0 + Int.toNat a0) (Int.toNat ((y1.2.1.1 : Nat) : Int) - Int.toNat a0)))) * 1 ≤ 2 ^ 46 ∧ ((List.length (cutL (0 : Int) (mkL (Int.toNat a1) (fun _ => (0 : Int))) 0 (0 + (List.length (mkL (Int.toNat a1) (fun _ => (0 : Int))))))) + (List.length (cutL (0 : Int) y1.2.2.1 (0 + Int.toNat a0) (Int.toNat ((y1.2.1.1 : Nat) : Int) - Int.toNat a0)))) ≤ 2 ^ 46))
 (some (jaa jcB jcn (((0 : Int), ()), ((((List.length (cutL (0 : Int) (mkL (Int.toNat a1) (fun _ => (0 : Int))) 0 (0 + (List.length (mkL (Int.toNat a1) (fun _ => (0 : Int))))))) + (List.length (cutL (0 : Int) y1.2.2.1 (0 + Int.toNat a0) (Int.toNat ((y1.2.1.1 : Nat) : Int) - Int.toNat a0)))), ()), (y1.2.2.1, (((cutL (0 : Int) (mkL (Int.toNat a1) (fun _ => (0 : Int))) 0 (0 + (List.length (mkL (Int.toNat a1) (fun _ => (0 : Int)))))) ++ (cutL (0 : Int) y1.2.2.1 (0 + Int.toNat a0) (Int.toNat ((y1.2.1.1 : Nat) : Int) - Int.toNat a0))), ()))))))
 (none))
 (none))
 (cond ((List.length (mkL (Int.toNat a1) (fun _ => (0 : Int)))) == 0)
 (cond ((Int.toNat a0 - Int.toNat (0 : Int)) == 0)
 (cond (decide ((0 + (List.length (cutL (0 : Int) y1.2.2.1 (0 + Int.toNat a0) (Int.toNat ((y1.2.1.1 : Nat) : Int) - Int.toNat a0)))) * 1 ≤ 2 ^ 46 ∧ (0 + (List.length (cutL (0 : Int) y1.2.2.1 (0 + Int.toNat a0) (Int.toNat ((y1.2.1.1 : Nat) : Int) - Int.toNat a0)))) ≤ 2 ^ 46))
 (some (jaa jcB jcn (((0 : Int), ()), (((0 + (List.length (cutL (0 : Int) y1.2.2.1 (0 + Int.toNat a0) (Int.toNat ((y1.2.1.1 : Nat) : Int) - Int.toNat a0)))), ()), (y1.2.2.1, ((cutL (0 : Int) y1.2.2.1 (0 + Int.toNat a0) (Int.toNat ((y1.2.1.1 : Nat) : Int) - Int.toNat a0)), ()))))))
 (none))
 (cond ((List.length (cutL (0 : Int) y1.2.2.1 (0 + Int.toNat a0) (Int.toNat ((y1.2.1.1 : Nat) : Int) - Int.toNat a0))) == 0)
 (some (jaa jls jlG (((0 : Int), ()), (((Int.toNat a0 - Int.toNat (0 : Int)), ()), (y1.2.2.1, ())))))
 (cond (decide (((List.length (cutL (0 : Int) y1.2.2.1 0 (Int.toNat a0 - Int.toNat (0 : Int)))) + (List.length (cutL (0 : Int) y1.2.2.1 (0 + Int.toNat a0) (Int.toNat ((y1.2.1.1 : Nat) : Int) - Int.toNat a0)))) * 1 ≤ 2 ^ 46 ∧ ((List.length (cutL (0 : Int) y1.2.2.1 0 (Int.toNat a0 - Int.toNat (0 : Int)))) + (List.length (cutL (0 : Int) y1.2.2.1 (0 + Int.toNat a0) (Int.toNat ((y1.2.1.1 : Nat) : Int) - Int.toNat a0)))) ≤ 2 ^ 46))
 (some (jaa jcB jcn (((0 : Int), ()), ((((List.length (cutL (0 : Int) y1.2.2.1 0 (Int.toNat a0 - Int.toNat (0 : Int)))) + (List.length (cutL (0 : Int) y1.2.2.1 (0 + Int.toNat a0) (Int.toNat ((y1.2.1.1 : Nat) : Int) - Int.toNat a0)))), ()), (y1.2.2.1, (((cutL (0 : Int) y1.2.2.1 0 (Int.toNat a0 - Int.toNat (0 : Int))) ++ (cutL (0 : Int) y1.2.2.1 (0 + Int.toNat a0) (Int.toNat ((y1.2.1.1 : Nat) : Int) - Int.toNat a0))), ()))))))
 (none))))
 (cond (decide (((List.length (cutL (0 : Int) y1.2.2.1 0 (Int.toNat a0 - Int.toNat (0 : Int)))) + (List.length (mkL (Int.toNat a1) (fun _ => (0 : Int))))) * 1 ≤ 2 ^ 46 ∧ ((List.length (cutL (0 : Int) y1.2.2.1 0 (Int.toNat a0 - Int.toNat (0 : Int)))) + (List.length (mkL (Int.toNat a1) (fun _ => (0 : Int))))) ≤ 2 ^ 46))
 (cond (decide (((List.length (cutL (0 : Int) ((cutL (0 : Int) y1.2.2.1 0 (Int.toNat a0 - Int.toNat (0 : Int))) ++ (mkL (Int.toNat a1) (fun _ => (0 : Int)))) 0 ((List.length (cutL (0 : Int) y1.2.2.1 0 (Int.toNat a0 - Int.toNat (0 : Int)))) + (List.length (mkL (Int.toNat a1) (fun _ => (0 : Int))))))) + (List.length (cutL (0 : Int) y1.2.2.1 (0 + Int.toNat a0) (Int.toNat ((y1.2.1.1 : Nat) : Int) - Int.toNat a0)))) * 1 ≤ 2 ^ 46 ∧ ((List.length (cutL (0 : Int) ((cutL (0 : Int) y1.2.2.1 0 (Int.toNat a0 - Int.toNat (0 : Int))) ++ (mkL (Int.toNat a1) (fun _ => (0 : Int)))) 0 ((List.length (cutL (0 : Int) y1.2.2.1 0 (Int.toNat a0 - Int.toNat (0 : Int)))) + (List.length (mkL (Int.toNat a1) (fun _ => (0 : Int))))))) + (List.length (cutL (0 : Int) y1.2.2.1 (0 + Int.toNat a0) (Int.toNat ((y1.2.1.1 : Nat) : Int) - Int.toNat a0)))) ≤ 2 ^ 46))
 (some (jaa jcB jcn (((0 : Int), ()), ((((List.length (cutL (0 : Int) ((cutL (0 : Int) y1.2.2.1 0 (Int.toNat a0 - Int.toNat (0 : Int))) ++ (mkL (Int.toNat a1) (fun _ => (0 : Int)))) 0 ((List.length (cutL (0 : Int) y1.2.2.1 0 (Int.toNat a0 - Int.toNat (0 : Int)))) + (List.length (mkL (Int.toNat a1) (fun _ => (0 : Int))))))) + (List.length (cutL (0 : Int) y1.2.2.1 (0 + Int.toNat a0) (Int.toNat ((y1.2.1.1 : Nat) : Int) - Int.toNat a0)))), ()), (y1.2.2.1, (((cutL (0 : Int) ((cutL (0 : Int) y1.2.2.1 0 (Int.toNat a0 - Int.toNat (0 : Int))) ++ (mkL (Int.toNat a1) (fun _ => (0 : Int)))) 0 ((List.length (cutL (0 : Int) y1.2.2.1 0 (Int.toNat a0 - Int.toNat (0 : Int)))) + (List.length (mkL (Int.toNat a1) (fun _ => (0 : Int)))))) ++ (cutL (0 : Int) y1.2.2.1 (0 + Int.toNat a0) (Int.toNat ((y1.2.1.1 : Nat) : Int) - Int.toNat a0))), ()))))))
 (none))
 (none))))
 (none))
 (none))
 (cond (decide ((0 : Int) ≤ a0 ∧ a0 ≤ ((y1.2.1.1 : Nat) : Int) ∧ ((y1.2.1.1 : Nat) : Int) ≤ ((y1.2.1.1 : Nat) : Int) ∧ ((y1.2.1.1 : Nat) : Int) ≤ ((y1.2.1.1 : Nat) : Int)))
 (none)
 (none)))
 (none))))
 (none)
def jrh (a0 a1 a2 a3 : _) := jap jls jlG (jjw FUEL a0 a1 a2 a3)
def jrg (a0 a1 a2 a3 : _) := jap jcB jcn (jjw FUEL a0 a1 a2 a3)
def jyy (a0 a1 a2 a3 : _) := (jrg a0 a1 a2 a3).isSome
def jEd (a0 a1 a2 a3 : _) := RS.get (jrg a0 a1 a2 a3)
def jyz (a0 a1 a2 a3 : _) := (jrh a0 a1 a2 a3).isSome
def q_z1i (a0 a1 a2 a3 : _) := RS.get (jrh a0 a1 a2 a3)
/-! z1j: pack_body_movex3a1 -/
abbrev jxv : List EK := []
abbrev jxZ : List HK := [.one false [.ptr 1 0 0, .hs 3 0, .ptr 4 0 0, .ty (.int .i64)], .one false [.hs 2 0], .row (.int .u8), .row jaq, .one false [.hs 5 0], .row (.int .u8)]
def jrW (n : Nat) (k_t0 : (List jan) → Option Res) (x0_0 : Int) (x0_1 : Int) (x0_2 : Nat) (x0_3 : Int) (x0_5 : Nat) (rec : Int → (List jan) → Option Res) (x0_4 : Int) (x0_9 : (List jan)) : Option Res :=
 cond (decide (x0_4 < x0_3))
 (cond (decide ((0 : Int) ≤ x0_4 ∧ x0_4 < ((x0_2 : Nat) : Int)))
 (cond (decide ((rdd jak x0_9 (Int.toNat x0_4)).2.1 ≥ x0_0))
 (cond (decide ((0 : Int) ≤ x0_4 ∧ x0_4 < ((x0_5 : Nat) : Int)))
 (cond (decide ((0 : Int) ≤ x0_4 ∧ x0_4 < ((x0_5 : Nat) : Int)))
 (rec (IntKind.wrap .i64 (x0_4 + (1 : Int))) (List.set x0_9 (Int.toNat x0_4) ((rdd jak x0_9 (Int.toNat x0_4)).1, ((IntKind.wrap .i64 ((rdd jak x0_9 (Int.toNat x0_4)).2.1 + x0_1)), ()))))
 (none))
 (none))
 (rec (IntKind.wrap .i64 (x0_4 + (1 : Int))) x0_9))
 (none))
 (k_t0 x0_9)
def jjV (n : Nat) (k_t0 : (List jan) → Option Res) (x0_0 : Int) (x0_1 : Int) (x0_2 : Nat) (x0_3 : Int) (x0_5 : Nat) : Nat → Int → (List jan) → Option Res
  | 0, _, _ => none
  | m + 1, x0_4, x0_9 => jrW n k_t0 x0_0 x0_1 x0_2 x0_3 x0_5 (jjV n k_t0 x0_0 x0_1 x0_2 x0_3 x0_5 m) x0_4 x0_9
def jOa (n : Nat) (a0 : Int) (a1 : Int) (a2 : Nat) (a3 : Int) (a4 : Nat) (a5 : (List Int)) (a6 : (List jan)) (a7 : Nat) (a8 : (List Int)) : Option Res :=
 jjV n
  (fun y1 => some (jaa jxv jxZ ((), (((), (a2, ((), (a3, ())))), ((a4, ()), (a5, (y1, ((a7, ()), (a8, ())))))))))
  a0
  a1
  a2
  ((a2 : Nat) : Int)
  a2
  n
  (0 : Int)
  a6
def jMN (a0 a1 a2 a3 a4 a5 a6 a7 a8 : _) := jap jxv jxZ (jOa FUEL a0 a1 a2 a3 a4 a5 a6 a7 a8)
def jto (a0 a1 a2 a3 a4 a5 a6 a7 a8 : _) := (jMN a0 a1 a2 a3 a4 a5 a6 a7 a8).isSome
def jEc (a0 a1 a2 a3 a4 a5 a6 a7 a8 : _) := RS.get (jMN a0 a1 a2 a3 a4 a5 a6 a7 a8)
/-! z1k: pack_Packet_Insertxe10 -/
abbrev jlr : List EK := [.ty (.int .i64)]
abbrev jlF : List HK := [.one false [.ptr 1 0 0, .hs 3 0, .ptr 4 0 0, .ty (.int .i64)], .one false [.hs 2 0], .row (.int .u8), .row jaq, .one false [.hs 5 0], .row (.int .u8)]
abbrev jgh : List EK := [.ty (.int .i64)]
abbrev jeU : List HK := [.one false [.ptr 1 0 0, .hs 3 0, .ptr 4 0 0, .ty (.int .i64)], .one false [.hs 6 0], .row (.int .u8), .row jaq, .one false [.hs 5 0], .row (.int .u8), .row (.int .u8)]
def jnK (n : Nat) (a0 : jaB) (a1 : Int) (a2 : Nat) (a3 : Int) (a4 : Nat) (a5 : (List Int)) (a6 : (List jan)) (a7 : Nat) (a8 : (List Int)) : Option Res :=
 let y1 := (jte a0 a2 a3 a4 a5 a6 a7 a8)
 cond (jku a0 a2 a3 a4 a5 a6 a7 a8)
 (cond (y1.1.2.1 != (0 : Int))
 (some (jaa jlr jlF ((y1.1.2.1, ()), (((), (y1.2.1.2.1, ((), (y1.2.1.2.2.2.1, ())))), ((y1.2.2.1.1, ()), (y1.2.2.2.1, (y1.2.2.2.2.1, ((y1.2.2.2.2.2.1.1, ()), (y1.2.2.2.2.2.2.1, ())))))))))
 (cond (decide (a1 < (0 : Int)))
 (some (jaa jlr jlF (((1 : Int), ()), (((), (y1.2.1.2.1, ((), (y1.2.1.2.2.2.1, ())))), ((y1.2.2.1.1, ()), (y1.2.2.2.1, (y1.2.2.2.2.1, ((y1.2.2.2.2.2.1.1, ()), (y1.2.2.2.2.2.2.1, ())))))))))
 (let y4 := (q_z1i y1.1.1 a1 y1.2.2.1.1 y1.2.2.2.1)
 cond (jyz y1.1.1 a1 y1.2.2.1.1 y1.2.2.2.1)
 (cond (y4.1.1 != (0 : Int))
 (some (jaa jlr jlF (((2 : Int), ()), (((), (y1.2.1.2.1, ((), (y1.2.1.2.2.2.1, ())))), ((y4.2.1.1, ()), (y4.2.2.1, (y1.2.2.2.2.1, ((y1.2.2.2.2.2.1.1, ()), (y1.2.2.2.2.2.2.1, ())))))))))
 (let y5 := (jEc y1.1.1 a1 y1.2.1.2.1 y1.2.1.2.2.2.1 y4.2.1.1 y4.2.2.1 y1.2.2.2.2.1 y1.2.2.2.2.2.1.1 y1.2.2.2.2.2.2.1)
 cond (jto y1.1.1 a1 y1.2.1.2.1 y1.2.1.2.2.2.1 y4.2.1.1 y4.2.2.1 y1.2.2.2.2.1 y1.2.2.2.2.2.1.1 y1.2.2.2.2.2.2.1)
 (some (jaa jlr jlF (((0 : Int), ()), (((), (y5.2.1.2.1, ((), (y5.2.1.2.2.2.1, ())))), ((y5.2.2.1.1, ()), (y5.2.2.2.1, (y5.2.2.2.2.1, ((y5.2.2.2.2.2.1.1, ()), (y5.2.2.2.2.2.2.1, ())))))))))
 (none)))
 (let y2 := (jEd y1.1.1 a1 y1.2.2.1.1 y1.2.2.2.1)
 cond (jyy y1.1.1 a1 y1.2.2.1.1 y1.2.2.2.1)
 (cond (y2.1.1 != (0 : Int))
 (some (jaa jgh jeU (((2 : Int), ()), (((), (y1.2.1.2.1, ((), (y1.2.1.2.2.2.1, ())))), ((y2.2.1.1, ()), (y2.2.2.1, (y1.2.2.2.2.1, ((y1.2.2.2.2.2.1.1, ()), (y1.2.2.2.2.2.2.1, (y2.2.2.2.1, ()))))))))))
 (let y3 := (jEc y1.1.1 a1 y1.2.1.2.1 y1.2.1.2.2.2.1 y2.2.1.1 y2.2.2.2.1 y1.2.2.2.2.1 y1.2.2.2.2.2.1.1 y1.2.2.2.2.2.2.1)
 cond (jto y1.1.1 a1 y1.2.1.2.1 y1.2.1.2.2.2.1 y2.2.1.1 y2.2.2.2.1 y1.2.2.2.2.1 y1.2.2.2.2.2.1.1 y1.2.2.2.2.2.2.1)
 (some (jaa jgh jeU (((0 : Int), ()), (((), (y3.2.1.2.1, ((), (y3.2.1.2.2.2.1, ())))), ((y3.2.2.1.1, ()), (y2.2.2.1, (y3.2.2.2.2.1, ((y3.2.2.2.2.2.1.1, ()), (y3.2.2.2.2.2.2.1, (y3.2.2.2.1, ()))))))))))
 (none)))
 (none)))))
 (none)
def jwD (a0 a1 a2 a3 a4 a5 a6 a7 a8 : _) := jap jlr jlF (jnK FUEL a0 a1 a2 a3 a4 a5 a6 a7 a8)
def jrf (a0 a1 a2 a3 a4 a5 a6 a7 a8 : _) := jap jgh jeU (jnK FUEL a0 a1 a2 a3 a4 a5 a6 a7 a8)
def jpS (a0 a1 a2 a3 a4 a5 a6 a7 a8 : _) := (jrf a0 a1 a2 a3 a4 a5 a6 a7 a8).isSome
def jvk (a0 a1 a2 a3 a4 a5 a6 a7 a8 : _) := RS.get (jrf a0 a1 a2 a3 a4 a5 a6 a7 a8)
def jEp (a0 a1 a2 a3 a4 a5 a6 a7 a8 : _) := (jwD a0 a1 a2 a3 a4 a5 a6 a7 a8).isSome
def q_z1k (a0 a1 a2 a3 a4 a5 a6 a7 a8 : _) := RS.get (jwD a0 a1 a2 a3 a4 a5 a6 a7 a8)
/-! z1l: pack_Packet_Textx135 -/
abbrev jCZ : List EK := [.ty .str]
abbrev jDF : List HK := [.one false [.ptr 1 0 0, .hs 3 0, .ptr 4 0 0, .ty (.int .i64)], .one false [.hs 2 0], .row (.int .u8), .row jaq, .one false [.hs 5 0], .row (.int .u8)]
def jNZ (n : Nat) (a0 : Nat) (a1 : Int) (a2 : Nat) (a3 : (List Int)) (a4 : (List jan)) (a5 : Nat) (a6 : (List Int)) : Option Res :=
 let y1 := (jBA a2 a3)
 cond (joy a2 a3)
 (some (jaa jCZ jDF ((y1.1.1, ()), (((), (a0, ((), (a1, ())))), ((y1.2.1.1, ()), (y1.2.2.1, (a4, ((a5, ()), (a6, ())))))))))
 (none)
def jMM (a0 a1 a2 a3 a4 a5 a6 : _) := jap jCZ jDF (jNZ FUEL a0 a1 a2 a3 a4 a5 a6)
def jot (a0 a1 a2 a3 a4 a5 a6 : _) := (jMM a0 a1 a2 a3 a4 a5 a6).isSome
def jBq (a0 a1 a2 a3 a4 a5 a6 : _) := RS.get (jMM a0 a1 a2 a3 a4 a5 a6)
/-! z1m: turnoutlaw17_inPacket -/
abbrev jCY : List EK := [.agg jaT]
abbrev jDE : List HK := []
def M_z1m (n : Nat) (a0 : Int) (a1 : Int) : Option Res :=
 some (jaa jCY jDE ((((0 : Int), ((1 : Int), ((0 : Int), (a0, (a1, ()))))), ()), ()))
def Q_z1m (a0 a1 : _) := jap jCY jDE (M_z1m FUEL a0 a1)
def jyx (a0 a1 : _) := (Q_z1m a0 a1).isSome
def jKZ (a0 a1 : _) := RS.get (Q_z1m a0 a1)
/-! z1n: buf_Buf_Deletex37e -/
abbrev jxu : List EK := [.ty (.int .i64)]
abbrev jxY : List HK := [.one false [.hs 1 0], .row (.int .u8)]
def jCn (n : Nat) (a0 : Int) (a1 : Int) (a2 : Nat) (a3 : (List Int)) : Option Res :=
 let y1 := (jtd a0 a1 a2 a3)
 cond (jfJ a0 a1 a2 a3)
 (cond (y1.1.1 == (0 : Int))
 (cond (decide ((0 : Int) ≤ a0 ∧ a0 ≤ ((y1.2.1.1 : Nat) : Int) ∧ ((y1.2.1.1 : Nat) : Int) ≤ ((y1.2.1.1 : Nat) : Int) ∧ ((y1.2.1.1 : Nat) : Int) ≤ ((y1.2.1.1 : Nat) : Int)))
 (cond (decide ((0 : Int) ≤ (IntKind.wrap .i64 (a0 + a1)) ∧ (IntKind.wrap .i64 (a0 + a1)) ≤ ((y1.2.1.1 : Nat) : Int) ∧ ((y1.2.1.1 : Nat) : Int) ≤ ((y1.2.1.1 : Nat) : Int) ∧ ((y1.2.1.1 : Nat) : Int) ≤ ((y1.2.1.1 : Nat) : Int)))
 (cond (decide ((0 + Int.toNat (IntKind.wrap .i64 (a0 + a1))) + (Int.toNat ((y1.2.1.1 : Nat) : Int) - Int.toNat (IntKind.wrap .i64 (a0 + a1))) ≤ (List.length y1.2.2.1)))
 (cond (decide ((0 + Int.toNat a0) + (Int.toNat ((y1.2.1.1 : Nat) : Int) - Int.toNat a0) ≤ (List.length y1.2.2.1)))
 (let y2 : Int := (((Nat.min (Int.toNat ((y1.2.1.1 : Nat) : Int) - Int.toNat (IntKind.wrap .i64 (a0 + a1))) (Int.toNat ((y1.2.1.1 : Nat) : Int) - Int.toNat a0)) : Nat) : Int)
 cond (decide ((0 : Int) ≤ (0 : Int) ∧ (0 : Int) ≤ (IntKind.wrap .i64 (a0 + y2)) ∧ (IntKind.wrap .i64 (a0 + y2)) ≤ ((y1.2.1.1 : Nat) : Int) ∧ ((y1.2.1.1 : Nat) : Int) ≤ ((y1.2.1.1 : Nat) : Int)))
 (some (jaa jxu jxY ((y1.1.1, ()), (((Int.toNat (IntKind.wrap .i64 (a0 + y2)) - Int.toNat (0 : Int)), ()), (((cutL (0 : Int) y1.2.2.1 0 (0 + Int.toNat a0)) ++ ((cutL (0 : Int) y1.2.2.1 (0 + Int.toNat (IntKind.wrap .i64 (a0 + a1))) (Nat.min (Int.toNat ((y1.2.1.1 : Nat) : Int) - Int.toNat (IntKind.wrap .i64 (a0 + a1))) (Int.toNat ((y1.2.1.1 : Nat) : Int) - Int.toNat a0))) ++ (cutL (0 : Int) y1.2.2.1 ((0 + Int.toNat a0) + (List.length (cutL (0 : Int) y1.2.2.1 (0 + Int.toNat (IntKind.wrap .i64 (a0 + a1))) (Nat.min (Int.toNat ((y1.2.1.1 : Nat) : Int) - Int.toNat (IntKind.wrap .i64 (a0 + a1))) (Int.toNat ((y1.2.1.1 : Nat) : Int) - Int.toNat a0))))) ((List.length y1.2.2.1) - ((0 + Int.toNat a0) + (List.length (cutL (0 : Int) y1.2.2.1 (0 + Int.toNat (IntKind.wrap .i64 (a0 + a1))) (Nat.min (Int.toNat ((y1.2.1.1 : Nat) : Int) - Int.toNat (IntKind.wrap .i64 (a0 + a1))) (Int.toNat ((y1.2.1.1 : Nat) : Int) - Int.toNat a0))))))))), ())))))
 (none))
 (none))
 (none))
 (none))
 (none))
 (some (jaa jxu jxY ((y1.1.1, ()), ((y1.2.1.1, ()), (y1.2.2.1, ()))))))
 (none)
def jJH (a0 a1 a2 a3 : _) := jap jxu jxY (jCn FUEL a0 a1 a2 a3)
def ok_z1n (a0 a1 a2 a3 : _) := (jJH a0 a1 a2 a3).isSome
def q_z1n (a0 a1 a2 a3 : _) := RS.get (jJH a0 a1 a2 a3)
/-! z1o: pack_Packet_Delete_1x183 -/
abbrev jxt : List EK := [.ty .bool]
abbrev jxX : List HK := [.one true [.ty (.int .i64)], .one true [.ty (.int .i64)]]
def jNY (n : Nat) (a0 : jan) (a1 : Int) (a2 : Int) : Option Res :=
 cond (decide (a0.2.1 ≥ a1))
 (some (jaa jxt jxX (((decide (a0.2.1 < (IntKind.wrap .i64 (a1 + a2)))), ()), ((a1, ()), ((a2, ()), ())))))
 (some (jaa jxt jxX ((false, ()), ((a1, ()), ((a2, ()), ())))))
def jML (a0 a1 a2 : _) := jap jxt jxX (jNY FUEL a0 a1 a2)
def jyw (a0 a1 a2 : _) := (jML a0 a1 a2).isSome
def jKY (a0 a1 a2 : _) := RS.get (jML a0 a1 a2)
/-! z1p: slices_IndexFunc -/
abbrev jnZ : List EK := [.ty (.int .i64)]
abbrev jog : List HK := [.one true [.ty (.int .i64)], .one true [.ty (.int .i64)]]
def jrV (n : Nat) (k_r : Int → Int → Int → Option Res) (k_t0 : Int → Int → Option Res) (x0_0 : (List jan)) (x0_1 : Int) (rec : Int → Int → Int → Option Res) (x0_2 : Int) (x0_3 : Int) (x0_4 : Int) : Option Res :=
 cond (decide (x0_2 < x0_1))
 (cond (decide ((0 : Int) ≤ x0_2 ∧ x0_2 < (((List.length x0_0) : Nat) : Int)))
 (let y1 := (jKY (rdd jak x0_0 (Int.toNat x0_2)) x0_3 x0_4)
 cond (jyw (rdd jak x0_0 (Int.toNat x0_2)) x0_3 x0_4)
 (cond y1.1.1
 (k_r x0_2 y1.2.1.1 y1.2.2.1.1)
 (rec (IntKind.wrap .i64 (x0_2 + (1 : Int))) y1.2.1.1 y1.2.2.1.1))
 (none))
 (none))
 (k_t0 x0_3 x0_4)
def jfY (n : Nat) (k_r : Int → Int → Int → Option Res) (k_t0 : Int → Int → Option Res) (x0_0 : (List jan)) (x0_1 : Int) : Nat → Int → Int → Int → Option Res
  | 0, _, _, _ => none
  | m + 1, x0_2, x0_3, x0_4 => jrV n k_r k_t0 x0_0 x0_1 (jfY n k_r k_t0 x0_0 x0_1 m) x0_2 x0_3 x0_4
def M_z1p (n : Nat) (a0 : (List jan)) (a1 : Int) (a2 : Int) : Option Res :=
 jfY n
  (fun y2 y3 y4 => some (jaa jnZ jog ((y2, ()), ((y3, ()), ((y4, ()), ())))))
  (fun y5 y6 => some (jaa jnZ jog (((-1 : Int), ()), ((y5, ()), ((y6, ()), ())))))
  a0
  (((List.length a0) : Nat) : Int)
  n
  (0 : Int)
  a1
  a2
def jJG (a0 a1 a2 : _) := jap jnZ jog (M_z1p FUEL a0 a1 a2)
def ok_z1p (a0 a1 a2 : _) := (jJG a0 a1 a2).isSome
def q_z1p (a0 a1 a2 : _) := RS.get (jJG a0 a1 a2)
/-! z1q: slices_DeleteFunc -/
abbrev jsB : List EK := [.hs 0 0]
abbrev jsR : List HK := [.row jaq, .one true [.ty (.int .i64)], .one true [.ty (.int .i64)]]
def jrU (n : Nat) (k_t0 : Int → (List jan) → Int → Int → Option Res) (x0_0 : Nat) (rec : Int → Int → (List jan) → Int → Int → Option Res) (x0_1 : Int) (x0_2 : Int) (x0_3 : (List jan)) (x0_4 : Int) (x0_5 : Int) : Option Res :=
 cond (decide (x0_2 < ((x0_0 : Nat) : Int)))
 (cond (decide ((0 : Int) ≤ x0_2 ∧ x0_2 < ((x0_0 : Nat) : Int)))
 (let y2 := (jKY (rdd jak x0_3 (Int.toNat x0_2)) x0_4 x0_5)
 cond (jyw (rdd jak x0_3 (Int.toNat x0_2)) x0_4 x0_5)
 (cond (!y2.1.1)
 (cond (decide ((0 : Int) ≤ x0_1 ∧ x0_1 < ((x0_0 : Nat) : Int)))
 (rec (IntKind.wrap .i64 (x0_1 + (1 : Int))) (IntKind.wrap .i64 (x0_2 + (1 : Int))) (List.set x0_3 (Int.toNat x0_1) (rdd jak x0_3 (Int.toNat x0_2))) y2.2.1.1 y2.2.2.1.1)
 (none))
 (rec x0_1 (IntKind.wrap .i64 (x0_2 + (1 : Int))) x0_3 y2.2.1.1 y2.2.2.1.1))
 (none))
 (none))
 (k_t0 x0_1 x0_3 x0_4 x0_5)
def jfX (n : Nat) (k_t0 : Int → (List jan) → Int → Int → Option Res) (x0_0 : Nat) : Nat → Int → Int → (List jan) → Int → Int → Option Res
  | 0, _, _, _, _, _ => none
  | m + 1, x0_1, x0_2, x0_3, x0_4, x0_5 => jrU n k_t0 x0_0 (jfX n k_t0 x0_0 m) x0_1 x0_2 x0_3 x0_4 x0_5
def jKr (n : Nat) (a0 : Nat) (a1 : (List jan)) (a2 : Int) (a3 : Int) : Option Res :=
 let y1 := (q_z1p (cutL jak a1 0 a0) a2 a3)
 cond (ok_z1p (cutL jak a1 0 a0) a2 a3)
 (cond (y1.1.1 == (-1 : Int))
 (some (jaa jsB jsR ((a0, ()), (a1, ((y1.2.1.1, ()), ((y1.2.2.1.1, ()), ()))))))
 (jfX n
  (fun y3 y4 y5 y6 => cond (decide ((0 : Int) ≤ y3 ∧ y3 ≤ ((a0 : Nat) : Int) ∧ ((a0 : Nat) : Int) ≤ ((a0 : Nat) : Int) ∧ ((a0 : Nat) : Int) ≤ ((a0 : Nat) : Int)))
 (cond (decide ((0 + Int.toNat y3) + (Int.toNat ((a0 : Nat) : Int) - Int.toNat y3) ≤ (List.length y4)))
 (cond (decide ((0 : Int) ≤ (0 : Int) ∧ (0 : Int) ≤ y3 ∧ y3 ≤ ((a0 : Nat) : Int) ∧ ((a0 : Nat) : Int) ≤ ((a0 : Nat) : Int)))
 (some (jaa jsB jsR (((Int.toNat y3 - Int.toNat (0 : Int)), ()), (((cutL jak y4 0 (0 + Int.toNat y3)) ++ ((mkL (Int.toNat ((a0 : Nat) : Int) - Int.toNat y3) (fun _ => jak)) ++ (cutL jak y4 ((0 + Int.toNat y3) + (List.length (mkL (Int.toNat ((a0 : Nat) : Int) - Int.toNat y3) (fun _ => jak)))) ((List.length y4) - ((0 + Int.toNat y3) + (List.length (mkL (Int.toNat ((a0 : Nat) : Int) - Int.toNat y3) (fun _ => jak)))))))), ((y5, ()), ((y6, ()), ()))))))
 (none))
 (none))
 (none))
  a0
  n
  y1.1.1
  (IntKind.wrap .i64 (y1.1.1 + (1 : Int)))
  a1
  y1.2.1.1
  y1.2.2.1.1))
 (none)
def jMK (a0 a1 a2 a3 : _) := jap jsB jsR (jKr FUEL a0 a1 a2 a3)
def ok_z1q (a0 a1 a2 a3 : _) := (jMK a0 a1 a2 a3).isSome
def q_z1q (a0 a1 a2 a3 : _) := RS.get (jMK a0 a1 a2 a3)
/-! z1r: pack_Packet_Deletexe10 -/
abbrev jsA : List EK := [.ty (.int .i64)]
abbrev jsQ : List HK := [.one false [.ptr 1 0 0, .hs 3 0, .ptr 4 0 0, .ty (.int .i64)], .one false [.hs 2 0], .row (.int .u8), .row jaq, .one false [.hs 5 0], .row (.int .u8)]
def jCm (n : Nat) (a0 : jaB) (a1 : Int) (a2 : Nat) (a3 : Int) (a4 : Nat) (a5 : (List Int)) (a6 : (List jan)) (a7 : Nat) (a8 : (List Int)) : Option Res :=
 let y1 := (jte a0 a2 a3 a4 a5 a6 a7 a8)
 cond (jku a0 a2 a3 a4 a5 a6 a7 a8)
 (cond (y1.1.2.1 != (0 : Int))
 (some (jaa jsA jsQ ((y1.1.2.1, ()), (((), (y1.2.1.2.1, ((), (y1.2.1.2.2.2.1, ())))), ((y1.2.2.1.1, ()), (y1.2.2.2.1, (y1.2.2.2.2.1, ((y1.2.2.2.2.2.1.1, ()), (y1.2.2.2.2.2.2.1, ())))))))))
 (let y2 := (q_z1n y1.1.1 a1 y1.2.2.1.1 y1.2.2.2.1)
 cond (ok_z1n y1.1.1 a1 y1.2.2.1.1 y1.2.2.2.1)
 (cond (y2.1.1 != (0 : Int))
 (some (jaa jsA jsQ (((1 : Int), ()), (((), (y1.2.1.2.1, ((), (y1.2.1.2.2.2.1, ())))), ((y2.2.1.1, ()), (y2.2.2.1, (y1.2.2.2.2.1, ((y1.2.2.2.2.2.1.1, ()), (y1.2.2.2.2.2.2.1, ())))))))))
 (let y3 := (q_z1q y1.2.1.2.1 y1.2.2.2.2.1 y1.1.1 a1)
 cond (ok_z1q y1.2.1.2.1 y1.2.2.2.2.1 y1.1.1 a1)
 (let y4 := (jEc y3.2.2.1.1 (IntKind.wrap .i64 (0 - y3.2.2.2.1.1)) y3.1.1 y1.2.1.2.2.2.1 y2.2.1.1 y2.2.2.1 y3.2.1 y1.2.2.2.2.2.1.1 y1.2.2.2.2.2.2.1)
 cond (jto y3.2.2.1.1 (IntKind.wrap .i64 (0 - y3.2.2.2.1.1)) y3.1.1 y1.2.1.2.2.2.1 y2.2.1.1 y2.2.2.1 y3.2.1 y1.2.2.2.2.2.1.1 y1.2.2.2.2.2.2.1)
 (some (jaa jsA jsQ (((0 : Int), ()), (((), (y4.2.1.2.1, ((), (y4.2.1.2.2.2.1, ())))), ((y4.2.2.1.1, ()), (y4.2.2.2.1, (y4.2.2.2.2.1, ((y4.2.2.2.2.2.1.1, ()), (y4.2.2.2.2.2.2.1, ())))))))))
 (none))
 (none)))
 (none)))
 (none)
def jJF (a0 a1 a2 a3 a4 a5 a6 a7 a8 : _) := jap jsA jsQ (jCm FUEL a0 a1 a2 a3 a4 a5 a6 a7 a8)
def jEo (a0 a1 a2 a3 a4 a5 a6 a7 a8 : _) := (jJF a0 a1 a2 a3 a4 a5 a6 a7 a8).isSome
def q_z1r (a0 a1 a2 a3 a4 a5 a6 a7 a8 : _) := RS.get (jJF a0 a1 a2 a3 a4 a5 a6 a7 a8)
/-! z1s: turnoutlaw17_awake -/
abbrev jbK : List EK := [.ty .bool]
abbrev jbL : List HK := []
def M_z1s (n : Nat) : Option Res :=
 let y34 := q_z0z
 cond ok_z0z
 (some (jaa jbK jbL ((false, ()), ())))
 (let y1 := q_z0z_1
 cond jLo
 (let y2 := (jBu y1.2.1.2.1 y1.2.1.2.2.2.1 y1.2.2.1.1 y1.2.2.2.1 y1.2.2.2.2.1 y1.2.2.2.2.2.1.1 y1.2.2.2.2.2.2.1)
 cond (jow y1.2.1.2.1 y1.2.1.2.2.2.1 y1.2.2.1.1 y1.2.2.2.1 y1.2.2.2.2.1 y1.2.2.2.2.2.1.1 y1.2.2.2.2.2.2.1)
 (let y3 := (jBt (cutL jak y2.2.2.2.2.2.2.2.1 0 y2.1.1) ([((1 : Int), ((0 : Int), ())), ((2 : Int), ((2 : Int), ()))]))
 cond (jov (cutL jak y2.2.2.2.2.2.2.2.1 0 y2.1.1) ([((1 : Int), ((0 : Int), ())), ((2 : Int), ((2 : Int), ()))]))
 (cond (!y3.1.1)
 (some (jaa jbK jbL ((false, ()), ())))
 (let y4 := (q_z13 y2.2.1.2.1 y2.2.1.2.2.2.1 y2.2.2.1.1 y2.2.2.2.1 y2.2.2.2.2.1 y2.2.2.2.2.2.1.1 y2.2.2.2.2.2.2.1)
 cond (jOR y2.2.1.2.1 y2.2.1.2.2.2.1 y2.2.2.1.1 y2.2.2.2.1 y2.2.2.2.2.1 y2.2.2.2.2.2.1.1 y2.2.2.2.2.2.2.1)
 (cond (y4.1.1 != (3 : Int))
 (some (jaa jbK jbL ((false, ()), ())))
 (let y5 := (jLd (2 : Int) (0 : Int) (8 : Int))
 cond (jyD (2 : Int) (0 : Int) (8 : Int))
 (let y6 := (jBr y5.1.1 y4.2.1.2.1 y4.2.1.2.2.2.1 y4.2.2.1.1 y4.2.2.2.1 y4.2.2.2.2.1 y4.2.2.2.2.2.1.1 y4.2.2.2.2.2.2.1)
 cond (jou y5.1.1 y4.2.1.2.1 y4.2.1.2.2.2.1 y4.2.2.1.1 y4.2.2.2.1 y4.2.2.2.2.1 y4.2.2.2.2.2.1.1 y4.2.2.2.2.2.2.1)
 (cond (y6.1.2.1 != (0 : Int))
 (some (jaa jbK jbL ((false, ()), ())))
 (cond (!((y6.1.1.1 == (0 : Int)) && ((y6.1.1.2.1 == (2 : Int)) && true)))
 (some (jaa jbK jbL ((false, ()), ())))
 (let y7 := (jLd (2 : Int) (0 : Int) (8 : Int))
 cond (jyD (2 : Int) (0 : Int) (8 : Int))
 (let y21 := (q_z1k y7.1.1 (1 : Int) y6.2.1.2.1 y6.2.1.2.2.2.1 y6.2.2.1.1 y6.2.2.2.1 y6.2.2.2.2.1 y6.2.2.2.2.2.1.1 y6.2.2.2.2.2.2.1)
 cond (jEp y7.1.1 (1 : Int) y6.2.1.2.1 y6.2.1.2.2.2.1 y6.2.2.1.1 y6.2.2.2.1 y6.2.2.2.2.1 y6.2.2.2.2.2.1.1 y6.2.2.2.2.2.2.1)
 (cond (y21.1.1 != (0 : Int))
 (some (jaa jbK jbL ((false, ()), ())))
 (let y22 := (jBq y21.2.1.2.1 y21.2.1.2.2.2.1 y21.2.2.1.1 y21.2.2.2.1 y21.2.2.2.2.1 y21.2.2.2.2.2.1.1 y21.2.2.2.2.2.2.1)
 cond (jot y21.2.1.2.1 y21.2.1.2.2.2.1 y21.2.2.1.1 y21.2.2.2.1 y21.2.2.2.2.1 y21.2.2.2.2.2.1.1 y21.2.2.2.2.2.2.1)
 (cond (!(ByteArray.toList y22.1.1 == ByteArray.toList (ByteArray.mk #[0, 5, 0, 2, 255, 255, 255])))
 (some (jaa jbK jbL ((false, ()), ())))
 (let y23 := (jBu y22.2.1.2.1 y22.2.1.2.2.2.1 y22.2.2.1.1 y22.2.2.2.1 y22.2.2.2.2.1 y22.2.2.2.2.2.1.1 y22.2.2.2.2.2.2.1)
 cond (jow y22.2.1.2.1 y22.2.1.2.2.2.1 y22.2.2.1.1 y22.2.2.2.1 y22.2.2.2.2.1 y22.2.2.2.2.2.1.1 y22.2.2.2.2.2.2.1)
 (let y24 := (jBt (cutL jak y23.2.2.2.2.2.2.2.1 0 y23.1.1) ([((1 : Int), ((0 : Int), ())), ((2 : Int), ((3 : Int), ()))]))
 cond (jov (cutL jak y23.2.2.2.2.2.2.2.1 0 y23.1.1) ([((1 : Int), ((0 : Int), ())), ((2 : Int), ((3 : Int), ()))]))
 (cond (!y24.1.1)
 (some (jaa jbK jbL ((false, ()), ())))
 (let y25 := (jKZ (16 : Int) (1 : Int))
 cond (jyx (16 : Int) (1 : Int))
 (let y26 := (q_z1r y25.1.1 (2 : Int) y23.2.1.2.1 y23.2.1.2.2.2.1 y23.2.2.1.1 y23.2.2.2.1 y23.2.2.2.2.1 y23.2.2.2.2.2.1.1 y23.2.2.2.2.2.2.1)
 cond (jEo y25.1.1 (2 : Int) y23.2.1.2.1 y23.2.1.2.2.2.1 y23.2.2.1.1 y23.2.2.2.1 y23.2.2.2.2.1 y23.2.2.2.2.2.1.1 y23.2.2.2.2.2.2.1)
 (cond (y26.1.1 != (0 : Int))
 (some (jaa jbK jbL ((false, ()), ())))
 (let y27 := (jBq y26.2.1.2.1 y26.2.1.2.2.2.1 y26.2.2.1.1 y26.2.2.2.1 y26.2.2.2.2.1 y26.2.2.2.2.2.1.1 y26.2.2.2.2.2.2.1)
 cond (jot y26.2.1.2.1 y26.2.1.2.2.2.1 y26.2.2.1.1 y26.2.2.2.1 y26.2.2.2.2.1 y26.2.2.2.2.2.1.1 y26.2.2.2.2.2.2.1)
 (cond (!(ByteArray.toList y27.1.1 == ByteArray.toList (ByteArray.mk #[0, 5, 255, 255, 255])))
 (some (jaa jbK jbL ((false, ()), ())))
 (let y28 := (jBu y27.2.1.2.1 y27.2.1.2.2.2.1 y27.2.2.1.1 y27.2.2.2.1 y27.2.2.2.2.1 y27.2.2.2.2.2.1.1 y27.2.2.2.2.2.2.1)
 cond (jow y27.2.1.2.1 y27.2.1.2.2.2.1 y27.2.2.1.1 y27.2.2.2.1 y27.2.2.2.2.1 y27.2.2.2.2.2.1.1 y27.2.2.2.2.2.2.1)
 (let y29 := (jBt (cutL jak y28.2.2.2.2.2.2.2.1 0 y28.1.1) ([((1 : Int), ((0 : Int), ()))]))
 cond (jov (cutL jak y28.2.2.2.2.2.2.2.1 0 y28.1.1) ([((1 : Int), ((0 : Int), ()))]))
 (cond (!y29.1.1)
 (some (jaa jbK jbL ((false, ()), ())))
 (let y30 := (jLd (2 : Int) (0 : Int) (8 : Int))
 cond (jyD (2 : Int) (0 : Int) (8 : Int))
 (let y31 := (jBr y30.1.1 y28.2.1.2.1 y28.2.1.2.2.2.1 y28.2.2.1.1 y28.2.2.2.1 y28.2.2.2.2.1 y28.2.2.2.2.2.1.1 y28.2.2.2.2.2.2.1)
 cond (jou y30.1.1 y28.2.1.2.1 y28.2.1.2.2.2.1 y28.2.2.1.1 y28.2.2.2.1 y28.2.2.2.2.1 y28.2.2.2.2.2.1.1 y28.2.2.2.2.2.2.1)
 (let y32 := (jKZ (36 : Int) (8 : Int))
 cond (jyx (36 : Int) (8 : Int))
 (let y33 := (jBr y32.1.1 y31.2.1.2.1 y31.2.1.2.2.2.1 y31.2.2.1.1 y31.2.2.2.1 y31.2.2.2.2.1 y31.2.2.2.2.2.1.1 y31.2.2.2.2.2.2.1)
 cond (jou y32.1.1 y31.2.1.2.1 y31.2.1.2.2.2.1 y31.2.2.1.1 y31.2.2.2.1 y31.2.2.2.2.1 y31.2.2.2.2.2.1.1 y31.2.2.2.2.2.2.1)
 (cond (y31.1.2.1 == (3 : Int))
 (some (jaa jbK jbL (((y33.1.2.1 == (1 : Int)), ()), ())))
 (some (jaa jbK jbL ((false, ()), ()))))
 (none))
 (none))
 (none))
 (none)))
 (none))
 (none)))
 (none)))
 (none))
 (none)))
 (none))
 (none)))
 (none)))
 (let y8 := (jvk y7.1.1 (1 : Int) y6.2.1.2.1 y6.2.1.2.2.2.1 y6.2.2.1.1 y6.2.2.2.1 y6.2.2.2.2.1 y6.2.2.2.2.2.1.1 y6.2.2.2.2.2.2.1)
 cond (jpS y7.1.1 (1 : Int) y6.2.1.2.1 y6.2.1.2.2.2.1 y6.2.2.1.1 y6.2.2.2.1 y6.2.2.2.2.1 y6.2.2.2.2.2.1.1 y6.2.2.2.2.2.2.1)
 (cond (y8.1.1 != (0 : Int))
 (some (jaa jbK jbL ((false, ()), ())))
 (let y9 := (jBq y8.2.1.2.1 y8.2.1.2.2.2.1 y8.2.2.1.1 y8.2.2.2.2.2.2.2.1 y8.2.2.2.2.1 y8.2.2.2.2.2.1.1 y8.2.2.2.2.2.2.1)
 cond (jot y8.2.1.2.1 y8.2.1.2.2.2.1 y8.2.2.1.1 y8.2.2.2.2.2.2.2.1 y8.2.2.2.2.1 y8.2.2.2.2.2.1.1 y8.2.2.2.2.2.2.1)
 (cond (!(ByteArray.toList y9.1.1 == ByteArray.toList (ByteArray.mk #[0, 5, 0, 2, 255, 255, 255])))
 (some (jaa jbK jbL ((false, ()), ())))
 (let y10 := (jBu y9.2.1.2.1 y9.2.1.2.2.2.1 y9.2.2.1.1 y9.2.2.2.1 y9.2.2.2.2.1 y9.2.2.2.2.2.1.1 y9.2.2.2.2.2.2.1)
 cond (jow y9.2.1.2.1 y9.2.1.2.2.2.1 y9.2.2.1.1 y9.2.2.2.1 y9.2.2.2.2.1 y9.2.2.2.2.2.1.1 y9.2.2.2.2.2.2.1)
 (let y11 := (jBt (cutL jak y10.2.2.2.2.2.2.2.1 0 y10.1.1) ([((1 : Int), ((0 : Int), ())), ((2 : Int), ((3 : Int), ()))]))
 cond (jov (cutL jak y10.2.2.2.2.2.2.2.1 0 y10.1.1) ([((1 : Int), ((0 : Int), ())), ((2 : Int), ((3 : Int), ()))]))
 (cond (!y11.1.1)
 (some (jaa jbK jbL ((false, ()), ())))
 (let y12 := (jKZ (16 : Int) (1 : Int))
 cond (jyx (16 : Int) (1 : Int))
 (let y13 := (q_z1r y12.1.1 (2 : Int) y10.2.1.2.1 y10.2.1.2.2.2.1 y10.2.2.1.1 y10.2.2.2.1 y10.2.2.2.2.1 y10.2.2.2.2.2.1.1 y10.2.2.2.2.2.2.1)
 cond (jEo y12.1.1 (2 : Int) y10.2.1.2.1 y10.2.1.2.2.2.1 y10.2.2.1.1 y10.2.2.2.1 y10.2.2.2.2.1 y10.2.2.2.2.2.1.1 y10.2.2.2.2.2.2.1)
 (cond (y13.1.1 != (0 : Int))
 (some (jaa jbK jbL ((false, ()), ())))
 (let y14 := (jBq y13.2.1.2.1 y13.2.1.2.2.2.1 y13.2.2.1.1 y13.2.2.2.1 y13.2.2.2.2.1 y13.2.2.2.2.2.1.1 y13.2.2.2.2.2.2.1)
 cond (jot y13.2.1.2.1 y13.2.1.2.2.2.1 y13.2.2.1.1 y13.2.2.2.1 y13.2.2.2.2.1 y13.2.2.2.2.2.1.1 y13.2.2.2.2.2.2.1)
 (cond (!(ByteArray.toList y14.1.1 == ByteArray.toList (ByteArray.mk #[0, 5, 255, 255, 255])))
 (some (jaa jbK jbL ((false, ()), ())))
 (let y15 := (jBu y14.2.1.2.1 y14.2.1.2.2.2.1 y14.2.2.1.1 y14.2.2.2.1 y14.2.2.2.2.1 y14.2.2.2.2.2.1.1 y14.2.2.2.2.2.2.1)
 cond (jow y14.2.1.2.1 y14.2.1.2.2.2.1 y14.2.2.1.1 y14.2.2.2.1 y14.2.2.2.2.1 y14.2.2.2.2.2.1.1 y14.2.2.2.2.2.2.1)
 (let y16 := (jBt (cutL jak y15.2.2.2.2.2.2.2.1 0 y15.1.1) ([((1 : Int), ((0 : Int), ()))]))
 cond (jov (cutL jak y15.2.2.2.2.2.2.2.1 0 y15.1.1) ([((1 : Int), ((0 : Int), ()))]))
 (cond (!y16.1.1)
 (some (jaa jbK jbL ((false, ()), ())))
 (let y17 := (jLd (2 : Int) (0 : Int) (8 : Int))
 cond (jyD (2 : Int) (0 : Int) (8 : Int))
 (let y18 := (jBr y17.1.1 y15.2.1.2.1 y15.2.1.2.2.2.1 y15.2.2.1.1 y15.2.2.2.1 y15.2.2.2.2.1 y15.2.2.2.2.2.1.1 y15.2.2.2.2.2.2.1)
 cond (jou y17.1.1 y15.2.1.2.1 y15.2.1.2.2.2.1 y15.2.2.1.1 y15.2.2.2.1 y15.2.2.2.2.1 y15.2.2.2.2.2.1.1 y15.2.2.2.2.2.2.1)
 (let y19 := (jKZ (36 : Int) (8 : Int))
 cond (jyx (36 : Int) (8 : Int))
 (let y20 := (jBr y19.1.1 y18.2.1.2.1 y18.2.1.2.2.2.1 y18.2.2.1.1 y18.2.2.2.1 y18.2.2.2.2.1 y18.2.2.2.2.2.1.1 y18.2.2.2.2.2.2.1)
 cond (jou y19.1.1 y18.2.1.2.1 y18.2.1.2.2.2.1 y18.2.2.1.1 y18.2.2.2.1 y18.2.2.2.2.1 y18.2.2.2.2.2.1.1 y18.2.2.2.2.2.2.1)
 (cond (y18.1.2.1 == (3 : Int))
 (some (jaa jbK jbL (((y20.1.2.1 == (1 : Int)), ()), ())))
 (some (jaa jbK jbL ((false, ()), ()))))
 (none))
 (none))
 (none))
 (none)))
 (none))
 (none)))
 (none)))
 (none))
 (none)))
 (none))
 (none)))
 (none)))
 (none)))
 (none))))
 (none))
 (none)))
 (none)))
 (none))
 (none))
 (none))
def jMJ : Option (RS jbK jbL) := jap jbK jbL (M_z1s FUEL)
def jtn : Bool := (jMJ).isSome
def jEb : RS jbK jbL := RS.get (jMJ)
/-! z1t: turnoutlaw15_Long -/
abbrev jxs : List EK := [.ty .bool]
abbrev jxW : List HK := []
def jrT (n : Nat) (k_t0 : Int → Option Res) (x0_0 : (List jai)) (rec : Int → Int → Option Res) (x0_1 : Int) (x0_2 : Int) : Option Res :=
 cond (decide (x0_2 < (((List.length x0_0) : Nat) : Int)))
 (cond (decide (x0_1 < (1500 : Int)))
 (cond (decide ((0 : Int) ≤ x0_2 ∧ x0_2 < (((List.length x0_0) : Nat) : Int)))
 (let y1 : Int := (if (((List.length (rdd jaC x0_0 (Int.toNat x0_2)).2.2.2.2.2.2.2.1) : Nat) : Int) < (1500 : Int) then (((List.length (rdd jaC x0_0 (Int.toNat x0_2)).2.2.2.2.2.2.2.1) : Nat) : Int) else (1500 : Int))
 rec (IntKind.wrap .i64 ((IntKind.wrap .i64 (x0_1 + (10 : Int))) + y1)) (IntKind.wrap .i64 (x0_2 + (1 : Int))))
 (none))
 (k_t0 x0_1))
 (k_t0 x0_1)
def jjU (n : Nat) (k_t0 : Int → Option Res) (x0_0 : (List jai)) : Nat → Int → Int → Option Res
  | 0, _, _ => none
  | m + 1, x0_1, x0_2 => jrT n k_t0 x0_0 (jjU n k_t0 x0_0 m) x0_1 x0_2
def M_z1t (n : Nat) (a0 : (List jai)) : Option Res :=
 jjU n
  (fun y2 => some (jaa jxs jxW (((decide (y2 ≥ (1500 : Int))), ()), ())))
  a0
  n
  (0 : Int)
  (0 : Int)
def jMI (a0 : _) := jap jxs jxW (M_z1t FUEL a0)
def ok_z1t (a0 : _) := (jMI a0).isSome
def q_z1t (a0 : _) := RS.get (jMI a0)
/-! z1u: turnoutref17_New -/
abbrev jxr : List EK := [.nul 0, .ty (.int .i64)]
abbrev jxV : List HK := []
abbrev jis : List EK := [.ptr 0 0 0, .ty (.int .i64)]
abbrev jgl : List HK := [.one true [.ty .str, .ty .str, .ty (.int .i64), .nul 4]]
def jwM (n : Nat) (a0 : Int) (a1 : ByteArray) : Option Res :=
 cond (decide (((ByteArray.size a1 : Nat) : Int) > (9216 : Int)))
 (some (jaa jxr jxV (((), ((10 : Int), ())), ())))
 (cond (decide ((0 : Int) ≤ (32 : Int) ∧ (32 : Int) ≤ (32 : Int) ∧ (1 : Nat) * (32 : Int) ≤ (2 : Int) ^ 46))
 (some (jaa jis jgl (((), ((0 : Int), ())), ((a1, ((bytesOf (mkL (Int.toNat (32 : Int)) (fun i => (0 : Int)))), (a0, ((), ())))), ()))))
 (none))
def jBY (a0 a1 : _) := jap jxr jxV (jwM FUEL a0 a1)
def jre (a0 a1 : _) := jap jis jgl (jwM FUEL a0 a1)
def jyv (a0 a1 : _) := (jre a0 a1).isSome
def jEa (a0 a1 : _) := RS.get (jre a0 a1)
def jOQ (a0 a1 : _) := (jBY a0 a1).isSome
def q_z1u (a0 a1 : _) := RS.get (jBY a0 a1)
/-! z1v: turnoutref15_Form -/
abbrev jas : List EK := [.ty .bool]
abbrev jat : List HK := []
def jrS (n : Nat) (k_t0 : Int → Option Res) (x0_2 : jai) (rec : Int → Int → Option Res) (x0_0 : Int) (x0_1 : Int) : Option Res :=
 cond (decide (x0_1 < x0_2.2.2.2.2.2.2.1))
 (rec (IntKind.wrap .u64 (x0_0 * (2 : Int))) (IntKind.wrap .i64 (x0_1 + (1 : Int))))
 (k_t0 x0_0)
def jbu (n : Nat) (k_t0 : Int → Option Res) (x0_2 : jai) : Nat → Int → Int → Option Res
  | 0, _, _ => none
  | m + 1, x0_0, x0_1 => jrS n k_t0 x0_2 (jbu n k_t0 x0_2 m) x0_0 x0_1
def jrR (n : Nat) (k_r : Bool → Option Res) (k_t2 : Unit → Option Res) (x2_0 : Int) (x2_2 : jai) (rec : Int → Option Res) (x2_1 : Int) : Option Res :=
 cond (decide (x2_1 < (((List.length x2_2.2.2.2.2.2.2.2.1) : Nat) : Int)))
 (cond (decide ((0 : Int) ≤ x2_1 ∧ x2_1 < (((List.length x2_2.2.2.2.2.2.2.2.1) : Nat) : Int)))
 (cond (decide ((IntKind.wrap .u64 (rdd jbq x2_2.2.2.2.2.2.2.2.1 (Int.toNat x2_1)).1) ≥ x2_0))
 (k_r false)
 (cond (decide (x2_1 > (0 : Int)))
 (cond (decide ((0 : Int) ≤ (IntKind.wrap .i64 (x2_1 - (1 : Int))) ∧ (IntKind.wrap .i64 (x2_1 - (1 : Int))) < (((List.length x2_2.2.2.2.2.2.2.2.1) : Nat) : Int)))
 (cond (decide ((rdd jbq x2_2.2.2.2.2.2.2.2.1 (Int.toNat x2_1)).1 ≤ (rdd jbq x2_2.2.2.2.2.2.2.2.1 (Int.toNat (IntKind.wrap .i64 (x2_1 - (1 : Int))))).1))
 (k_r false)
 (cond (decide ((rdd jbq x2_2.2.2.2.2.2.2.2.1 (Int.toNat x2_1)).2.1 < (0 : Int)))
 (k_r false)
 (cond (decide ((rdd jbq x2_2.2.2.2.2.2.2.2.1 (Int.toNat x2_1)).2.1 > (65535 : Int)))
 (k_r false)
 (rec (IntKind.wrap .i64 (x2_1 + (1 : Int)))))))
 (none))
 (cond (decide ((rdd jbq x2_2.2.2.2.2.2.2.2.1 (Int.toNat x2_1)).2.1 < (0 : Int)))
 (k_r false)
 (cond (decide ((rdd jbq x2_2.2.2.2.2.2.2.2.1 (Int.toNat x2_1)).2.1 > (65535 : Int)))
 (k_r false)
 (rec (IntKind.wrap .i64 (x2_1 + (1 : Int))))))))
 (none))
 (k_t2 ())
def jbt (n : Nat) (k_r : Bool → Option Res) (k_t2 : Unit → Option Res) (x2_0 : Int) (x2_2 : jai) : Nat → Int → Option Res
  | 0, _ => none
  | m + 1, x2_1 => jrR n k_r k_t2 x2_0 x2_2 (jbt n k_r k_t2 x2_0 x2_2 m) x2_1
def jNX (n : Nat) (a0 : jai) : Option Res :=
 cond (decide (a0.1 < (1 : Int)))
 (some (jaa jas jat ((false, ()), ())))
 (cond (decide (a0.1 > (65534 : Int)))
 (some (jaa jas jat ((false, ()), ())))
 (cond (decide (a0.2.1 < (0 : Int)))
 (some (jaa jas jat ((false, ()), ())))
 (cond (decide (a0.2.1 > (256 : Int)))
 (some (jaa jas jat ((false, ()), ())))
 (cond (decide (a0.2.2.2.2.2.2.2.2.1 < (0 : Int)))
 (some (jaa jas jat ((false, ()), ())))
 (cond (decide (a0.2.2.2.2.2.2.2.2.1 > (65535 : Int)))
 (some (jaa jas jat ((false, ()), ())))
 (cond (a0.2.2.2.1 == (0 : Int))
 (cond (a0.2.2.1 != (0 : Int))
 (some (jaa jas jat ((false, ()), ())))
 (cond (a0.2.2.2.2.1 != (0 : Int))
 (some (jaa jas jat ((false, ()), ())))
 (cond (a0.2.2.2.1 != (0 : Int))
 (cond (decide (a0.2.2.2.1 < (1 : Int)))
 (some (jaa jas jat ((false, ()), ())))
 (cond (decide (a0.2.2.2.1 > (16 : Int)))
 (some (jaa jas jat ((false, ()), ())))
 (cond (decide (a0.2.2.2.2.1 < (1 : Int)))
 (some (jaa jas jat ((false, ()), ())))
 (cond (decide (a0.2.2.2.2.1 > (256 : Int)))
 (some (jaa jas jat ((false, ()), ())))
 (cond (decide (a0.2.2.1 < (0 : Int)))
 (some (jaa jas jat ((false, ()), ())))
 (cond (decide (a0.2.2.1 > (2048 : Int)))
 (some (jaa jas jat ((false, ()), ())))
 (cond (a0.2.2.2.2.2.2.1 == (0 : Int))
 (cond (a0.2.2.2.2.2.1 != (0 : Int))
 (some (jaa jas jat ((false, ()), ())))
 (cond (decide ((((List.length a0.2.2.2.2.2.2.2.1) : Nat) : Int) > (0 : Int)))
 (some (jaa jas jat ((false, ()), ())))
 (cond (a0.2.2.2.2.2.2.1 != (0 : Int))
 (cond (decide (a0.2.2.2.2.2.2.1 < (1 : Int)))
 (some (jaa jas jat ((false, ()), ())))
 (cond (decide (a0.2.2.2.2.2.2.1 > (32 : Int)))
 (some (jaa jas jat ((false, ()), ())))
 (cond (decide (a0.2.2.2.2.2.1 < (0 : Int)))
 (some (jaa jas jat ((false, ()), ())))
 (cond (decide (a0.2.2.2.2.2.1 > (2048 : Int)))
 (some (jaa jas jat ((false, ()), ())))
 (cond (decide ((((List.length a0.2.2.2.2.2.2.2.1) : Nat) : Int) > (32 : Int)))
 (some (jaa jas jat ((false, ()), ())))
 (jbu n
  (fun y1 => jbt n
  (fun y2 => some (jaa jas jat ((y2, ()), ())))
  (fun _ => some (jaa jas jat ((true, ()), ())))
  y1
  a0
  n
  (0 : Int))
  a0
  n
  (1 : Int)
  (0 : Int)))))))
 (cond (decide ((((List.length a0.2.2.2.2.2.2.2.1) : Nat) : Int) > (32 : Int)))
 (some (jaa jas jat ((false, ()), ())))
 (jbu n
  (fun y3 => jbt n
  (fun y4 => some (jaa jas jat ((y4, ()), ())))
  (fun _ => some (jaa jas jat ((true, ()), ())))
  y3
  a0
  n
  (0 : Int))
  a0
  n
  (1 : Int)
  (0 : Int))))))
 (cond (a0.2.2.2.2.2.2.1 != (0 : Int))
 (cond (decide (a0.2.2.2.2.2.2.1 < (1 : Int)))
 (some (jaa jas jat ((false, ()), ())))
 (cond (decide (a0.2.2.2.2.2.2.1 > (32 : Int)))
 (some (jaa jas jat ((false, ()), ())))
 (cond (decide (a0.2.2.2.2.2.1 < (0 : Int)))
 (some (jaa jas jat ((false, ()), ())))
 (cond (decide (a0.2.2.2.2.2.1 > (2048 : Int)))
 (some (jaa jas jat ((false, ()), ())))
 (cond (decide ((((List.length a0.2.2.2.2.2.2.2.1) : Nat) : Int) > (32 : Int)))
 (some (jaa jas jat ((false, ()), ())))
 (jbu n
  (fun y5 => jbt n
  (fun y6 => some (jaa jas jat ((y6, ()), ())))
  (fun _ => some (jaa jas jat ((true, ()), ())))
  y5
  a0
  n
  (0 : Int))
  a0
  n
  (1 : Int)
  (0 : Int)))))))
 (cond (decide ((((List.length a0.2.2.2.2.2.2.2.1) : Nat) : Int) > (32 : Int)))
 (some (jaa jas jat ((false, ()), ())))
 (jbu n
  (fun y7 => jbt n
  (fun y8 => some (jaa jas jat ((y8, ()), ())))
  (fun _ => some (jaa jas jat ((true, ()), ())))
  y7
  a0
  n
  (0 : Int))
  a0
  n
  (1 : Int)
  (0 : Int)))))))))))
 (cond (a0.2.2.2.2.2.2.1 == (0 : Int))
 (cond (a0.2.2.2.2.2.1 != (0 : Int))
 (some (jaa jas jat ((false, ()), ())))
 (cond (decide ((((List.length a0.2.2.2.2.2.2.2.1) : Nat) : Int) > (0 : Int)))
 (some (jaa jas jat ((false, ()), ())))
 (cond (a0.2.2.2.2.2.2.1 != (0 : Int))
 (cond (decide (a0.2.2.2.2.2.2.1 < (1 : Int)))
 (some (jaa jas jat ((false, ()), ())))
 (cond (decide (a0.2.2.2.2.2.2.1 > (32 : Int)))
 (some (jaa jas jat ((false, ()), ())))
 (cond (decide (a0.2.2.2.2.2.1 < (0 : Int)))
 (some (jaa jas jat ((false, ()), ())))
 (cond (decide (a0.2.2.2.2.2.1 > (2048 : Int)))
 (some (jaa jas jat ((false, ()), ())))
 (cond (decide ((((List.length a0.2.2.2.2.2.2.2.1) : Nat) : Int) > (32 : Int)))
 (some (jaa jas jat ((false, ()), ())))
 (jbu n
  (fun y9 => jbt n
  (fun y10 => some (jaa jas jat ((y10, ()), ())))
  (fun _ => some (jaa jas jat ((true, ()), ())))
  y9
  a0
  n
  (0 : Int))
  a0
  n
  (1 : Int)
  (0 : Int)))))))
 (cond (decide ((((List.length a0.2.2.2.2.2.2.2.1) : Nat) : Int) > (32 : Int)))
 (some (jaa jas jat ((false, ()), ())))
 (jbu n
  (fun y11 => jbt n
  (fun y12 => some (jaa jas jat ((y12, ()), ())))
  (fun _ => some (jaa jas jat ((true, ()), ())))
  y11
  a0
  n
  (0 : Int))
  a0
  n
  (1 : Int)
  (0 : Int))))))
 (cond (a0.2.2.2.2.2.2.1 != (0 : Int))
 (cond (decide (a0.2.2.2.2.2.2.1 < (1 : Int)))
 (some (jaa jas jat ((false, ()), ())))
 (cond (decide (a0.2.2.2.2.2.2.1 > (32 : Int)))
 (some (jaa jas jat ((false, ()), ())))
 (cond (decide (a0.2.2.2.2.2.1 < (0 : Int)))
 (some (jaa jas jat ((false, ()), ())))
 (cond (decide (a0.2.2.2.2.2.1 > (2048 : Int)))
 (some (jaa jas jat ((false, ()), ())))
 (cond (decide ((((List.length a0.2.2.2.2.2.2.2.1) : Nat) : Int) > (32 : Int)))
 (some (jaa jas jat ((false, ()), ())))
 (jbu n
  (fun y13 => jbt n
  (fun y14 => some (jaa jas jat ((y14, ()), ())))
  (fun _ => some (jaa jas jat ((true, ()), ())))
  y13
  a0
  n
  (0 : Int))
  a0
  n
  (1 : Int)
  (0 : Int)))))))
 (cond (decide ((((List.length a0.2.2.2.2.2.2.2.1) : Nat) : Int) > (32 : Int)))
 (some (jaa jas jat ((false, ()), ())))
 (jbu n
  (fun y15 => jbt n
  (fun y16 => some (jaa jas jat ((y16, ()), ())))
  (fun _ => some (jaa jas jat ((true, ()), ())))
  y15
  a0
  n
  (0 : Int))
  a0
  n
  (1 : Int)
  (0 : Int))))))))
 (cond (a0.2.2.2.1 != (0 : Int))
 (cond (decide (a0.2.2.2.1 < (1 : Int)))
 (some (jaa jas jat ((false, ()), ())))
 (cond (decide (a0.2.2.2.1 > (16 : Int)))
 (some (jaa jas jat ((false, ()), ())))
 (cond (decide (a0.2.2.2.2.1 < (1 : Int)))
 (some (jaa jas jat ((false, ()), ())))
 (cond (decide (a0.2.2.2.2.1 > (256 : Int)))
 (some (jaa jas jat ((false, ()), ())))
 (cond (decide (a0.2.2.1 < (0 : Int)))
 (some (jaa jas jat ((false, ()), ())))
 (cond (decide (a0.2.2.1 > (2048 : Int)))
 (some (jaa jas jat ((false, ()), ())))
 (cond (a0.2.2.2.2.2.2.1 == (0 : Int))
 (cond (a0.2.2.2.2.2.1 != (0 : Int))
 (some (jaa jas jat ((false, ()), ())))
 (cond (decide ((((List.length a0.2.2.2.2.2.2.2.1) : Nat) : Int) > (0 : Int)))
 (some (jaa jas jat ((false, ()), ())))
 (cond (a0.2.2.2.2.2.2.1 != (0 : Int))
 (cond (decide (a0.2.2.2.2.2.2.1 < (1 : Int)))
 (some (jaa jas jat ((false, ()), ())))
 (cond (decide (a0.2.2.2.2.2.2.1 > (32 : Int)))
 (some (jaa jas jat ((false, ()), ())))
 (cond (decide (a0.2.2.2.2.2.1 < (0 : Int)))
 (some (jaa jas jat ((false, ()), ())))
 (cond (decide (a0.2.2.2.2.2.1 > (2048 : Int)))
 (some (jaa jas jat ((false, ()), ())))
 (cond (decide ((((List.length a0.2.2.2.2.2.2.2.1) : Nat) : Int) > (32 : Int)))
 (some (jaa jas jat ((false, ()), ())))
 (jbu n
  (fun y17 => jbt n
  (fun y18 => some (jaa jas jat ((y18, ()), ())))
  (fun _ => some (jaa jas jat ((true, ()), ())))
  y17
  a0
  n
  (0 : Int))
  a0
  n
  (1 : Int)
  (0 : Int)))))))
 (cond (decide ((((List.length a0.2.2.2.2.2.2.2.1) : Nat) : Int) > (32 : Int)))
 (some (jaa jas jat ((false, ()), ())))
 (jbu n
  (fun y19 => jbt n
  (fun y20 => some (jaa jas jat ((y20, ()), ())))
  (fun _ => some (jaa jas jat ((true, ()), ())))
  y19
  a0
  n
  (0 : Int))
  a0
  n
  (1 : Int)
  (0 : Int))))))
 (cond (a0.2.2.2.2.2.2.1 != (0 : Int))
 (cond (decide (a0.2.2.2.2.2.2.1 < (1 : Int)))
 (some (jaa jas jat ((false, ()), ())))
 (cond (decide (a0.2.2.2.2.2.2.1 > (32 : Int)))
 (some (jaa jas jat ((false, ()), ())))
 (cond (decide (a0.2.2.2.2.2.1 < (0 : Int)))
 (some (jaa jas jat ((false, ()), ())))
 (cond (decide (a0.2.2.2.2.2.1 > (2048 : Int)))
 (some (jaa jas jat ((false, ()), ())))
 (cond (decide ((((List.length a0.2.2.2.2.2.2.2.1) : Nat) : Int) > (32 : Int)))
 (some (jaa jas jat ((false, ()), ())))
 (jbu n
  (fun y21 => jbt n
  (fun y22 => some (jaa jas jat ((y22, ()), ())))
  (fun _ => some (jaa jas jat ((true, ()), ())))
  y21
  a0
  n
  (0 : Int))
  a0
  n
  (1 : Int)
  (0 : Int)))))))
 (cond (decide ((((List.length a0.2.2.2.2.2.2.2.1) : Nat) : Int) > (32 : Int)))
 (some (jaa jas jat ((false, ()), ())))
 (jbu n
  (fun y23 => jbt n
  (fun y24 => some (jaa jas jat ((y24, ()), ())))
  (fun _ => some (jaa jas jat ((true, ()), ())))
  y23
  a0
  n
  (0 : Int))
  a0
  n
  (1 : Int)
  (0 : Int)))))))))))
 (cond (a0.2.2.2.2.2.2.1 == (0 : Int))
 (cond (a0.2.2.2.2.2.1 != (0 : Int))
 (some (jaa jas jat ((false, ()), ())))
 (cond (decide ((((List.length a0.2.2.2.2.2.2.2.1) : Nat) : Int) > (0 : Int)))
 (some (jaa jas jat ((false, ()), ())))
 (cond (a0.2.2.2.2.2.2.1 != (0 : Int))
 (cond (decide (a0.2.2.2.2.2.2.1 < (1 : Int)))
 (some (jaa jas jat ((false, ()), ())))
 (cond (decide (a0.2.2.2.2.2.2.1 > (32 : Int)))
 (some (jaa jas jat ((false, ()), ())))
 (cond (decide (a0.2.2.2.2.2.1 < (0 : Int)))
 (some (jaa jas jat ((false, ()), ())))
 (cond (decide (a0.2.2.2.2.2.1 > (2048 : Int)))
 (some (jaa jas jat ((false, ()), ())))
 (cond (decide ((((List.length a0.2.2.2.2.2.2.2.1) : Nat) : Int) > (32 : Int)))
 (some (jaa jas jat ((false, ()), ())))
 (jbu n
  (fun y25 => jbt n
  (fun y26 => some (jaa jas jat ((y26, ()), ())))
  (fun _ => some (jaa jas jat ((true, ()), ())))
  y25
  a0
  n
  (0 : Int))
  a0
  n
  (1 : Int)
  (0 : Int)))))))
 (cond (decide ((((List.length a0.2.2.2.2.2.2.2.1) : Nat) : Int) > (32 : Int)))
 (some (jaa jas jat ((false, ()), ())))
 (jbu n
  (fun y27 => jbt n
  (fun y28 => some (jaa jas jat ((y28, ()), ())))
  (fun _ => some (jaa jas jat ((true, ()), ())))
  y27
  a0
  n
  (0 : Int))
  a0
  n
  (1 : Int)
  (0 : Int))))))
 (cond (a0.2.2.2.2.2.2.1 != (0 : Int))
 (cond (decide (a0.2.2.2.2.2.2.1 < (1 : Int)))
 (some (jaa jas jat ((false, ()), ())))
 (cond (decide (a0.2.2.2.2.2.2.1 > (32 : Int)))
 (some (jaa jas jat ((false, ()), ())))
 (cond (decide (a0.2.2.2.2.2.1 < (0 : Int)))
 (some (jaa jas jat ((false, ()), ())))
 (cond (decide (a0.2.2.2.2.2.1 > (2048 : Int)))
 (some (jaa jas jat ((false, ()), ())))
 (cond (decide ((((List.length a0.2.2.2.2.2.2.2.1) : Nat) : Int) > (32 : Int)))
 (some (jaa jas jat ((false, ()), ())))
 (jbu n
  (fun y29 => jbt n
  (fun y30 => some (jaa jas jat ((y30, ()), ())))
  (fun _ => some (jaa jas jat ((true, ()), ())))
  y29
  a0
  n
  (0 : Int))
  a0
  n
  (1 : Int)
  (0 : Int)))))))
 (cond (decide ((((List.length a0.2.2.2.2.2.2.2.1) : Nat) : Int) > (32 : Int)))
 (some (jaa jas jat ((false, ()), ())))
 (jbu n
  (fun y31 => jbt n
  (fun y32 => some (jaa jas jat ((y32, ()), ())))
  (fun _ => some (jaa jas jat ((true, ()), ())))
  y31
  a0
  n
  (0 : Int))
  a0
  n
  (1 : Int)
  (0 : Int))))))))))))
def jMH (a0 : _) := jap jas jat (jNX FUEL a0)
def jOP (a0 : _) := (jMH a0).isSome
def q_z1v (a0 : _) := RS.get (jMH a0)
/-! z1w: turnoutref15_Goes -/
abbrev jCX : List EK := [.hs 0 0]
abbrev jDD : List HK := [.row (.int .i64)]
def jrQ (n : Nat) (k_t0 : Nat → (List Int) → Option Res) (x0_2 : jai) (rec : Nat → Int → (List Int) → Option Res) (x0_0 : Nat) (x0_1 : Int) (x0_3 : (List Int)) : Option Res :=
 cond (decide (x0_1 < (((List.length x0_2.2.2.2.2.2.2.2.1) : Nat) : Int)))
 (cond (decide ((0 : Int) ≤ x0_1 ∧ x0_1 < (((List.length x0_2.2.2.2.2.2.2.2.1) : Nat) : Int)))
 (cond (decide (((List.length (cutL (0 : Int) x0_3 0 x0_0)) + 1) * 8 ≤ 2 ^ 46 ∧ ((List.length (cutL (0 : Int) x0_3 0 x0_0)) + 1) ≤ 2 ^ 46))
 (rec ((List.length (cutL (0 : Int) x0_3 0 x0_0)) + 1) (IntKind.wrap .i64 (x0_1 + (1 : Int))) ((cutL (0 : Int) x0_3 0 x0_0) ++ [(rdd jbq x0_2.2.2.2.2.2.2.2.1 (Int.toNat x0_1)).2.1]))
 (none))
 (none))
 (k_t0 x0_0 x0_3)
def jjT (n : Nat) (k_t0 : Nat → (List Int) → Option Res) (x0_2 : jai) : Nat → Nat → Int → (List Int) → Option Res
  | 0, _, _, _ => none
  | m + 1, x0_0, x0_1, x0_3 => jrQ n k_t0 x0_2 (jjT n k_t0 x0_2 m) x0_0 x0_1 x0_3
def jNW (n : Nat) (a0 : jai) : Option Res :=
 jjT n
  (fun y1 y2 => cond (decide (((List.length (cutL (0 : Int) y2 0 y1)) + 1) * 8 ≤ 2 ^ 46 ∧ ((List.length (cutL (0 : Int) y2 0 y1)) + 1) ≤ 2 ^ 46))
 (some (jaa jCX jDD ((((List.length (cutL (0 : Int) y2 0 y1)) + 1), ()), (((cutL (0 : Int) y2 0 y1) ++ [a0.2.2.2.2.2.2.2.2.1]), ()))))
 (none))
  a0
  n
  0
  (0 : Int)
  ([])
def jMG (a0 : _) := jap jCX jDD (jNW FUEL a0)
def jyu (a0 : _) := (jMG a0).isSome
def jKX (a0 : _) := RS.get (jMG a0)
/-! z1x: turnoutref15_Find -/
abbrev jxq : List EK := [.agg jay, .ty .bool]
abbrev jxU : List HK := []
def jrP (n : Nat) (k_r : Bool → jai → Option Res) (k_t0 : Unit → Option Res) (x0_0 : (List jai)) (x0_1 : Int) (x0_3 : jai) (rec : Int → Option Res) (x0_2 : Int) : Option Res :=
 cond (decide (x0_2 < (((List.length x0_0) : Nat) : Int)))
 (cond (decide ((0 : Int) ≤ x0_2 ∧ x0_2 < (((List.length x0_0) : Nat) : Int)))
 (cond ((rdd jaC x0_0 (Int.toNat x0_2)).1 == x0_1)
 (cond (decide ((0 : Int) ≤ x0_2 ∧ x0_2 < (((List.length x0_0) : Nat) : Int)))
 (k_r true (rdd jaC x0_0 (Int.toNat x0_2)))
 (none))
 (rec (IntKind.wrap .i64 (x0_2 + (1 : Int)))))
 (none))
 (k_t0 ())
def jjS (n : Nat) (k_r : Bool → jai → Option Res) (k_t0 : Unit → Option Res) (x0_0 : (List jai)) (x0_1 : Int) (x0_3 : jai) : Nat → Int → Option Res
  | 0, _ => none
  | m + 1, x0_2 => jrP n k_r k_t0 x0_0 x0_1 x0_3 (jjS n k_r k_t0 x0_0 x0_1 x0_3 m) x0_2
def M_z1x (n : Nat) (a0 : (List jai)) (a1 : Int) : Option Res :=
 jjS n
  (fun y1 y2 => some (jaa jxq jxU ((y2, (y1, ())), ())))
  (fun _ => some (jaa jxq jxU ((((0 : Int), ((0 : Int), ((0 : Int), ((0 : Int), ((0 : Int), ((0 : Int), ((0 : Int), ([], ((0 : Int), ()))))))))), (false, ())), ())))
  a0
  a1
  ((0 : Int), ((0 : Int), ((0 : Int), ((0 : Int), ((0 : Int), ((0 : Int), ((0 : Int), ([], ((0 : Int), ())))))))))
  n
  (0 : Int)
def jMF (a0 a1 : _) := jap jxq jxU (M_z1x FUEL a0 a1)
def jOO (a0 a1 : _) := (jMF a0 a1).isSome
def q_z1x (a0 a1 : _) := RS.get (jMF a0 a1)
/-! z1y: turnoutref15_ranks -/
abbrev jCW : List EK := [.hs 0 0]
abbrev jDC : List HK := [.row (.int .i64)]
def jrL (n : Nat) (k_t6 : (List Int) → Option Res) (x6_0 : (List jai)) (x6_1 : Int) (x6_2 : Nat) (x6_3 : Int) (x6_4 : Nat) (x6_5 : Int) (x6_6 : Nat) (x6_7 : Int) (x6_9 : (List Int)) (x6_11 : (List Int)) (rec : Int → (List Int) → Option Res) (x6_8 : Int) (x6_10 : (List Int)) : Option Res :=
 cond (decide (x6_8 < (((List.length x6_0) : Nat) : Int)))
 (cond (decide ((0 : Int) ≤ x6_8 ∧ x6_8 < (((List.length x6_0) : Nat) : Int)))
 (cond (decide ((0 : Int) ≤ x6_7 ∧ x6_7 < ((x6_6 : Nat) : Int)))
 (cond ((rdd jaC x6_0 (Int.toNat x6_8)).1 == (rdd (0 : Int) x6_11 (Int.toNat x6_7)))
 (cond (decide ((0 : Int) ≤ x6_5 ∧ x6_5 < ((x6_4 : Nat) : Int)))
 (cond (decide ((0 : Int) ≤ x6_8 ∧ x6_8 < ((x6_2 : Nat) : Int)))
 (let y2 : Int := (if (rdd (0 : Int) x6_9 (Int.toNat x6_8)) > (rdd (0 : Int) x6_10 (Int.toNat x6_5)) then (rdd (0 : Int) x6_9 (Int.toNat x6_8)) else (rdd (0 : Int) x6_10 (Int.toNat x6_5)))
 cond (decide ((0 : Int) ≤ x6_5 ∧ x6_5 < ((x6_4 : Nat) : Int)))
 (rec (IntKind.wrap .i64 (x6_8 + (1 : Int))) (List.set x6_10 (Int.toNat x6_5) y2))
 (none))
 (none))
 (none))
 (rec (IntKind.wrap .i64 (x6_8 + (1 : Int))) x6_10))
 (none))
 (none))
 (k_t6 x6_10)
def jjP (n : Nat) (k_t6 : (List Int) → Option Res) (x6_0 : (List jai)) (x6_1 : Int) (x6_2 : Nat) (x6_3 : Int) (x6_4 : Nat) (x6_5 : Int) (x6_6 : Nat) (x6_7 : Int) (x6_9 : (List Int)) (x6_11 : (List Int)) : Nat → Int → (List Int) → Option Res
  | 0, _, _ => none
  | m + 1, x6_8, x6_10 => jrL n k_t6 x6_0 x6_1 x6_2 x6_3 x6_4 x6_5 x6_6 x6_7 x6_9 x6_11 (jjP n k_t6 x6_0 x6_1 x6_2 x6_3 x6_4 x6_5 x6_6 x6_7 x6_9 x6_11 m) x6_8 x6_10
def jrM (n : Nat) (k_t4 : (List Int) → Option Res) (x4_0 : (List jai)) (x4_1 : Int) (x4_2 : Nat) (x4_3 : Int) (x4_4 : Nat) (x4_5 : Int) (x4_6 : Nat) (x4_8 : (List Int)) (x4_10 : (List Int)) (rec : Int → (List Int) → Option Res) (x4_7 : Int) (x4_9 : (List Int)) : Option Res :=
 cond (decide (x4_7 < ((x4_6 : Nat) : Int)))
 (jjP n
  (fun y3 => rec (IntKind.wrap .i64 (x4_7 + (1 : Int))) y3)
  x4_0
  x4_1
  x4_2
  x4_3
  x4_4
  x4_5
  x4_6
  x4_7
  x4_8
  x4_10
  n
  (0 : Int)
  x4_9)
 (k_t4 x4_9)
def jjQ (n : Nat) (k_t4 : (List Int) → Option Res) (x4_0 : (List jai)) (x4_1 : Int) (x4_2 : Nat) (x4_3 : Int) (x4_4 : Nat) (x4_5 : Int) (x4_6 : Nat) (x4_8 : (List Int)) (x4_10 : (List Int)) : Nat → Int → (List Int) → Option Res
  | 0, _, _ => none
  | m + 1, x4_7, x4_9 => jrM n k_t4 x4_0 x4_1 x4_2 x4_3 x4_4 x4_5 x4_6 x4_8 x4_10 (jjQ n k_t4 x4_0 x4_1 x4_2 x4_3 x4_4 x4_5 x4_6 x4_8 x4_10 m) x4_7 x4_9
def jrN (n : Nat) (k_t2 : (List Int) → Option Res) (x2_0 : (List jai)) (x2_1 : Int) (x2_2 : Nat) (x2_3 : Int) (x2_4 : Nat) (x2_6 : (List Int)) (rec : Int → (List Int) → Option Res) (x2_5 : Int) (x2_7 : (List Int)) : Option Res :=
 cond (decide (x2_5 < (((List.length x2_0) : Nat) : Int)))
 (cond (decide ((0 : Int) ≤ x2_5 ∧ x2_5 < (((List.length x2_0) : Nat) : Int)))
 (let y1 := (jKX (rdd jaC x2_0 (Int.toNat x2_5)))
 cond (jyu (rdd jaC x2_0 (Int.toNat x2_5)))
 (jjQ n
  (fun y4 => cond (decide ((0 : Int) ≤ x2_5 ∧ x2_5 < ((x2_4 : Nat) : Int)))
 (cond (decide ((0 : Int) ≤ x2_5 ∧ x2_5 < ((x2_4 : Nat) : Int)))
 (rec (IntKind.wrap .i64 (x2_5 + (1 : Int))) (List.set y4 (Int.toNat x2_5) (IntKind.wrap .i64 ((rdd (0 : Int) y4 (Int.toNat x2_5)) + (1 : Int)))))
 (none))
 (none))
  x2_0
  x2_1
  x2_2
  x2_3
  x2_4
  x2_5
  y1.1.1
  x2_6
  y1.2.1
  n
  (0 : Int)
  x2_7)
 (none))
 (none))
 (k_t2 x2_7)
def jjR (n : Nat) (k_t2 : (List Int) → Option Res) (x2_0 : (List jai)) (x2_1 : Int) (x2_2 : Nat) (x2_3 : Int) (x2_4 : Nat) (x2_6 : (List Int)) : Nat → Int → (List Int) → Option Res
  | 0, _, _ => none
  | m + 1, x2_5, x2_7 => jrN n k_t2 x2_0 x2_1 x2_2 x2_3 x2_4 x2_6 (jjR n k_t2 x2_0 x2_1 x2_2 x2_3 x2_4 x2_6 m) x2_5 x2_7
def jrO (n : Nat) (k_t0 : Nat → (List Int) → Option Res) (x0_0 : (List jai)) (x0_1 : Int) (rec : Nat → Int → (List Int) → Option Res) (x0_2 : Nat) (x0_3 : Int) (x0_4 : (List Int)) : Option Res :=
 cond (decide (x0_3 < x0_1))
 (cond (decide ((0 : Int) ≤ (((List.length x0_0) : Nat) : Int) ∧ (((List.length x0_0) : Nat) : Int) ≤ (((List.length x0_0) : Nat) : Int) ∧ (8 : Nat) * (((List.length x0_0) : Nat) : Int) ≤ (2 : Int) ^ 46))
 (jjR n
  (fun y5 => rec (Int.toNat (((List.length x0_0) : Nat) : Int)) (IntKind.wrap .i64 (x0_3 + (1 : Int))) y5)
  x0_0
  x0_1
  x0_2
  x0_3
  (Int.toNat (((List.length x0_0) : Nat) : Int))
  x0_4
  n
  (0 : Int)
  (List.replicate (Int.toNat (((List.length x0_0) : Nat) : Int)) (0 : Int)))
 (none))
 (k_t0 x0_2 x0_4)
def jig (n : Nat) (k_t0 : Nat → (List Int) → Option Res) (x0_0 : (List jai)) (x0_1 : Int) : Nat → Nat → Int → (List Int) → Option Res
  | 0, _, _, _ => none
  | m + 1, x0_2, x0_3, x0_4 => jrO n k_t0 x0_0 x0_1 (jig n k_t0 x0_0 x0_1 m) x0_2 x0_3 x0_4
def jNV (n : Nat) (a0 : (List jai)) (a1 : Int) : Option Res :=
 cond (decide ((0 : Int) ≤ (((List.length a0) : Nat) : Int) ∧ (((List.length a0) : Nat) : Int) ≤ (((List.length a0) : Nat) : Int) ∧ (8 : Nat) * (((List.length a0) : Nat) : Int) ≤ (2 : Int) ^ 46))
 (jig n
  (fun y6 y7 => some (jaa jCW jDC ((y6, ()), (y7, ()))))
  a0
  a1
  n
  (Int.toNat (((List.length a0) : Nat) : Int))
  (0 : Int)
  (List.replicate (Int.toNat (((List.length a0) : Nat) : Int)) (0 : Int)))
 (none)
def jME (a0 a1 : _) := jap jCW jDC (jNV FUEL a0 a1)
def jON (a0 a1 : _) := (jME a0 a1).isSome
def q_z1y (a0 a1 : _) := RS.get (jME a0 a1)
/-! z1z: turnoutref15_May -/
abbrev jfv : List EK := [.ty (.int .i64)]
abbrev jfy : List HK := []
def jrK (n : Nat) (k_r : Int → Option Res) (k_t0 : Unit → Option Res) (x0_0 : (List jai)) (rec : Int → Option Res) (x0_1 : Int) : Option Res :=
 cond (decide (x0_1 < (((List.length x0_0) : Nat) : Int)))
 (cond (decide ((0 : Int) ≤ x0_1 ∧ x0_1 < (((List.length x0_0) : Nat) : Int)))
 (let y1 := (q_z1v (rdd jaC x0_0 (Int.toNat x0_1)))
 cond (jOP (rdd jaC x0_0 (Int.toNat x0_1)))
 (cond (!y1.1.1)
 (k_r (3 : Int))
 (cond (decide (x0_1 > (0 : Int)))
 (cond (decide ((0 : Int) ≤ x0_1 ∧ x0_1 < (((List.length x0_0) : Nat) : Int)))
 (cond (decide ((0 : Int) ≤ (IntKind.wrap .i64 (x0_1 - (1 : Int))) ∧ (IntKind.wrap .i64 (x0_1 - (1 : Int))) < (((List.length x0_0) : Nat) : Int)))
 (cond (decide ((rdd jaC x0_0 (Int.toNat x0_1)).1 ≤ (rdd jaC x0_0 (Int.toNat (IntKind.wrap .i64 (x0_1 - (1 : Int))))).1))
 (k_r (3 : Int))
 (rec (IntKind.wrap .i64 (x0_1 + (1 : Int)))))
 (none))
 (none))
 (rec (IntKind.wrap .i64 (x0_1 + (1 : Int))))))
 (none))
 (none))
 (k_t0 ())
def jjO (n : Nat) (k_r : Int → Option Res) (k_t0 : Unit → Option Res) (x0_0 : (List jai)) : Nat → Int → Option Res
  | 0, _ => none
  | m + 1, x0_1 => jrK n k_r k_t0 x0_0 (jjO n k_r k_t0 x0_0 m) x0_1
def jrI (n : Nat) (k_r : Int → Option Res) (k_t4 : Unit → Option Res) (x4_0 : (List jai)) (x4_1 : Int) (x4_2 : Nat) (x4_4 : (List Int)) (rec : Int → Option Res) (x4_3 : Int) : Option Res :=
 cond (decide (x4_3 < ((x4_2 : Nat) : Int)))
 (cond (decide ((0 : Int) ≤ x4_3 ∧ x4_3 < ((x4_2 : Nat) : Int)))
 (let y4 := (q_z1x x4_0 (rdd (0 : Int) x4_4 (Int.toNat x4_3)))
 cond (jOO x4_0 (rdd (0 : Int) x4_4 (Int.toNat x4_3)))
 (cond (!y4.1.2.1)
 (cond (decide ((0 : Int) ≤ x4_3 ∧ x4_3 < ((x4_2 : Nat) : Int)))
 (cond ((rdd (0 : Int) x4_4 (Int.toNat x4_3)) != (0 : Int))
 (cond (decide ((0 : Int) ≤ x4_3 ∧ x4_3 < ((x4_2 : Nat) : Int)))
 (cond ((rdd (0 : Int) x4_4 (Int.toNat x4_3)) != (65535 : Int))
 (k_r (8 : Int))
 (rec (IntKind.wrap .i64 (x4_3 + (1 : Int)))))
 (none))
 (rec (IntKind.wrap .i64 (x4_3 + (1 : Int)))))
 (none))
 (rec (IntKind.wrap .i64 (x4_3 + (1 : Int)))))
 (none))
 (none))
 (k_t4 ())
def jjM (n : Nat) (k_r : Int → Option Res) (k_t4 : Unit → Option Res) (x4_0 : (List jai)) (x4_1 : Int) (x4_2 : Nat) (x4_4 : (List Int)) : Nat → Int → Option Res
  | 0, _ => none
  | m + 1, x4_3 => jrI n k_r k_t4 x4_0 x4_1 x4_2 x4_4 (jjM n k_r k_t4 x4_0 x4_1 x4_2 x4_4 m) x4_3
def jrJ (n : Nat) (k_r : Int → Option Res) (k_t2 : Unit → Option Res) (x2_0 : (List jai)) (rec : Int → Option Res) (x2_1 : Int) : Option Res :=
 cond (decide (x2_1 < (((List.length x2_0) : Nat) : Int)))
 (cond (decide ((0 : Int) ≤ x2_1 ∧ x2_1 < (((List.length x2_0) : Nat) : Int)))
 (let y3 := (jKX (rdd jaC x2_0 (Int.toNat x2_1)))
 cond (jyu (rdd jaC x2_0 (Int.toNat x2_1)))
 (jjM n
  (fun y5 => k_r y5)
  (fun _ => rec (IntKind.wrap .i64 (x2_1 + (1 : Int))))
  x2_0
  x2_1
  y3.1.1
  y3.2.1
  n
  (0 : Int))
 (none))
 (none))
 (k_t2 ())
def jjN (n : Nat) (k_r : Int → Option Res) (k_t2 : Unit → Option Res) (x2_0 : (List jai)) : Nat → Int → Option Res
  | 0, _ => none
  | m + 1, x2_1 => jrJ n k_r k_t2 x2_0 (jjN n k_r k_t2 x2_0 m) x2_1
def jrH (n : Nat) (k_r : Int → Option Res) (k_t6 : Unit → Option Res) (x6_0 : (List jai)) (x6_1 : Nat) (x6_3 : (List Int)) (rec : Int → Option Res) (x6_2 : Int) : Option Res :=
 cond (decide (x6_2 < ((x6_1 : Nat) : Int)))
 (cond (decide ((0 : Int) ≤ x6_2 ∧ x6_2 < ((x6_1 : Nat) : Int)))
 (cond (decide ((rdd (0 : Int) x6_3 (Int.toNat x6_2)) > (((List.length x6_0) : Nat) : Int)))
 (k_r (10 : Int))
 (rec (IntKind.wrap .i64 (x6_2 + (1 : Int)))))
 (none))
 (k_t6 ())
def jjL (n : Nat) (k_r : Int → Option Res) (k_t6 : Unit → Option Res) (x6_0 : (List jai)) (x6_1 : Nat) (x6_3 : (List Int)) : Nat → Int → Option Res
  | 0, _ => none
  | m + 1, x6_2 => jrH n k_r k_t6 x6_0 x6_1 x6_3 (jjL n k_r k_t6 x6_0 x6_1 x6_3 m) x6_2
def juA (n : Nat) (a0 : (List jai)) : Option Res :=
 jjO n
  (fun y2 => some (jaa jfv jfy ((y2, ()), ())))
  (fun _ => cond (decide ((((List.length a0) : Nat) : Int) > (32 : Int)))
 (some (jaa jfv jfy (((12 : Int), ()), ())))
 (jjN n
  (fun y6 => some (jaa jfv jfy ((y6, ()), ())))
  (fun _ => let y7 := (q_z1y a0 (IntKind.wrap .i64 ((((List.length a0) : Nat) : Int) + (1 : Int))))
 cond (jON a0 (IntKind.wrap .i64 ((((List.length a0) : Nat) : Int) + (1 : Int))))
 (jjL n
  (fun y8 => some (jaa jfv jfy ((y8, ()), ())))
  (fun _ => some (jaa jfv jfy (((0 : Int), ()), ())))
  a0
  y7.1.1
  y7.2.1
  n
  (0 : Int))
 (none))
  a0
  n
  (0 : Int)))
  a0
  n
  (0 : Int)
def jMD (a0 : _) := jap jfv jfy (juA FUEL a0)
def jOM (a0 : _) := (jMD a0).isSome
def q_z1z (a0 : _) := RS.get (jMD a0)
/-! z20: turnoutref16_sizes -/
abbrev jfm : List EK := [.ty .bool]
abbrev jfn : List HK := []
def M_z20 (n : Nat) (a0 : jai) : Option Res :=
 cond (decide (a0.2.1 < (0 : Int)))
 (some (jaa jfm jfn ((false, ()), ())))
 (cond (decide (a0.2.1 > (256 : Int)))
 (some (jaa jfm jfn ((false, ()), ())))
 (cond (decide (a0.2.2.1 < (0 : Int)))
 (some (jaa jfm jfn ((false, ()), ())))
 (cond (decide (a0.2.2.1 > (2048 : Int)))
 (some (jaa jfm jfn ((false, ()), ())))
 (cond (decide (a0.2.2.2.1 < (0 : Int)))
 (some (jaa jfm jfn ((false, ()), ())))
 (cond (decide (a0.2.2.2.1 > (16 : Int)))
 (some (jaa jfm jfn ((false, ()), ())))
 (cond (a0.2.2.2.1 == (0 : Int))
 (cond (a0.2.2.1 == (0 : Int))
 (some (jaa jfm jfn (((a0.2.2.2.2.1 == (0 : Int)), ()), ())))
 (some (jaa jfm jfn ((false, ()), ()))))
 (cond (decide (a0.2.2.2.2.1 ≥ (1 : Int)))
 (some (jaa jfm jfn (((decide (a0.2.2.2.2.1 ≤ (256 : Int))), ()), ())))
 (some (jaa jfm jfn ((false, ()), ()))))))))))
def jMC (a0 : _) := jap jfm jfn (M_z20 FUEL a0)
def jOL (a0 : _) := (jMC a0).isSome
def q_z20 (a0 : _) := RS.get (jMC a0)
/-! z21: turnoutref02_May -/
abbrev jlq : List EK := [.ty (.int .i64)]
abbrev jlE : List HK := []
def jKq (n : Nat) (a0 : ByteArray) (a1 : Int) (a2 : Int) : Option Res :=
 cond (decide (a2 < (1 : Int)))
 (some (jaa jlq jlE (((1 : Int), ()), ())))
 (cond (decide (a2 > (128 : Int)))
 (some (jaa jlq jlE (((1 : Int), ()), ())))
 (cond (decide (a1 < (0 : Int)))
 (some (jaa jlq jlE (((1 : Int), ()), ())))
 (let y1 : Int := (IntKind.wrap .i64 ((IntKind.wrap .i64 ((8 : Int) * ((ByteArray.size a0 : Nat) : Int))) - a2))
 cond (decide (a1 > y1))
 (some (jaa jlq jlE (((4 : Int), ()), ())))
 (some (jaa jlq jlE (((0 : Int), ()), ()))))))
def jJE (a0 a1 a2 : _) := jap jlq jlE (jKq FUEL a0 a1 a2)
def jmc (a0 a1 a2 : _) := (jJE a0 a1 a2).isSome
def jvj (a0 a1 a2 : _) := RS.get (jJE a0 a1 a2)
/-! z22: turnoutref02_Bit -/
abbrev jCV : List EK := [.ty (.int .u64)]
abbrev jDB : List HK := []
def jrG (n : Nat) (k_t0 : Int → Option Res) (rec : Int → Int → Option Res) (x0_0 : Int) (x0_1 : Int) : Option Res :=
 cond (decide (x0_1 < (7 : Int)))
 (cond ((2 : Int) != 0)
 (rec (IntKind.wrap .i64 (Int.tdiv x0_0 (2 : Int))) (IntKind.wrap .i64 (x0_1 + (1 : Int))))
 (none))
 (k_t0 x0_0)
def jjK (n : Nat) (k_t0 : Int → Option Res) : Nat → Int → Int → Option Res
  | 0, _, _ => none
  | m + 1, x0_0, x0_1 => jrG n k_t0 (jjK n k_t0 m) x0_0 x0_1
def jNU (n : Nat) (a0 : ByteArray) (a1 : Int) : Option Res :=
 cond ((8 : Int) != 0)
 (cond (decide ((0 : Int) ≤ (IntKind.wrap .i64 (Int.tdiv a1 (8 : Int))) ∧ (IntKind.wrap .i64 (Int.tdiv a1 (8 : Int))) < ((ByteArray.size a0 : Nat) : Int)))
 (cond ((8 : Int) != 0)
 (jjK n
  (fun y1 => cond ((2 : Int) != 0)
 (some (jaa jCV jDB (((IntKind.wrap .u64 (Int.tmod y1 (2 : Int))), ()), ())))
 (none))
  n
  (IntKind.wrap .i64 (jbs a0 (Int.toNat (IntKind.wrap .i64 (Int.tdiv a1 (8 : Int))))))
  (Int.tmod a1 (8 : Int)))
 (none))
 (none))
 (none)
def jMB (a0 a1 : _) := jap jCV jDB (jNU FUEL a0 a1)
def jyt (a0 a1 : _) := (jMB a0 a1).isSome
def jKW (a0 a1 : _) := RS.get (jMB a0 a1)
/-! z23: turnoutref02_Twice -/
abbrev jCU : List EK := [.agg jaL]
abbrev jDA : List HK := []
def jNT (n : Nat) (a0 : jaW) (a1 : Int) : Option Res :=
 cond ((9223372036854775808 : Int) != 0)
 (let y1 : Int := (IntKind.wrap .u64 ((IntKind.wrap .u64 (a0.1 * (2 : Int))) + (IntKind.wrap .u64 (Int.tdiv a0.2.1 (9223372036854775808 : Int)))))
 some (jaa jCU jDA (((y1, ((IntKind.wrap .u64 ((IntKind.wrap .u64 (a0.2.1 * (2 : Int))) + a1)), ())), ()), ())))
 (none)
def jMA (a0 a1 : _) := jap jCU jDA (jNT FUEL a0 a1)
def jOK (a0 a1 : _) := (jMA a0 a1).isSome
def q_z23 (a0 a1 : _) := RS.get (jMA a0 a1)
/-! z24: turnoutref02_Get -/
abbrev jnY : List EK := [.agg jaL, .ty (.int .i64)]
abbrev jof : List HK := []
def jkj (n : Nat) (k_t0 : jaW → Option Res) (x0_0 : ByteArray) (x0_1 : Int) (x0_2 : Int) (x0_3 : Int) (x0_5 : jaW) (rec : Int → jaW → Option Res) (x0_4 : Int) (x0_6 : jaW) : Option Res :=
 cond (decide (x0_4 < x0_2))
 (cond (x0_3 == (0 : Int))
 (let y2 := (jKW x0_0 (IntKind.wrap .i64 (x0_1 + x0_4)))
 cond (jyt x0_0 (IntKind.wrap .i64 (x0_1 + x0_4)))
 (let y3 := (q_z23 x0_6 y2.1.1)
 cond (jOK x0_6 y2.1.1)
 (rec (IntKind.wrap .i64 (x0_4 + (1 : Int))) y3.1.1)
 (none))
 (none))
 (k_t0 x0_6))
 (k_t0 x0_6)
def jfW (n : Nat) (k_t0 : jaW → Option Res) (x0_0 : ByteArray) (x0_1 : Int) (x0_2 : Int) (x0_3 : Int) (x0_5 : jaW) : Nat → Int → jaW → Option Res
  | 0, _, _ => none
  | m + 1, x0_4, x0_6 => jkj n k_t0 x0_0 x0_1 x0_2 x0_3 x0_5 (jfW n k_t0 x0_0 x0_1 x0_2 x0_3 x0_5 m) x0_4 x0_6
def jKp (n : Nat) (a0 : ByteArray) (a1 : Int) (a2 : Int) : Option Res :=
 let y1 := (jvj a0 a1 a2)
 cond (jmc a0 a1 a2)
 (jfW n
  (fun y4 => some (jaa jnY jof ((y4, (y1.1.1, ())), ())))
  a0
  a1
  a2
  y1.1.1
  ((0 : Int), ((0 : Int), ()))
  n
  (0 : Int)
  ((0 : Int), ((0 : Int), ())))
 (none)
def jMz (a0 a1 a2 : _) := jap jnY jof (jKp FUEL a0 a1 a2)
def jys (a0 a1 a2 : _) := (jMz a0 a1 a2).isSome
def jKV (a0 a1 a2 : _) := RS.get (jMz a0 a1 a2)
/-! z25: turnoutref16_number -/
abbrev jsz : List EK := [.ty (.int .i64), .ty .bool]
abbrev jsP : List HK := []
def jNS (n : Nat) (a0 : ByteArray) (a1 : Int) (a2 : Int) (a3 : Int) : Option Res :=
 cond (decide (a1 < (0 : Int)))
 (some (jaa jsz jsP (((0 : Int), (false, ())), ())))
 (cond (decide (a1 > ((ByteArray.size a0 : Nat) : Int)))
 (some (jaa jsz jsP (((0 : Int), (false, ())), ())))
 (cond (decide ((0 : Int) ≤ a1 ∧ a1 ≤ ((ByteArray.size a0 : Nat) : Int) ∧ ((ByteArray.size a0 : Nat) : Int) ≤ ((ByteArray.size a0 : Nat) : Int)))
 (let y1 : ByteArray := (ByteArray.extract a0 (Int.toNat a1) (Int.toNat ((ByteArray.size a0 : Nat) : Int)))
 let y2 := (jKV y1 a2 a3)
 cond (jys y1 a2 a3)
 (some (jaa jsz jsP (((IntKind.wrap .i64 y2.1.1.2.1), ((y2.1.2.1 == (0 : Int)), ())), ())))
 (none))
 (none)))
def jMy (a0 a1 a2 a3 : _) := jap jsz jsP (jNS FUEL a0 a1 a2 a3)
def jyr (a0 a1 a2 a3 : _) := (jMy a0 a1 a2 a3).isSome
def jKU (a0 a1 a2 a3 : _) := RS.get (jMy a0 a1 a2 a3)
/-! z26: turnoutref16_Size -/
abbrev jep : List EK := [.ty (.int .i64), .ty (.int .i64)]
abbrev jer : List HK := []
def jNR (n : Nat) (a0 : jai) (a1 : ByteArray) (a2 : Int) : Option Res :=
 let y1 := (q_z20 a0)
 cond (jOL a0)
 (cond (!y1.1.1)
 (some (jaa jep jer (((0 : Int), ((4 : Int), ())), ())))
 (cond (decide (a0.2.2.2.1 > (0 : Int)))
 (let y2 := (jKU a1 a2 a0.2.2.1 a0.2.2.2.1)
 cond (jyr a1 a2 a0.2.2.1 a0.2.2.2.1)
 (cond (!y2.1.2.1)
 (some (jaa jep jer (((0 : Int), ((1 : Int), ())), ())))
 (cond (decide ((IntKind.wrap .i64 (a0.2.1 + (IntKind.wrap .i64 (a0.2.2.2.2.1 * y2.1.1)))) > (256 : Int)))
 (some (jaa jep jer (((0 : Int), ((2 : Int), ())), ())))
 (cond (decide (a2 < (0 : Int)))
 (some (jaa jep jer (((0 : Int), ((1 : Int), ())), ())))
 (cond (decide (a2 > ((ByteArray.size a1 : Nat) : Int)))
 (some (jaa jep jer (((0 : Int), ((1 : Int), ())), ())))
 (cond (decide ((IntKind.wrap .i64 (a0.2.1 + (IntKind.wrap .i64 (a0.2.2.2.2.1 * y2.1.1)))) > (IntKind.wrap .i64 (((ByteArray.size a1 : Nat) : Int) - a2))))
 (some (jaa jep jer (((0 : Int), ((1 : Int), ())), ())))
 (some (jaa jep jer (((IntKind.wrap .i64 (a0.2.1 + (IntKind.wrap .i64 (a0.2.2.2.2.1 * y2.1.1)))), ((0 : Int), ())), ()))))))))
 (none))
 (cond (decide (a0.2.1 > (256 : Int)))
 (some (jaa jep jer (((0 : Int), ((2 : Int), ())), ())))
 (cond (decide (a2 < (0 : Int)))
 (some (jaa jep jer (((0 : Int), ((1 : Int), ())), ())))
 (cond (decide (a2 > ((ByteArray.size a1 : Nat) : Int)))
 (some (jaa jep jer (((0 : Int), ((1 : Int), ())), ())))
 (cond (decide (a0.2.1 > (IntKind.wrap .i64 (((ByteArray.size a1 : Nat) : Int) - a2))))
 (some (jaa jep jer (((0 : Int), ((1 : Int), ())), ())))
 (some (jaa jep jer ((a0.2.1, ((0 : Int), ())), ())))))))))
 (none)
def jMx (a0 a1 a2 : _) := jap jep jer (jNR FUEL a0 a1 a2)
def jOJ (a0 a1 a2 : _) := (jMx a0 a1 a2).isSome
def q_z26 (a0 a1 a2 : _) := RS.get (jMx a0 a1 a2)
/-! z27: turnoutref16_Walk -/
abbrev jsy : List EK := [.hs 0 0, .ty (.int .i64), .ty (.int .i64)]
abbrev jsO : List HK := [.row jaq]
def jrF (n : Nat) (k_t2 : jai → Option Res) (x2_0 : (List jai)) (x2_1 : ByteArray) (x2_2 : Nat) (x2_3 : Int) (x2_4 : Int) (x2_5 : Int) (x2_7 : (List jan)) (rec : Int → jai → Option Res) (x2_6 : Int) (x2_8 : jai) : Option Res :=
 cond (decide (x2_6 < (((List.length x2_0) : Nat) : Int)))
 (cond (decide ((0 : Int) ≤ x2_6 ∧ x2_6 < (((List.length x2_0) : Nat) : Int)))
 (cond ((rdd jaC x2_0 (Int.toNat x2_6)).1 == x2_3)
 (cond (decide ((0 : Int) ≤ x2_6 ∧ x2_6 < (((List.length x2_0) : Nat) : Int)))
 (rec (IntKind.wrap .i64 (x2_6 + (1 : Int))) (rdd jaC x2_0 (Int.toNat x2_6)))
 (none))
 (rec (IntKind.wrap .i64 (x2_6 + (1 : Int))) x2_8))
 (none))
 (k_t2 x2_8)
def jjJ (n : Nat) (k_t2 : jai → Option Res) (x2_0 : (List jai)) (x2_1 : ByteArray) (x2_2 : Nat) (x2_3 : Int) (x2_4 : Int) (x2_5 : Int) (x2_7 : (List jan)) : Nat → Int → jai → Option Res
  | 0, _, _ => none
  | m + 1, x2_6, x2_8 => jrF n k_t2 x2_0 x2_1 x2_2 x2_3 x2_4 x2_5 x2_7 (jjJ n k_t2 x2_0 x2_1 x2_2 x2_3 x2_4 x2_5 x2_7 m) x2_6 x2_8
def jrE (n : Nat) (k_t4 : Int → Option Res) (x4_0 : (List jai)) (x4_1 : ByteArray) (x4_2 : Nat) (x4_3 : Int) (x4_4 : Int) (x4_5 : Int) (x4_7 : Int) (x4_9 : (List jan)) (x4_10 : jai) (rec : Int → Int → Option Res) (x4_6 : Int) (x4_8 : Int) : Option Res :=
 cond (decide (x4_8 < (((List.length x4_10.2.2.2.2.2.2.2.1) : Nat) : Int)))
 (cond (decide ((0 : Int) ≤ x4_8 ∧ x4_8 < (((List.length x4_10.2.2.2.2.2.2.2.1) : Nat) : Int)))
 (cond ((IntKind.wrap .i64 (rdd jbq x4_10.2.2.2.2.2.2.2.1 (Int.toNat x4_8)).1) == x4_7)
 (cond (decide ((0 : Int) ≤ x4_8 ∧ x4_8 < (((List.length x4_10.2.2.2.2.2.2.2.1) : Nat) : Int)))
 (rec ((rdd jbq x4_10.2.2.2.2.2.2.2.1 (Int.toNat x4_8)).2.1) (IntKind.wrap .i64 (x4_8 + (1 : Int))))
 (none))
 (rec x4_6 (IntKind.wrap .i64 (x4_8 + (1 : Int)))))
 (none))
 (k_t4 x4_6)
def jjI (n : Nat) (k_t4 : Int → Option Res) (x4_0 : (List jai)) (x4_1 : ByteArray) (x4_2 : Nat) (x4_3 : Int) (x4_4 : Int) (x4_5 : Int) (x4_7 : Int) (x4_9 : (List jan)) (x4_10 : jai) : Nat → Int → Int → Option Res
  | 0, _, _ => none
  | m + 1, x4_6, x4_8 => jrE n k_t4 x4_0 x4_1 x4_2 x4_3 x4_4 x4_5 x4_7 x4_9 x4_10 (jjI n k_t4 x4_0 x4_1 x4_2 x4_3 x4_4 x4_5 x4_7 x4_9 x4_10 m) x4_6 x4_8
def jki (n : Nat) (k_r : Nat → Int → Int → (List jan) → Option Res) (x0_0 : (List jai)) (x0_1 : ByteArray) (rec : Nat → Int → Int → Int → (List jan) → Option Res) (x0_2 : Nat) (x0_3 : Int) (x0_4 : Int) (x0_5 : Int) (x0_6 : (List jan)) : Option Res :=
 jjJ n
  (fun y2 => cond (y2.1 == (0 : Int))
 (k_r x0_2 x0_5 (0 : Int) x0_6)
 (let y3 := (q_z26 y2 x0_1 x0_4)
 cond (jOJ y2 x0_1 x0_4)
 (cond (y3.1.2.1 != (0 : Int))
 (k_r x0_2 (IntKind.wrap .i64 (x0_5 + (1 : Int))) y3.1.2.1 x0_6)
 (cond (decide (((List.length (cutL jak x0_6 0 x0_2)) + 1) * 16 ≤ 2 ^ 46 ∧ ((List.length (cutL jak x0_6 0 x0_2)) + 1) ≤ 2 ^ 46))
 (cond (decide (y2.2.2.2.2.2.2.1 > (0 : Int)))
 (let y4 := (jKU x0_1 x0_4 y2.2.2.2.2.2.1 y2.2.2.2.2.2.2.1)
 cond (jyr x0_1 x0_4 y2.2.2.2.2.2.1 y2.2.2.2.2.2.2.1)
 (cond (!y4.1.2.1)
 (k_r ((List.length (cutL jak x0_6 0 x0_2)) + 1) (IntKind.wrap .i64 (x0_5 + (1 : Int))) (1 : Int) ((cutL jak x0_6 0 x0_2) ++ [(x0_3, (x0_4, ()))]))
 (jjI n
  (fun y5 => cond (y5 == (65535 : Int))
 (k_r ((List.length (cutL jak x0_6 0 x0_2)) + 1) (IntKind.wrap .i64 (x0_5 + (1 : Int))) (4 : Int) ((cutL jak x0_6 0 x0_2) ++ [(x0_3, (x0_4, ()))]))
 (cond (y5 == (0 : Int))
 (k_r ((List.length (cutL jak x0_6 0 x0_2)) + 1) (IntKind.wrap .i64 (x0_5 + (1 : Int))) (0 : Int) ((cutL jak x0_6 0 x0_2) ++ [(x0_3, (x0_4, ()))]))
 (rec ((List.length (cutL jak x0_6 0 x0_2)) + 1) y5 (IntKind.wrap .i64 (x0_4 + y3.1.1)) (IntKind.wrap .i64 (x0_5 + (1 : Int))) ((cutL jak x0_6 0 x0_2) ++ [(x0_3, (x0_4, ()))]))))
  x0_0
  x0_1
  ((List.length (cutL jak x0_6 0 x0_2)) + 1)
  x0_4
  (IntKind.wrap .i64 (x0_5 + (1 : Int)))
  y3.1.1
  y4.1.1
  ((cutL jak x0_6 0 x0_2) ++ [(x0_3, (x0_4, ()))])
  y2
  n
  y2.2.2.2.2.2.2.2.2.1
  (0 : Int)))
 (none))
 (cond (y2.2.2.2.2.2.2.2.2.1 == (65535 : Int))
 (k_r ((List.length (cutL jak x0_6 0 x0_2)) + 1) (IntKind.wrap .i64 (x0_5 + (1 : Int))) (4 : Int) ((cutL jak x0_6 0 x0_2) ++ [(x0_3, (x0_4, ()))]))
 (cond (y2.2.2.2.2.2.2.2.2.1 == (0 : Int))
 (k_r ((List.length (cutL jak x0_6 0 x0_2)) + 1) (IntKind.wrap .i64 (x0_5 + (1 : Int))) (0 : Int) ((cutL jak x0_6 0 x0_2) ++ [(x0_3, (x0_4, ()))]))
 (rec ((List.length (cutL jak x0_6 0 x0_2)) + 1) y2.2.2.2.2.2.2.2.2.1 (IntKind.wrap .i64 (x0_4 + y3.1.1)) (IntKind.wrap .i64 (x0_5 + (1 : Int))) ((cutL jak x0_6 0 x0_2) ++ [(x0_3, (x0_4, ()))])))))
 (none)))
 (none)))
  x0_0
  x0_1
  x0_2
  x0_3
  x0_4
  x0_5
  x0_6
  n
  (0 : Int)
  ((0 : Int), ((0 : Int), ((0 : Int), ((0 : Int), ((0 : Int), ((0 : Int), ((0 : Int), ([], ((0 : Int), ())))))))))
def jfi (n : Nat) (k_r : Nat → Int → Int → (List jan) → Option Res) (x0_0 : (List jai)) (x0_1 : ByteArray) : Nat → Nat → Int → Int → Int → (List jan) → Option Res
  | 0, _, _, _, _, _ => none
  | m + 1, x0_2, x0_3, x0_4, x0_5, x0_6 => jki n k_r x0_0 x0_1 (jfi n k_r x0_0 x0_1 m) x0_2 x0_3 x0_4 x0_5 x0_6
def jNQ (n : Nat) (a0 : (List jai)) (a1 : ByteArray) : Option Res :=
 let y1 := (q_z1z a0)
 cond (jOM a0)
 (cond (y1.1.1 != (0 : Int))
 (some (jaa jsy jsO ((0, ((0 : Int), ((0 : Int), ()))), ([], ()))))
 (jfi n
  (fun y6 y7 y8 y9 => some (jaa jsy jsO ((y6, (y7, (y8, ()))), (y9, ()))))
  a0
  a1
  n
  0
  (1 : Int)
  (0 : Int)
  (0 : Int)
  ([])))
 (none)
def jMw (a0 a1 : _) := jap jsy jsO (jNQ FUEL a0 a1)
def ok_z27 (a0 a1 : _) := (jMw a0 a1).isSome
def q_z27 (a0 a1 : _) := RS.get (jMw a0 a1)
/-! z28: turnoutref17_Packet_Walkx493 -/
abbrev jxp : List EK := [.ty (.int .i64), .ty (.int .i64)]
abbrev jxT : List HK := [.one false [.ty .str, .ty .str, .ty (.int .i64), .hs 1 0], .row jaq]
def jNP (n : Nat) (a0 : (List jai)) (a1 : ByteArray) (a2 : ByteArray) (a3 : Int) : Option Res :=
 let y1 := (q_z27 a0 a1)
 cond (ok_z27 a0 a1)
 (cond (decide ((0 + (List.length (cutL jak y1.2.1 0 y1.1.1))) * 16 ≤ 2 ^ 46 ∧ (0 + (List.length (cutL jak y1.2.1 0 y1.1.1))) ≤ 2 ^ 46))
 (some (jaa jxp jxT ((y1.1.2.1, (y1.1.2.2.1, ())), ((a1, (a2, (a3, ((0 + (List.length (cutL jak y1.2.1 0 y1.1.1))), ())))), ((cutL jak y1.2.1 0 y1.1.1), ())))))
 (none))
 (none)
def jMv (a0 a1 a2 a3 : _) := jap jxp jxT (jNP FUEL a0 a1 a2 a3)
def ok_z28 (a0 a1 a2 a3 : _) := (jMv a0 a1 a2 a3).isSome
def q_z28 (a0 a1 a2 a3 : _) := RS.get (jMv a0 a1 a2 a3)
/-! z29: pack_Packet_Lenx135 -/
abbrev jCT : List EK := [.ty (.int .i64)]
abbrev jDz : List HK := [.one false [.ptr 1 0 0, .hs 3 0, .ptr 4 0 0, .ty (.int .i64)], .one false [.hs 2 0], .row (.int .u8), .row jaq, .one false [.hs 5 0], .row (.int .u8)]
def jNO (n : Nat) (a0 : Nat) (a1 : Int) (a2 : Nat) (a3 : (List Int)) (a4 : (List jan)) (a5 : Nat) (a6 : (List Int)) : Option Res :=
 let y1 := (jLb a2 a3)
 cond (jyB a2 a3)
 (some (jaa jCT jDz ((y1.1.1, ()), (((), (a0, ((), (a1, ())))), ((y1.2.1.1, ()), (y1.2.2.1, (a4, ((a5, ()), (a6, ())))))))))
 (none)
def jMu (a0 a1 a2 a3 a4 a5 a6 : _) := jap jCT jDz (jNO FUEL a0 a1 a2 a3 a4 a5 a6)
def jOI (a0 a1 a2 a3 a4 a5 a6 : _) := (jMu a0 a1 a2 a3 a4 a5 a6).isSome
def q_z29 (a0 a1 a2 a3 a4 a5 a6 : _) := RS.get (jMu a0 a1 a2 a3 a4 a5 a6)
/-! z2a: pack_Packet_Metax135 -/
abbrev jCS : List EK := [.ty .str]
abbrev jDy : List HK := [.one false [.ptr 1 0 0, .hs 3 0, .ptr 4 0 0, .ty (.int .i64)], .one false [.hs 2 0], .row (.int .u8), .row jaq, .one false [.hs 5 0], .row (.int .u8)]
def jNN (n : Nat) (a0 : Nat) (a1 : Int) (a2 : Nat) (a3 : (List Int)) (a4 : (List jan)) (a5 : Nat) (a6 : (List Int)) : Option Res :=
 let y1 := (jBA a5 a6)
 cond (joy a5 a6)
 (some (jaa jCS jDy ((y1.1.1, ()), (((), (a0, ((), (a1, ())))), ((a2, ()), (a3, (a4, ((y1.2.1.1, ()), (y1.2.2.1, ())))))))))
 (none)
def jMt (a0 a1 a2 a3 a4 a5 a6 : _) := jap jCS jDy (jNN FUEL a0 a1 a2 a3 a4 a5 a6)
def ok_z2a (a0 a1 a2 a3 a4 a5 a6 : _) := (jMt a0 a1 a2 a3 a4 a5 a6).isSome
def q_z2a (a0 a1 a2 a3 a4 a5 a6 : _) := RS.get (jMt a0 a1 a2 a3 a4 a5 a6)
/-! z2b: turnoutlaw17_alike -/
abbrev jko : List EK := [.ty .bool]
abbrev jiy : List HK := [.one false [.ptr 1 0 0, .hs 3 0, .ptr 4 0 0, .ty (.int .i64)], .one false [.hs 2 0], .row (.int .u8), .row jaq, .one false [.hs 5 0], .row (.int .u8), .one false [.ty .str, .ty .str, .ty (.int .i64), .hs 7 0], .row jaq]
def jrD (n : Nat) (k_t0 : Unit → Option Res) (x0_0 : Nat) (rec : Int → (List jan) → Option Res) (x0_1 : Int) (x0_14 : (List jan)) : Option Res :=
 cond (decide (x0_1 < ((x0_0 : Nat) : Int)))
 (cond (decide ((0 : Int) ≤ x0_1 ∧ x0_1 < ((x0_0 : Nat) : Int)))
 (rec (IntKind.wrap .i64 (x0_1 + (1 : Int))) (List.set x0_14 (Int.toNat x0_1) ((rdd jak x0_14 (Int.toNat x0_1)).1, ((-7 : Int), ()))))
 (none))
 (k_t0 ())
def jjH (n : Nat) (k_t0 : Unit → Option Res) (x0_0 : Nat) : Nat → Int → (List jan) → Option Res
  | 0, _, _ => none
  | m + 1, x0_1, x0_14 => jrD n k_t0 x0_0 (jjH n k_t0 x0_0 m) x0_1 x0_14
def jNM (n : Nat) (a0 : Nat) (a1 : Int) (a2 : Nat) (a3 : (List Int)) (a4 : (List jan)) (a5 : Nat) (a6 : (List Int)) (a7 : ByteArray) (a8 : ByteArray) (a9 : Int) (a10 : Nat) (a11 : (List jan)) : Option Res :=
 let y1 := (jBu a0 a1 a2 a3 a4 a5 a6)
 cond (jow a0 a1 a2 a3 a4 a5 a6)
 (let y2 := (q_z13 y1.2.1.2.1 y1.2.1.2.2.2.1 y1.2.2.1.1 y1.2.2.2.1 y1.2.2.2.2.1 y1.2.2.2.2.2.1.1 y1.2.2.2.2.2.2.1)
 cond (jOR y1.2.1.2.1 y1.2.1.2.2.2.1 y1.2.2.1.1 y1.2.2.2.1 y1.2.2.2.2.1 y1.2.2.2.2.2.1.1 y1.2.2.2.2.2.2.1)
 (cond (y2.1.1 != a9)
 (some (jaa jko jiy ((false, ()), (((), (y2.2.1.2.1, ((), (y2.2.1.2.2.2.1, ())))), ((y2.2.2.1.1, ()), (y2.2.2.2.1, (y2.2.2.2.2.1, ((y2.2.2.2.2.2.1.1, ()), (y2.2.2.2.2.2.2.1, ((a7, (a8, (a9, (a10, ())))), (a11, ())))))))))))
 (let y3 := (jBq y2.2.1.2.1 y2.2.1.2.2.2.1 y2.2.2.1.1 y2.2.2.2.1 y2.2.2.2.2.1 y2.2.2.2.2.2.1.1 y2.2.2.2.2.2.2.1)
 cond (jot y2.2.1.2.1 y2.2.1.2.2.2.1 y2.2.2.1.1 y2.2.2.2.1 y2.2.2.2.2.1 y2.2.2.2.2.2.1.1 y2.2.2.2.2.2.2.1)
 (cond (!(ByteArray.toList y3.1.1 == ByteArray.toList a7))
 (some (jaa jko jiy ((false, ()), (((), (y3.2.1.2.1, ((), (y3.2.1.2.2.2.1, ())))), ((y3.2.2.1.1, ()), (y3.2.2.2.1, (y3.2.2.2.2.1, ((y3.2.2.2.2.2.1.1, ()), (y3.2.2.2.2.2.2.1, ((a7, (a8, (a9, (a10, ())))), (a11, ())))))))))))
 (let y4 := (q_z29 y3.2.1.2.1 y3.2.1.2.2.2.1 y3.2.2.1.1 y3.2.2.2.1 y3.2.2.2.2.1 y3.2.2.2.2.2.1.1 y3.2.2.2.2.2.2.1)
 cond (jOI y3.2.1.2.1 y3.2.1.2.2.2.1 y3.2.2.1.1 y3.2.2.2.1 y3.2.2.2.2.1 y3.2.2.2.2.2.1.1 y3.2.2.2.2.2.2.1)
 (cond (y4.1.1 != ((ByteArray.size a7 : Nat) : Int))
 (some (jaa jko jiy ((false, ()), (((), (y4.2.1.2.1, ((), (y4.2.1.2.2.2.1, ())))), ((y4.2.2.1.1, ()), (y4.2.2.2.1, (y4.2.2.2.2.1, ((y4.2.2.2.2.2.1.1, ()), (y4.2.2.2.2.2.2.1, ((a7, (a8, (a9, (a10, ())))), (a11, ())))))))))))
 (let y5 := (q_z2a y4.2.1.2.1 y4.2.1.2.2.2.1 y4.2.2.1.1 y4.2.2.2.1 y4.2.2.2.2.1 y4.2.2.2.2.2.1.1 y4.2.2.2.2.2.2.1)
 cond (ok_z2a y4.2.1.2.1 y4.2.1.2.2.2.1 y4.2.2.1.1 y4.2.2.2.1 y4.2.2.2.2.1 y4.2.2.2.2.2.1.1 y4.2.2.2.2.2.2.1)
 (cond (!(ByteArray.toList y5.1.1 == ByteArray.toList a8))
 (some (jaa jko jiy ((false, ()), (((), (y5.2.1.2.1, ((), (y5.2.1.2.2.2.1, ())))), ((y5.2.2.1.1, ()), (y5.2.2.2.1, (y5.2.2.2.2.1, ((y5.2.2.2.2.2.1.1, ()), (y5.2.2.2.2.2.2.1, ((a7, (a8, (a9, (a10, ())))), (a11, ())))))))))))
 (let y6 := (jBt (cutL jak y1.2.2.2.2.2.2.2.1 0 y1.1.1) (cutL jak a11 0 a10))
 cond (jov (cutL jak y1.2.2.2.2.2.2.2.1 0 y1.1.1) (cutL jak a11 0 a10))
 (cond (!y6.1.1)
 (some (jaa jko jiy ((false, ()), (((), (y5.2.1.2.1, ((), (y5.2.1.2.2.2.1, ())))), ((y5.2.2.1.1, ()), (y5.2.2.2.1, (y5.2.2.2.2.1, ((y5.2.2.2.2.2.1.1, ()), (y5.2.2.2.2.2.2.1, ((a7, (a8, (a9, (a10, ())))), (a11, ())))))))))))
 (jjH n
  (fun _ => some (jaa jko jiy ((true, ()), (((), (y5.2.1.2.1, ((), (y5.2.1.2.2.2.1, ())))), ((y5.2.2.1.1, ()), (y5.2.2.2.1, (y5.2.2.2.2.1, ((y5.2.2.2.2.2.1.1, ()), (y5.2.2.2.2.2.2.1, ((a7, (a8, (a9, (a10, ())))), (a11, ())))))))))))
  y1.1.1
  n
  (0 : Int)
  y1.2.2.2.2.2.2.2.1))
 (none)))
 (none)))
 (none)))
 (none)))
 (none))
 (none)
def jMs (a0 a1 a2 a3 a4 a5 a6 a7 a8 a9 a10 a11 : _) := jap jko jiy (jNM FUEL a0 a1 a2 a3 a4 a5 a6 a7 a8 a9 a10 a11)
def jos (a0 a1 a2 a3 a4 a5 a6 a7 a8 a9 a10 a11 : _) := (jMs a0 a1 a2 a3 a4 a5 a6 a7 a8 a9 a10 a11).isSome
def jBp (a0 a1 a2 a3 a4 a5 a6 a7 a8 a9 a10 a11 : _) := RS.get (jMs a0 a1 a2 a3 a4 a5 a6 a7 a8 a9 a10 a11)
/-! z2c: buf_Buf_Copyx455 -/
abbrev jCR : List EK := [.ptr 2 0 0]
abbrev jDx : List HK := [.one false [.hs 1 0], .row (.int .u8), .one false [.hs 3 0], .row (.int .u8)]
def jNL (n : Nat) (a0 : Nat) (a1 : (List Int)) : Option Res :=
 some (jaa jCR jDx (((), ()), ((a0, ()), (a1, (((ByteArray.size (bytesOf (cutL (0 : Int) a1 0 a0))), ()), ((jax (bytesOf (cutL (0 : Int) a1 0 a0))), ()))))))
def jMr (a0 a1 : _) := jap jCR jDx (jNL FUEL a0 a1)
def jOH (a0 a1 : _) := (jMr a0 a1).isSome
def q_z2c (a0 a1 : _) := RS.get (jMr a0 a1)
/-! z2d: pack_Packet_Copyx135 -/
abbrev jCQ : List EK := [.ptr 6 0 0]
abbrev jxS : List HK := [.one false [.ptr 1 0 0, .hs 3 0, .ptr 4 0 0, .ty (.int .i64)], .one false [.hs 2 0], .row (.int .u8), .row jaq, .one false [.hs 5 0], .row (.int .u8), .one false [.ptr 7 0 0, .hs 9 0, .ptr 10 0 0, .ty (.int .i64)], .one false [.hs 8 0], .row (.int .u8), .row jaq, .one false [.hs 11 0], .row (.int .u8)]
def jNK (n : Nat) (a0 : Nat) (a1 : Int) (a2 : Nat) (a3 : (List Int)) (a4 : (List jan)) (a5 : Nat) (a6 : (List Int)) : Option Res :=
 let y1 := (q_z2c a2 a3)
 cond (jOH a2 a3)
 (let y2 := (q_z10 (cutL jak a4 0 a0))
 cond (jEr (cutL jak a4 0 a0))
 (let y3 := (q_z2c a5 a6)
 cond (jOH a5 a6)
 (some (jaa jCQ jxS (((), ()), (((), (a0, ((), (a1, ())))), ((y1.2.1.1, ()), (y1.2.2.1, (a4, ((y3.2.1.1, ()), (y3.2.2.1, (((), (y2.1.1, ((), (a1, ())))), ((y1.2.2.2.1.1, ()), (y1.2.2.2.2.1, (y2.2.1, ((y3.2.2.2.1.1, ()), (y3.2.2.2.2.1, ())))))))))))))))
 (none))
 (none))
 (none)
def jMq (a0 a1 a2 a3 a4 a5 a6 : _) := jap jCQ jxS (jNK FUEL a0 a1 a2 a3 a4 a5 a6)
def ok_z2d (a0 a1 a2 a3 a4 a5 a6 : _) := (jMq a0 a1 a2 a3 a4 a5 a6).isSome
def q_z2d (a0 a1 a2 a3 a4 a5 a6 : _) := RS.get (jMq a0 a1 a2 a3 a4 a5 a6)
/-! z2e: buf_Buf_Putx0a7 -/
abbrev jCP : List EK := [.ty (.int .i64)]
abbrev jDw : List HK := []
def M_z2e (n : Nat) (a0 : Int) (a1 : Int) (a2 : jaW) : Option Res :=
 some (jaa jCP jDw (((2 : Int), ()), ()))
def Q_z2e (a0 a1 a2 : _) := jap jCP jDw (M_z2e FUEL a0 a1 a2)
def ok_z2e (a0 a1 a2 : _) := (Q_z2e a0 a1 a2).isSome
def q_z2e (a0 a1 a2 : _) := RS.get (Q_z2e a0 a1 a2)
/-! z2f: field_Put -/
abbrev jsx : List EK := [.ty .str, .ty (.int .i64)]
abbrev jsN : List HK := []
def jrC (n : Nat) (k_t0 : (List Int) → Option Res) (x0_0 : Int) (x0_1 : Int) (x0_2 : Nat) (x0_3 : Int) (x0_5 : jaW) (rec : Int → (List Int) → Option Res) (x0_4 : Int) (x0_6 : (List Int)) : Option Res :=
 cond (decide (x0_4 < x0_3))
 (let y2 : Int := (IntKind.wrap .i64 ((IntKind.wrap .i64 ((IntKind.wrap .i64 (x0_0 + x0_1)) - (1 : Int))) - x0_4))
 cond ((8 : Int) != 0)
 (cond (decide ((0 : Int) ≤ (IntKind.wrap .i64 ((7 : Int) - (Int.tmod y2 (8 : Int))))))
 (let y3 : Int := (IntKind.wrap .u8 ((1 : Int) * 2 ^ (min (Int.toNat (IntKind.wrap .i64 ((7 : Int) - (Int.tmod y2 (8 : Int))))) (IntKind.bits .u8))))
 let y4 := (jBy x0_5 x0_4)
 cond (jyF x0_5 x0_4)
 (let y5 := (jlS (1 : Int))
 cond (jkw (1 : Int))
 (let y6 := (jBx y4.1.1 y5.1.1)
 cond (jtp y4.1.1 y5.1.1)
 (cond (y6.1.1.2.1 == (1 : Int))
 (cond ((8 : Int) != 0)
 (cond (decide ((0 : Int) ≤ (IntKind.wrap .i64 (Int.tdiv y2 (8 : Int))) ∧ (IntKind.wrap .i64 (Int.tdiv y2 (8 : Int))) < ((x0_2 : Nat) : Int)))
 (let y7 : Int := (IntKind.wrap .u8 (BitVec.toNat (BitVec.ofInt (IntKind.bits .u8) (rdd (0 : Int) x0_6 (Int.toNat (IntKind.wrap .i64 (Int.tdiv y2 (8 : Int))))) ||| BitVec.ofInt (IntKind.bits .u8) y3) : Nat))
 cond (decide ((0 : Int) ≤ (IntKind.wrap .i64 (Int.tdiv y2 (8 : Int))) ∧ (IntKind.wrap .i64 (Int.tdiv y2 (8 : Int))) < ((x0_2 : Nat) : Int)))
 (rec (IntKind.wrap .i64 (x0_4 + (1 : Int))) (List.set x0_6 (Int.toNat (IntKind.wrap .i64 (Int.tdiv y2 (8 : Int)))) y7))
 (none))
 (none))
 (none))
 (cond ((8 : Int) != 0)
 (cond (decide ((0 : Int) ≤ (IntKind.wrap .i64 (Int.tdiv y2 (8 : Int))) ∧ (IntKind.wrap .i64 (Int.tdiv y2 (8 : Int))) < ((x0_2 : Nat) : Int)))
 (let y8 : Int := (IntKind.wrap .u8 (BitVec.toNat (BitVec.ofInt (IntKind.bits .u8) (rdd (0 : Int) x0_6 (Int.toNat (IntKind.wrap .i64 (Int.tdiv y2 (8 : Int))))) &&& ~~~(BitVec.ofInt (IntKind.bits .u8) y3)) : Nat))
 cond (decide ((0 : Int) ≤ (IntKind.wrap .i64 (Int.tdiv y2 (8 : Int))) ∧ (IntKind.wrap .i64 (Int.tdiv y2 (8 : Int))) < ((x0_2 : Nat) : Int)))
 (rec (IntKind.wrap .i64 (x0_4 + (1 : Int))) (List.set x0_6 (Int.toNat (IntKind.wrap .i64 (Int.tdiv y2 (8 : Int)))) y8))
 (none))
 (none))
 (none)))
 (none))
 (none))
 (none))
 (none))
 (none))
 (k_t0 x0_6)
def jjG (n : Nat) (k_t0 : (List Int) → Option Res) (x0_0 : Int) (x0_1 : Int) (x0_2 : Nat) (x0_3 : Int) (x0_5 : jaW) : Nat → Int → (List Int) → Option Res
  | 0, _, _ => none
  | m + 1, x0_4, x0_6 => jrC n k_t0 x0_0 x0_1 x0_2 x0_3 x0_5 (jjG n k_t0 x0_0 x0_1 x0_2 x0_3 x0_5 m) x0_4 x0_6
def jKo (n : Nat) (a0 : ByteArray) (a1 : Int) (a2 : Int) (a3 : jaW) : Option Res :=
 let y1 := (jBz a0 a1 a2)
 cond (jox a0 a1 a2)
 (cond (y1.1.1 != (0 : Int))
 (some (jaa jsx jsN (((ByteArray.mk #[]), (y1.1.1, ())), ())))
 (jjG n
  (fun y9 => some (jaa jsx jsN (((bytesOf (cutL (0 : Int) y9 0 (ByteArray.size a0))), ((0 : Int), ())), ())))
  a1
  a2
  (ByteArray.size a0)
  a2
  a3
  n
  (0 : Int)
  (jax a0)))
 (none)
def jJD (a0 a1 a2 a3 : _) := jap jsx jsN (jKo FUEL a0 a1 a2 a3)
def jtm (a0 a1 a2 a3 : _) := (jJD a0 a1 a2 a3).isSome
def jDZ (a0 a1 a2 a3 : _) := RS.get (jJD a0 a1 a2 a3)
/-! z2g: buf_Buf_Putx5d6 -/
abbrev jnX : List EK := [.ty (.int .i64)]
abbrev joe : List HK := [.one false [.hs 1 0], .row (.int .u8)]
def jKn (n : Nat) (a0 : Int) (a1 : Int) (a2 : jaW) (a3 : Nat) (a4 : (List Int)) : Option Res :=
 let y3 := (jBs a0 a1 a3 a4)
 cond (jkv a0 a1 a3 a4)
 (let y4 := (jDZ (bytesOf (cutL (0 : Int) y3.2.2.1 0 y3.1.1)) (IntKind.wrap .i64 (a0 - (IntKind.wrap .i64 ((8 : Int) * y3.1.2.1)))) a1 a2)
 cond (jtm (bytesOf (cutL (0 : Int) y3.2.2.1 0 y3.1.1)) (IntKind.wrap .i64 (a0 - (IntKind.wrap .i64 ((8 : Int) * y3.1.2.1)))) a1 a2)
 (cond (y4.1.2.1 == (0 : Int))
 (cond (decide (0 + y3.1.1 ≤ (List.length y3.2.2.1)))
 (some (jaa jnX joe ((y4.1.2.1, ()), ((y3.2.1.1, ()), (((cutL (0 : Int) y3.2.2.1 0 0) ++ ((cutL (0 : Int) (jax y4.1.1) 0 (Nat.min (ByteArray.size y4.1.1) y3.1.1)) ++ (cutL (0 : Int) y3.2.2.1 (0 + (List.length (cutL (0 : Int) (jax y4.1.1) 0 (Nat.min (ByteArray.size y4.1.1) y3.1.1)))) ((List.length y3.2.2.1) - (0 + (List.length (cutL (0 : Int) (jax y4.1.1) 0 (Nat.min (ByteArray.size y4.1.1) y3.1.1)))))))), ())))))
 (none))
 (some (jaa jnX joe ((y4.1.2.1, ()), ((y3.2.1.1, ()), (y3.2.2.1, ()))))))
 (none))
 (let y1 := (jpO a0 a1 a3 a4)
 cond (jkQ a0 a1 a3 a4)
 (let y2 := (jDZ (bytesOf (cutL (0 : Int) y1.2.2.1 y1.1.1.1 y1.1.1.2)) (IntKind.wrap .i64 (a0 - (IntKind.wrap .i64 ((8 : Int) * y1.1.2.1)))) a1 a2)
 cond (jtm (bytesOf (cutL (0 : Int) y1.2.2.1 y1.1.1.1 y1.1.1.2)) (IntKind.wrap .i64 (a0 - (IntKind.wrap .i64 ((8 : Int) * y1.1.2.1)))) a1 a2)
 (cond (y2.1.2.1 == (0 : Int))
 (cond (decide (y1.1.1.1 + y1.1.1.2 ≤ (List.length y1.2.2.1)))
 (some (jaa jnX joe ((y2.1.2.1, ()), ((y1.2.1.1, ()), (((cutL (0 : Int) y1.2.2.1 0 y1.1.1.1) ++ ((cutL (0 : Int) (jax y2.1.1) 0 (Nat.min (ByteArray.size y2.1.1) y1.1.1.2)) ++ (cutL (0 : Int) y1.2.2.1 (y1.1.1.1 + (List.length (cutL (0 : Int) (jax y2.1.1) 0 (Nat.min (ByteArray.size y2.1.1) y1.1.1.2)))) ((List.length y1.2.2.1) - (y1.1.1.1 + (List.length (cutL (0 : Int) (jax y2.1.1) 0 (Nat.min (ByteArray.size y2.1.1) y1.1.1.2)))))))), ())))))
 (none))
 (some (jaa jnX joe ((y2.1.2.1, ()), ((y1.2.1.1, ()), (y1.2.2.1, ()))))))
 (none))
 (none))
def jMp (a0 a1 a2 a3 a4 : _) := jap jnX joe (jKn FUEL a0 a1 a2 a3 a4)
def jor (a0 a1 a2 a3 a4 : _) := (jMp a0 a1 a2 a3 a4).isSome
def jBo (a0 a1 a2 a3 a4 : _) := RS.get (jMp a0 a1 a2 a3 a4)
/-! z2h: pack_Packet_Putx291 -/
abbrev jfu : List EK := [.ty (.int .i64)]
abbrev jfx : List HK := [.one false [.ptr 1 0 0, .hs 3 0, .ptr 4 0 0, .ty (.int .i64)], .one false [.hs 2 0], .row (.int .u8), .row jaq, .one false [.hs 5 0], .row (.int .u8)]
def juz (n : Nat) (a0 : jaB) (a1 : jaW) (a2 : Nat) (a3 : Int) (a4 : Nat) (a5 : (List Int)) (a6 : (List jan)) (a7 : Nat) (a8 : (List Int)) : Option Res :=
 let y7 := (jvl a0 a2 a3 a4 a5 a6 a7 a8)
 cond (jes a0 a2 a3 a4 a5 a6 a7 a8)
 (cond (y7.1.2.2.1 == (0 : Int))
 (let y8 := (jkL y7.1.2.1 a0.2.2.2.1)
 cond (jfp y7.1.2.1 a0.2.2.2.1)
 (let y9 := (jBo y8.1.1 a0.2.2.2.2.1 a1 y7.2.2.1.1 y7.2.2.2.1)
 cond (jor y8.1.1 a0.2.2.2.2.1 a1 y7.2.2.1.1 y7.2.2.2.1)
 (cond (y9.1.1 != (0 : Int))
 (some (jaa jfu jfx (((1 : Int), ()), (((), (y7.2.1.2.1, ((), (y7.2.1.2.2.2.1, ())))), ((y9.2.1.1, ()), (y9.2.2.1, (y7.2.2.2.2.1, ((y7.2.2.2.2.2.1.1, ()), (y7.2.2.2.2.2.2.1, ())))))))))
 (some (jaa jfu jfx ((y7.1.2.2.1, ()), (((), (y7.2.1.2.1, ((), (y7.2.1.2.2.2.1, ())))), ((y9.2.1.1, ()), (y9.2.2.1, (y7.2.2.2.2.1, ((y7.2.2.2.2.2.1.1, ()), (y7.2.2.2.2.2.2.1, ()))))))))))
 (none))
 (none))
 (some (jaa jfu jfx ((y7.1.2.2.1, ()), (((), (y7.2.1.2.1, ((), (y7.2.1.2.2.2.1, ())))), ((y7.2.2.1.1, ()), (y7.2.2.2.1, (y7.2.2.2.2.1, ((y7.2.2.2.2.2.1.1, ()), (y7.2.2.2.2.2.2.1, ()))))))))))
 (let y4 := (jgS a0 a2 a3 a4 a5 a6 a7 a8)
 cond (jcC a0 a2 a3 a4 a5 a6 a7 a8)
 (cond (y4.1.2.2.1 == (0 : Int))
 (let y5 := (jkL y4.1.2.1 a0.2.2.2.1)
 cond (jfp y4.1.2.1 a0.2.2.2.1)
 (let y6 := (jBo y5.1.1 a0.2.2.2.2.1 a1 y4.2.2.2.2.2.1.1 y4.2.2.2.2.2.2.1)
 cond (jor y5.1.1 a0.2.2.2.2.1 a1 y4.2.2.2.2.2.1.1 y4.2.2.2.2.2.2.1)
 (cond (y6.1.1 != (0 : Int))
 (some (jaa jfu jfx (((1 : Int), ()), (((), (y4.2.1.2.1, ((), (y4.2.1.2.2.2.1, ())))), ((y4.2.2.1.1, ()), (y4.2.2.2.1, (y4.2.2.2.2.1, ((y6.2.1.1, ()), (y6.2.2.1, ())))))))))
 (some (jaa jfu jfx ((y4.1.2.2.1, ()), (((), (y4.2.1.2.1, ((), (y4.2.1.2.2.2.1, ())))), ((y4.2.2.1.1, ()), (y4.2.2.2.1, (y4.2.2.2.2.1, ((y6.2.1.1, ()), (y6.2.2.1, ()))))))))))
 (none))
 (none))
 (some (jaa jfu jfx ((y4.1.2.2.1, ()), (((), (y4.2.1.2.1, ((), (y4.2.1.2.2.2.1, ())))), ((y4.2.2.1.1, ()), (y4.2.2.2.1, (y4.2.2.2.2.1, ((y4.2.2.2.2.2.1.1, ()), (y4.2.2.2.2.2.2.1, ()))))))))))
 (let y1 := (jjg a0 a2 a3 a4 a5 a6 a7 a8)
 cond (jgr a0 a2 a3 a4 a5 a6 a7 a8)
 (cond (y1.1.2.2.1 == (0 : Int))
 (let y2 := (jkL y1.1.2.1 a0.2.2.2.1)
 cond (jfp y1.1.2.1 a0.2.2.2.1)
 (let y3 := (q_z2e y2.1.1 a0.2.2.2.2.1 a1)
 cond (ok_z2e y2.1.1 a0.2.2.2.2.1 a1)
 (cond (y3.1.1 != (0 : Int))
 (some (jaa jfu jfx (((1 : Int), ()), (((), (y1.2.1.2.1, ((), (y1.2.1.2.2.2.1, ())))), ((y1.2.2.1.1, ()), (y1.2.2.2.1, (y1.2.2.2.2.1, ((y1.2.2.2.2.2.1.1, ()), (y1.2.2.2.2.2.2.1, ())))))))))
 (some (jaa jfu jfx ((y1.1.2.2.1, ()), (((), (y1.2.1.2.1, ((), (y1.2.1.2.2.2.1, ())))), ((y1.2.2.1.1, ()), (y1.2.2.2.1, (y1.2.2.2.2.1, ((y1.2.2.2.2.2.1.1, ()), (y1.2.2.2.2.2.2.1, ()))))))))))
 (none))
 (none))
 (some (jaa jfu jfx ((y1.1.2.2.1, ()), (((), (y1.2.1.2.1, ((), (y1.2.1.2.2.2.1, ())))), ((y1.2.2.1.1, ()), (y1.2.2.2.1, (y1.2.2.2.2.1, ((y1.2.2.2.2.2.1.1, ()), (y1.2.2.2.2.2.2.1, ()))))))))))
 (none)))
def jJC (a0 a1 a2 a3 a4 a5 a6 a7 a8 : _) := jap jfu jfx (juz FUEL a0 a1 a2 a3 a4 a5 a6 a7 a8)
def joq (a0 a1 a2 a3 a4 a5 a6 a7 a8 : _) := (jJC a0 a1 a2 a3 a4 a5 a6 a7 a8).isSome
def jBn (a0 a1 a2 a3 a4 a5 a6 a7 a8 : _) := RS.get (jJC a0 a1 a2 a3 a4 a5 a6 a7 a8)
/-! z2i: pack_Packet_Walkx29f -/
abbrev jCO : List EK := [.ty (.int .i64), .ty (.int .i64)]
abbrev jDv : List HK := [.one false [.ptr 1 0 0, .hs 6 0, .ptr 4 0 0, .ty (.int .i64)], .one false [.hs 2 0], .row (.int .u8), .row jaq, .one false [.hs 5 0], .row (.int .u8), .row jaq]
def jNJ (n : Nat) (a0 : (List jai)) (a1 : Nat) (a2 : Int) (a3 : Nat) (a4 : (List Int)) (a5 : (List jan)) (a6 : Nat) (a7 : (List Int)) : Option Res :=
 let y1 := (jBq a1 a2 a3 a4 a5 a6 a7)
 cond (jot a1 a2 a3 a4 a5 a6 a7)
 (let y2 := (q_z0x a0 y1.1.1)
 cond (jEs a0 y1.1.1)
 (some (jaa jCO jDv ((y2.1.2.1, (y2.1.2.2.1, ())), (((), (y2.1.1, ((), (y1.2.1.2.2.2.1, ())))), ((y1.2.2.1.1, ()), (y1.2.2.2.1, (y1.2.2.2.2.1, ((y1.2.2.2.2.2.1.1, ()), (y1.2.2.2.2.2.2.1, (y2.2.1, ()))))))))))
 (none))
 (none)
def jMo (a0 a1 a2 a3 a4 a5 a6 a7 : _) := jap jCO jDv (jNJ FUEL a0 a1 a2 a3 a4 a5 a6 a7)
def jOG (a0 a1 a2 a3 a4 a5 a6 a7 : _) := (jMo a0 a1 a2 a3 a4 a5 a6 a7).isSome
def q_z2i (a0 a1 a2 a3 a4 a5 a6 a7 : _) := RS.get (jMo a0 a1 a2 a3 a4 a5 a6 a7)
/-! z2j: turnoutref17_Packet_Copyxc6f -/
abbrev jCN : List EK := [.ptr 2 0 0]
abbrev jDu : List HK := [.one false [.ty .str, .ty .str, .ty (.int .i64), .hs 1 0], .row jaq, .one false [.ty .str, .ty .str, .ty (.int .i64), .hs 3 0], .row jaq]
def jNI (n : Nat) (a0 : ByteArray) (a1 : ByteArray) (a2 : Int) (a3 : Nat) (a4 : (List jan)) : Option Res :=
 cond (decide ((0 + (List.length (cutL jak a4 0 a3))) * 16 ≤ 2 ^ 46 ∧ (0 + (List.length (cutL jak a4 0 a3))) ≤ 2 ^ 46))
 (some (jaa jCN jDu (((), ()), ((a0, (a1, (a2, (a3, ())))), (a4, ((a0, (a1, (a2, ((0 + (List.length (cutL jak a4 0 a3))), ())))), ((cutL jak a4 0 a3), ())))))))
 (none)
def jMn (a0 a1 a2 a3 a4 : _) := jap jCN jDu (jNI FUEL a0 a1 a2 a3 a4)
def jOF (a0 a1 a2 a3 a4 : _) := (jMn a0 a1 a2 a3 a4).isSome
def q_z2j (a0 a1 a2 a3 a4 : _) := RS.get (jMn a0 a1 a2 a3 a4)
/-! z2k: turnoutref17_Packet_beginx002 -/
abbrev jnW : List EK := [.ty (.int .i64), .ty .bool]
abbrev jod : List HK := [.one false [.ty .str, .ty .str, .ty (.int .i64), .hs 1 0], .row jaq]
def jrB (n : Nat) (k_r : Int → Bool → Option Res) (k_t0 : Unit → Option Res) (x0_4 : Nat) (x0_5 : (List jan)) (x0_6 : jaB) (rec : Int → Option Res) (x0_0 : Int) : Option Res :=
 cond (decide (x0_0 < ((x0_4 : Nat) : Int)))
 (cond (decide ((0 : Int) ≤ x0_0 ∧ x0_0 < ((x0_4 : Nat) : Int)))
 (cond ((rdd jak x0_5 (Int.toNat x0_0)).1 == x0_6.2.2.1)
 (cond (decide ((0 : Int) ≤ x0_0 ∧ x0_0 < ((x0_4 : Nat) : Int)))
 (k_r ((rdd jak x0_5 (Int.toNat x0_0)).2.1) true)
 (none))
 (rec (IntKind.wrap .i64 (x0_0 + (1 : Int)))))
 (none))
 (k_t0 ())
def jjF (n : Nat) (k_r : Int → Bool → Option Res) (k_t0 : Unit → Option Res) (x0_4 : Nat) (x0_5 : (List jan)) (x0_6 : jaB) : Nat → Int → Option Res
  | 0, _ => none
  | m + 1, x0_0 => jrB n k_r k_t0 x0_4 x0_5 x0_6 (jjF n k_r k_t0 x0_4 x0_5 x0_6 m) x0_0
def jNH (n : Nat) (a0 : jaB) (a1 : ByteArray) (a2 : ByteArray) (a3 : Int) (a4 : Nat) (a5 : (List jan)) : Option Res :=
 cond (a0.2.1 == (2 : Int))
 (jjF n
  (fun y1 y2 => some (jaa jnW jod ((y1, (y2, ())), ((a1, (a2, (a3, (a4, ())))), (a5, ())))))
  (fun _ => some (jaa jnW jod (((0 : Int), (false, ())), ((a1, (a2, (a3, (a4, ())))), (a5, ())))))
  a4
  a5
  a0
  n
  (0 : Int))
 (cond (a0.2.1 == (1 : Int))
 (some (jaa jnW jod (((0 : Int), (true, ())), ((a1, (a2, (a3, (a4, ())))), (a5, ())))))
 (some (jaa jnW jod (((0 : Int), ((a0.2.1 == (3 : Int)), ())), ((a1, (a2, (a3, (a4, ())))), (a5, ()))))))
def jMm (a0 a1 a2 a3 a4 a5 : _) := jap jnW jod (jNH FUEL a0 a1 a2 a3 a4 a5)
def jop (a0 a1 a2 a3 a4 a5 : _) := (jMm a0 a1 a2 a3 a4 a5).isSome
def jBm (a0 a1 a2 a3 a4 a5 : _) := RS.get (jMm a0 a1 a2 a3 a4 a5)
/-! z2l: turnoutref17_Packet_inx002 -/
abbrev jxo : List EK := [.ty .str]
abbrev jxR : List HK := [.one false [.ty .str, .ty .str, .ty (.int .i64), .hs 1 0], .row jaq]
def jNG (n : Nat) (a0 : jaB) (a1 : ByteArray) (a2 : ByteArray) (a3 : Int) (a4 : Nat) (a5 : (List jan)) : Option Res :=
 cond (a0.2.1 == (3 : Int))
 (some (jaa jxo jxR ((a2, ()), ((a1, (a2, (a3, (a4, ())))), (a5, ())))))
 (some (jaa jxo jxR ((a1, ()), ((a1, (a2, (a3, (a4, ())))), (a5, ())))))
def jMl (a0 a1 a2 a3 a4 a5 : _) := jap jxo jxR (jNG FUEL a0 a1 a2 a3 a4 a5)
def joo (a0 a1 a2 a3 a4 a5 : _) := (jMl a0 a1 a2 a3 a4 a5).isSome
def jBl (a0 a1 a2 a3 a4 a5 : _) := RS.get (jMl a0 a1 a2 a3 a4 a5)
/-! z2m: turnoutref17_Packet_wrongx002 -/
abbrev jlp : List EK := [.ty (.int .i64)]
abbrev jlD : List HK := [.one false [.ty .str, .ty .str, .ty (.int .i64), .hs 1 0], .row jaq]
def jCl (n : Nat) (a0 : jaB) (a1 : ByteArray) (a2 : ByteArray) (a3 : Int) (a4 : Nat) (a5 : (List jan)) : Option Res :=
 let y1 := (jBm a0 a1 a2 a3 a4 a5)
 cond (jop a0 a1 a2 a3 a4 a5)
 (cond (!y1.1.2.1)
 (some (jaa jlp jlD (((3 : Int), ()), ((y1.2.1.1, (y1.2.1.2.1, (y1.2.1.2.2.1, (y1.2.1.2.2.2.1, ())))), (y1.2.2.1, ())))))
 (cond (decide (a0.2.2.2.1 < (0 : Int)))
 (some (jaa jlp jlD (((1 : Int), ()), ((y1.2.1.1, (y1.2.1.2.1, (y1.2.1.2.2.1, (y1.2.1.2.2.2.1, ())))), (y1.2.2.1, ())))))
 (cond (decide (a0.2.2.2.1 > (73728 : Int)))
 (some (jaa jlp jlD (((1 : Int), ()), ((y1.2.1.1, (y1.2.1.2.1, (y1.2.1.2.2.1, (y1.2.1.2.2.2.1, ())))), (y1.2.2.1, ())))))
 (let y2 := (jBl a0 y1.2.1.1 y1.2.1.2.1 y1.2.1.2.2.1 y1.2.1.2.2.2.1 y1.2.2.1)
 cond (joo a0 y1.2.1.1 y1.2.1.2.1 y1.2.1.2.2.1 y1.2.1.2.2.2.1 y1.2.2.1)
 (let y3 := (jvj y2.1.1 (IntKind.wrap .i64 ((IntKind.wrap .i64 ((8 : Int) * y1.1.1)) + a0.2.2.2.1)) a0.2.2.2.2.1)
 cond (jmc y2.1.1 (IntKind.wrap .i64 ((IntKind.wrap .i64 ((8 : Int) * y1.1.1)) + a0.2.2.2.1)) a0.2.2.2.2.1)
 (cond (y3.1.1 != (0 : Int))
 (some (jaa jlp jlD (((1 : Int), ()), ((y2.2.1.1, (y2.2.1.2.1, (y2.2.1.2.2.1, (y2.2.1.2.2.2.1, ())))), (y2.2.2.1, ())))))
 (some (jaa jlp jlD (((0 : Int), ()), ((y2.2.1.1, (y2.2.1.2.1, (y2.2.1.2.2.1, (y2.2.1.2.2.2.1, ())))), (y2.2.2.1, ()))))))
 (none))
 (none)))))
 (none)
def jJB (a0 a1 a2 a3 a4 a5 : _) := jap jlp jlD (jCl FUEL a0 a1 a2 a3 a4 a5)
def jEn (a0 a1 a2 a3 a4 a5 : _) := (jJB a0 a1 a2 a3 a4 a5).isSome
def q_z2m (a0 a1 a2 a3 a4 a5 : _) := RS.get (jJB a0 a1 a2 a3 a4 a5)
/-! z2n: turnoutref17_Packet_Getx002 -/
abbrev jxn : List EK := [.agg jaL, .ty (.int .i64)]
abbrev jlC : List HK := [.one false [.ty .str, .ty .str, .ty (.int .i64), .hs 1 0], .row jaq]
def jNF (n : Nat) (a0 : jaB) (a1 : ByteArray) (a2 : ByteArray) (a3 : Int) (a4 : Nat) (a5 : (List jan)) : Option Res :=
 let y1 := (q_z2m a0 a1 a2 a3 a4 a5)
 cond (jEn a0 a1 a2 a3 a4 a5)
 (cond (y1.1.1 != (0 : Int))
 (some (jaa jxn jlC ((((0 : Int), ((0 : Int), ())), (y1.1.1, ())), ((y1.2.1.1, (y1.2.1.2.1, (y1.2.1.2.2.1, (y1.2.1.2.2.2.1, ())))), (y1.2.2.1, ())))))
 (let y2 := (jBm a0 y1.2.1.1 y1.2.1.2.1 y1.2.1.2.2.1 y1.2.1.2.2.2.1 y1.2.2.1)
 cond (jop a0 y1.2.1.1 y1.2.1.2.1 y1.2.1.2.2.1 y1.2.1.2.2.2.1 y1.2.2.1)
 (let y3 := (jBl a0 y2.2.1.1 y2.2.1.2.1 y2.2.1.2.2.1 y2.2.1.2.2.2.1 y2.2.2.1)
 cond (joo a0 y2.2.1.1 y2.2.1.2.1 y2.2.1.2.2.1 y2.2.1.2.2.2.1 y2.2.2.1)
 (let y4 := (jKV y3.1.1 (IntKind.wrap .i64 ((IntKind.wrap .i64 ((8 : Int) * y2.1.1)) + a0.2.2.2.1)) a0.2.2.2.2.1)
 cond (jys y3.1.1 (IntKind.wrap .i64 ((IntKind.wrap .i64 ((8 : Int) * y2.1.1)) + a0.2.2.2.1)) a0.2.2.2.2.1)
 (some (jaa jxn jlC ((y4.1.1, ((0 : Int), ())), ((y3.2.1.1, (y3.2.1.2.1, (y3.2.1.2.2.1, (y3.2.1.2.2.2.1, ())))), (y3.2.2.1, ())))))
 (none))
 (none))
 (none)))
 (none)
def jMk (a0 a1 a2 a3 a4 a5 : _) := jap jxn jlC (jNF FUEL a0 a1 a2 a3 a4 a5)
def ok_z2n (a0 a1 a2 a3 a4 a5 : _) := (jMk a0 a1 a2 a3 a4 a5).isSome
def q_z2n (a0 a1 a2 a3 a4 a5 : _) := RS.get (jMk a0 a1 a2 a3 a4 a5)
/-! z2o: turnoutref17_Packet_Atx002 -/
abbrev jlo : List EK := [.ty (.int .i64), .ty (.int .i64)]
abbrev jlB : List HK := [.one false [.ty .str, .ty .str, .ty (.int .i64), .hs 1 0], .row jaq]
def jKm (n : Nat) (a0 : jaB) (a1 : ByteArray) (a2 : ByteArray) (a3 : Int) (a4 : Nat) (a5 : (List jan)) : Option Res :=
 let y1 := (jBm a0 a1 a2 a3 a4 a5)
 cond (jop a0 a1 a2 a3 a4 a5)
 (cond (!y1.1.2.1)
 (some (jaa jlo jlB (((0 : Int), ((3 : Int), ())), ((y1.2.1.1, (y1.2.1.2.1, (y1.2.1.2.2.1, (y1.2.1.2.2.2.1, ())))), (y1.2.2.1, ())))))
 (cond (decide (a0.2.2.2.1 < (0 : Int)))
 (some (jaa jlo jlB (((0 : Int), ((1 : Int), ())), ((y1.2.1.1, (y1.2.1.2.1, (y1.2.1.2.2.1, (y1.2.1.2.2.2.1, ())))), (y1.2.2.1, ())))))
 (cond ((8 : Int) != 0)
 (let y2 := (jBl a0 y1.2.1.1 y1.2.1.2.1 y1.2.1.2.2.1 y1.2.1.2.2.2.1 y1.2.2.1)
 cond (joo a0 y1.2.1.1 y1.2.1.2.1 y1.2.1.2.2.1 y1.2.1.2.2.2.1 y1.2.2.1)
 (cond (decide ((IntKind.wrap .i64 (Int.tdiv a0.2.2.2.1 (8 : Int))) > (IntKind.wrap .i64 (((ByteArray.size y2.1.1 : Nat) : Int) - y1.1.1))))
 (some (jaa jlo jlB (((0 : Int), ((1 : Int), ())), ((y2.2.1.1, (y2.2.1.2.1, (y2.2.1.2.2.1, (y2.2.1.2.2.2.1, ())))), (y2.2.2.1, ())))))
 (cond ((8 : Int) != 0)
 (some (jaa jlo jlB (((IntKind.wrap .i64 (y1.1.1 + (IntKind.wrap .i64 (Int.tdiv a0.2.2.2.1 (8 : Int))))), ((0 : Int), ())), ((y2.2.1.1, (y2.2.1.2.1, (y2.2.1.2.2.1, (y2.2.1.2.2.2.1, ())))), (y2.2.2.1, ())))))
 (none)))
 (none))
 (none))))
 (none)
def jMj (a0 a1 a2 a3 a4 a5 : _) := jap jlo jlB (jKm FUEL a0 a1 a2 a3 a4 a5)
def jOE (a0 a1 a2 a3 a4 a5 : _) := (jMj a0 a1 a2 a3 a4 a5).isSome
def q_z2o (a0 a1 a2 a3 a4 a5 : _) := RS.get (jMj a0 a1 a2 a3 a4 a5)
/-! z2p: turnoutref02_Of -/
abbrev jxm : List EK := [.ty (.int .u64)]
abbrev jxQ : List HK := []
def jrA (n : Nat) (k_t0 : Int → Option Res) (x0_0 : Int) (rec : Int → Int → Option Res) (x0_1 : Int) (x0_2 : Int) : Option Res :=
 cond (decide (x0_2 < x0_0))
 (cond ((2 : Int) != 0)
 (rec (IntKind.wrap .u64 (Int.tdiv x0_1 (2 : Int))) (IntKind.wrap .i64 (x0_2 + (1 : Int))))
 (none))
 (k_t0 x0_1)
def jif (n : Nat) (k_t0 : Int → Option Res) (x0_0 : Int) : Nat → Int → Int → Option Res
  | 0, _, _ => none
  | m + 1, x0_1, x0_2 => jrA n k_t0 x0_0 (jif n k_t0 x0_0 m) x0_1 x0_2
def jNE (n : Nat) (a0 : jaW) (a1 : Int) : Option Res :=
 cond (decide (a1 ≥ (64 : Int)))
 (jif n
  (fun y1 => cond ((2 : Int) != 0)
 (some (jaa jxm jxQ (((Int.tmod y1 (2 : Int)), ()), ())))
 (none))
  (IntKind.wrap .i64 (a1 - (64 : Int)))
  n
  a0.1
  (0 : Int))
 (jif n
  (fun y2 => cond ((2 : Int) != 0)
 (some (jaa jxm jxQ (((Int.tmod y2 (2 : Int)), ()), ())))
 (none))
  a1
  n
  a0.2.1
  (0 : Int))
def jMi (a0 a1 : _) := jap jxm jxQ (jNE FUEL a0 a1)
def ok_z2p (a0 a1 : _) := (jMi a0 a1).isSome
def q_z2p (a0 a1 : _) := RS.get (jMi a0 a1)
/-! z2q: turnoutref02_Put -/
abbrev jxl : List EK := [.ty .str, .ty (.int .i64)]
abbrev jxP : List HK := []
def jry (n : Nat) (k_t2 : Int → Option Res) (x2_0 : ByteArray) (x2_1 : Int) (x2_2 : Int) (x2_3 : ByteArray) (x2_4 : Int) (x2_7 : jaW) (rec : Int → Int → Option Res) (x2_5 : Int) (x2_6 : Int) : Option Res :=
 cond (decide (x2_6 < (IntKind.wrap .i64 ((IntKind.wrap .i64 ((8 : Int) * x2_4)) + (8 : Int)))))
 (cond (decide (x2_6 ≥ x2_1))
 (cond (decide (x2_6 < (IntKind.wrap .i64 (x2_1 + x2_2))))
 (let y2 : Int := (IntKind.wrap .i64 ((IntKind.wrap .i64 ((IntKind.wrap .i64 (x2_1 + x2_2)) - (1 : Int))) - x2_6))
 let y3 := (q_z2p x2_7 y2)
 cond (ok_z2p x2_7 y2)
 (rec (IntKind.wrap .u64 ((IntKind.wrap .u64 (x2_5 * (2 : Int))) + y3.1.1)) (IntKind.wrap .i64 (x2_6 + (1 : Int))))
 (none))
 (let y4 := (jKW x2_0 x2_6)
 cond (jyt x2_0 x2_6)
 (rec (IntKind.wrap .u64 ((IntKind.wrap .u64 (x2_5 * (2 : Int))) + y4.1.1)) (IntKind.wrap .i64 (x2_6 + (1 : Int))))
 (none)))
 (let y5 := (jKW x2_0 x2_6)
 cond (jyt x2_0 x2_6)
 (rec (IntKind.wrap .u64 ((IntKind.wrap .u64 (x2_5 * (2 : Int))) + y5.1.1)) (IntKind.wrap .i64 (x2_6 + (1 : Int))))
 (none)))
 (k_t2 x2_5)
def jjD (n : Nat) (k_t2 : Int → Option Res) (x2_0 : ByteArray) (x2_1 : Int) (x2_2 : Int) (x2_3 : ByteArray) (x2_4 : Int) (x2_7 : jaW) : Nat → Int → Int → Option Res
  | 0, _, _ => none
  | m + 1, x2_5, x2_6 => jry n k_t2 x2_0 x2_1 x2_2 x2_3 x2_4 x2_7 (jjD n k_t2 x2_0 x2_1 x2_2 x2_3 x2_4 x2_7 m) x2_5 x2_6
def jrz (n : Nat) (k_t0 : ByteArray → Option Res) (x0_0 : ByteArray) (x0_1 : Int) (x0_2 : Int) (x0_5 : jaW) (rec : ByteArray → Int → Option Res) (x0_3 : ByteArray) (x0_4 : Int) : Option Res :=
 cond (decide (x0_4 < ((ByteArray.size x0_0 : Nat) : Int)))
 (jjD n
  (fun y6 => cond (decide (ByteArray.size x0_3 + ByteArray.size (bytesOf [(IntKind.wrap .u8 y6)]) ≤ 9223372036854775807))
 (rec (x0_3 ++ (bytesOf [(IntKind.wrap .u8 y6)])) (IntKind.wrap .i64 (x0_4 + (1 : Int))))
 (none))
  x0_0
  x0_1
  x0_2
  x0_3
  x0_4
  x0_5
  n
  (0 : Int)
  (IntKind.wrap .i64 ((8 : Int) * x0_4)))
 (k_t0 x0_3)
def jjE (n : Nat) (k_t0 : ByteArray → Option Res) (x0_0 : ByteArray) (x0_1 : Int) (x0_2 : Int) (x0_5 : jaW) : Nat → ByteArray → Int → Option Res
  | 0, _, _ => none
  | m + 1, x0_3, x0_4 => jrz n k_t0 x0_0 x0_1 x0_2 x0_5 (jjE n k_t0 x0_0 x0_1 x0_2 x0_5 m) x0_3 x0_4
def jND (n : Nat) (a0 : ByteArray) (a1 : Int) (a2 : Int) (a3 : jaW) : Option Res :=
 let y1 := (jvj a0 a1 a2)
 cond (jmc a0 a1 a2)
 (cond (y1.1.1 != (0 : Int))
 (some (jaa jxl jxP (((ByteArray.mk #[]), (y1.1.1, ())), ())))
 (jjE n
  (fun y7 => some (jaa jxl jxP ((y7, ((0 : Int), ())), ())))
  a0
  a1
  a2
  a3
  n
  (ByteArray.mk #[])
  (0 : Int)))
 (none)
def jMh (a0 a1 a2 a3 : _) := jap jxl jxP (jND FUEL a0 a1 a2 a3)
def ok_z2q (a0 a1 a2 a3 : _) := (jMh a0 a1 a2 a3).isSome
def q_z2q (a0 a1 a2 a3 : _) := RS.get (jMh a0 a1 a2 a3)
/-! z2r: turnoutref05_Buf_Put -/
abbrev jsw : List EK := [.ty (.int .i64)]
abbrev jsM : List HK := [.one true [.ty .str]]
def jNC (n : Nat) (a0 : Int) (a1 : Int) (a2 : jaW) (a3 : ByteArray) : Option Res :=
 let y1 := (jvj a3 a0 a1)
 cond (jmc a3 a0 a1)
 (cond (y1.1.1 != (0 : Int))
 (some (jaa jsw jsM ((y1.1.1, ()), ((a3, ()), ()))))
 (cond ((8 : Int) != 0)
 (cond ((8 : Int) != 0)
 (let y2 : Int := (IntKind.wrap .i64 (Int.tdiv (IntKind.wrap .i64 ((IntKind.wrap .i64 (a0 + a1)) + (7 : Int))) (8 : Int)))
 cond (decide ((0 : Int) ≤ (IntKind.wrap .i64 (Int.tdiv a0 (8 : Int))) ∧ (IntKind.wrap .i64 (Int.tdiv a0 (8 : Int))) ≤ y2 ∧ y2 ≤ ((ByteArray.size a3 : Nat) : Int)))
 (let y3 : ByteArray := (ByteArray.extract a3 (Int.toNat (IntKind.wrap .i64 (Int.tdiv a0 (8 : Int)))) (Int.toNat y2))
 let y4 : Int := (IntKind.wrap .i64 (a0 - (IntKind.wrap .i64 ((8 : Int) * (IntKind.wrap .i64 (Int.tdiv a0 (8 : Int)))))))
 let y5 := (q_z2q y3 y4 a1 a2)
 cond (ok_z2q y3 y4 a1 a2)
 (cond (decide ((0 : Int) ≤ (0 : Int) ∧ (0 : Int) ≤ (IntKind.wrap .i64 (Int.tdiv a0 (8 : Int))) ∧ (IntKind.wrap .i64 (Int.tdiv a0 (8 : Int))) ≤ ((ByteArray.size a3 : Nat) : Int)))
 (let y6 : ByteArray := (ByteArray.extract a3 (Int.toNat (0 : Int)) (Int.toNat (IntKind.wrap .i64 (Int.tdiv a0 (8 : Int)))))
 cond (decide (ByteArray.size y6 + ByteArray.size y5.1.1 ≤ 9223372036854775807))
 (cond (decide ((0 : Int) ≤ y2 ∧ y2 ≤ ((ByteArray.size a3 : Nat) : Int) ∧ ((ByteArray.size a3 : Nat) : Int) ≤ ((ByteArray.size a3 : Nat) : Int)))
 (let y7 : ByteArray := (ByteArray.extract a3 (Int.toNat y2) (Int.toNat ((ByteArray.size a3 : Nat) : Int)))
 cond (decide (ByteArray.size (y6 ++ y5.1.1) + ByteArray.size y7 ≤ 9223372036854775807))
 (some (jaa jsw jsM (((0 : Int), ()), ((((y6 ++ y5.1.1) ++ y7), ()), ()))))
 (none))
 (none))
 (none))
 (none))
 (none))
 (none))
 (none))
 (none)))
 (none)
def jMg (a0 a1 a2 a3 : _) := jap jsw jsM (jNC FUEL a0 a1 a2 a3)
def ok_z2r (a0 a1 a2 a3 : _) := (jMg a0 a1 a2 a3).isSome
def q_z2r (a0 a1 a2 a3 : _) := RS.get (jMg a0 a1 a2 a3)
/-! z2s: turnoutref17_Packet_Putxda2 -/
abbrev jsv : List EK := [.ty (.int .i64)]
abbrev jsL : List HK := [.one false [.ty .str, .ty .str, .ty (.int .i64), .hs 1 0], .row jaq]
def jNB (n : Nat) (a0 : jaB) (a1 : jaW) (a2 : ByteArray) (a3 : ByteArray) (a4 : Int) (a5 : Nat) (a6 : (List jan)) : Option Res :=
 let y1 := (q_z2m a0 a2 a3 a4 a5 a6)
 cond (jEn a0 a2 a3 a4 a5 a6)
 (cond (y1.1.1 != (0 : Int))
 (some (jaa jsv jsL ((y1.1.1, ()), ((y1.2.1.1, (y1.2.1.2.1, (y1.2.1.2.2.1, (y1.2.1.2.2.2.1, ())))), (y1.2.2.1, ())))))
 (let y2 := (jBm a0 y1.2.1.1 y1.2.1.2.1 y1.2.1.2.2.1 y1.2.1.2.2.2.1 y1.2.2.1)
 cond (jop a0 y1.2.1.1 y1.2.1.2.1 y1.2.1.2.2.1 y1.2.1.2.2.2.1 y1.2.2.1)
 (let y3 := (jBl a0 y2.2.1.1 y2.2.1.2.1 y2.2.1.2.2.1 y2.2.1.2.2.2.1 y2.2.2.1)
 cond (joo a0 y2.2.1.1 y2.2.1.2.1 y2.2.1.2.2.1 y2.2.1.2.2.2.1 y2.2.2.1)
 (let y4 := (q_z2r (IntKind.wrap .i64 ((IntKind.wrap .i64 ((8 : Int) * y2.1.1)) + a0.2.2.2.1)) a0.2.2.2.2.1 a1 y3.1.1)
 cond (ok_z2r (IntKind.wrap .i64 ((IntKind.wrap .i64 ((8 : Int) * y2.1.1)) + a0.2.2.2.1)) a0.2.2.2.2.1 a1 y3.1.1)
 (cond (a0.2.1 == (3 : Int))
 (some (jaa jsv jsL (((0 : Int), ()), ((y3.2.1.1, (y4.2.1.1, (y3.2.1.2.2.1, (y3.2.1.2.2.2.1, ())))), (y3.2.2.1, ())))))
 (some (jaa jsv jsL (((0 : Int), ()), ((y4.2.1.1, (y3.2.1.2.1, (y3.2.1.2.2.1, (y3.2.1.2.2.2.1, ())))), (y3.2.2.1, ()))))))
 (none))
 (none))
 (none)))
 (none)
def jMf (a0 a1 a2 a3 a4 a5 a6 : _) := jap jsv jsL (jNB FUEL a0 a1 a2 a3 a4 a5 a6)
def jtl (a0 a1 a2 a3 a4 a5 a6 : _) := (jMf a0 a1 a2 a3 a4 a5 a6).isSome
def jDY (a0 a1 a2 a3 a4 a5 a6 : _) := RS.get (jMf a0 a1 a2 a3 a4 a5 a6)
/-! z2t: turnoutref17_Packet_spotx002 -/
abbrev jxk : List EK := [.ty (.int .i64), .ty (.int .i64)]
abbrev jxO : List HK := [.one false [.ty .str, .ty .str, .ty (.int .i64), .hs 1 0], .row jaq]
def jNA (n : Nat) (a0 : jaB) (a1 : ByteArray) (a2 : ByteArray) (a3 : Int) (a4 : Nat) (a5 : (List jan)) : Option Res :=
 cond (a0.2.1 == (3 : Int))
 (some (jaa jxk jxO (((0 : Int), ((3 : Int), ())), ((a1, (a2, (a3, (a4, ())))), (a5, ())))))
 (let y1 := (q_z2o a0 a1 a2 a3 a4 a5)
 cond (jOE a0 a1 a2 a3 a4 a5)
 (some (jaa jxk jxO ((y1.1.1, (y1.1.2.1, ())), ((y1.2.1.1, (y1.2.1.2.1, (y1.2.1.2.2.1, (y1.2.1.2.2.2.1, ())))), (y1.2.2.1, ())))))
 (none))
def jMe (a0 a1 a2 a3 a4 a5 : _) := jap jxk jxO (jNA FUEL a0 a1 a2 a3 a4 a5)
def jEm (a0 a1 a2 a3 a4 a5 : _) := (jMe a0 a1 a2 a3 a4 a5).isSome
def q_z2t (a0 a1 a2 a3 a4 a5 : _) := RS.get (jMe a0 a1 a2 a3 a4 a5)
/-! z2u: turnoutref17_Packet_Insertx3a3 -/
abbrev jnV : List EK := [.ty (.int .i64)]
abbrev joc : List HK := [.one false [.ty .str, .ty .str, .ty (.int .i64), .hs 1 0], .row jaq]
def jrx (n : Nat) (k_t0 : (List jan) → Option Res) (x0_0 : Int) (x0_1 : Int) (x0_6 : Nat) (rec : Int → (List jan) → Option Res) (x0_2 : Int) (x0_7 : (List jan)) : Option Res :=
 cond (decide (x0_2 < ((x0_6 : Nat) : Int)))
 (cond (decide ((0 : Int) ≤ x0_2 ∧ x0_2 < ((x0_6 : Nat) : Int)))
 (cond (decide ((rdd jak x0_7 (Int.toNat x0_2)).2.1 ≥ x0_1))
 (cond (decide ((0 : Int) ≤ x0_2 ∧ x0_2 < ((x0_6 : Nat) : Int)))
 (cond (decide ((0 : Int) ≤ x0_2 ∧ x0_2 < ((x0_6 : Nat) : Int)))
 (rec (IntKind.wrap .i64 (x0_2 + (1 : Int))) (List.set x0_7 (Int.toNat x0_2) ((rdd jak x0_7 (Int.toNat x0_2)).1, ((IntKind.wrap .i64 ((rdd jak x0_7 (Int.toNat x0_2)).2.1 + x0_0)), ()))))
 (none))
 (none))
 (rec (IntKind.wrap .i64 (x0_2 + (1 : Int))) x0_7))
 (none))
 (k_t0 x0_7)
def jjC (n : Nat) (k_t0 : (List jan) → Option Res) (x0_0 : Int) (x0_1 : Int) (x0_6 : Nat) : Nat → Int → (List jan) → Option Res
  | 0, _, _ => none
  | m + 1, x0_2, x0_7 => jrx n k_t0 x0_0 x0_1 x0_6 (jjC n k_t0 x0_0 x0_1 x0_6 m) x0_2 x0_7
def jwL (n : Nat) (a0 : jaB) (a1 : Int) (a2 : ByteArray) (a3 : ByteArray) (a4 : Int) (a5 : Nat) (a6 : (List jan)) : Option Res :=
 let y1 := (q_z2t a0 a2 a3 a4 a5 a6)
 cond (jEm a0 a2 a3 a4 a5 a6)
 (cond (y1.1.2.1 != (0 : Int))
 (some (jaa jnV joc ((y1.1.2.1, ()), ((y1.2.1.1, (y1.2.1.2.1, (y1.2.1.2.2.1, (y1.2.1.2.2.2.1, ())))), (y1.2.2.1, ())))))
 (cond (decide (a1 < (0 : Int)))
 (some (jaa jnV joc (((1 : Int), ()), ((y1.2.1.1, (y1.2.1.2.1, (y1.2.1.2.2.1, (y1.2.1.2.2.2.1, ())))), (y1.2.2.1, ())))))
 (cond (decide (a1 > (IntKind.wrap .i64 ((9216 : Int) - ((ByteArray.size y1.2.1.1 : Nat) : Int)))))
 (some (jaa jnV joc (((2 : Int), ()), ((y1.2.1.1, (y1.2.1.2.1, (y1.2.1.2.2.1, (y1.2.1.2.2.2.1, ())))), (y1.2.2.1, ())))))
 (cond (decide ((0 : Int) ≤ (0 : Int) ∧ (0 : Int) ≤ y1.1.1 ∧ y1.1.1 ≤ ((ByteArray.size y1.2.1.1 : Nat) : Int)))
 (let y2 : ByteArray := (ByteArray.extract y1.2.1.1 (Int.toNat (0 : Int)) (Int.toNat y1.1.1))
 cond (decide ((0 : Int) ≤ a1 ∧ a1 ≤ a1 ∧ (1 : Nat) * a1 ≤ (2 : Int) ^ 46))
 (cond (decide (ByteArray.size y2 + ByteArray.size (bytesOf (mkL (Int.toNat a1) (fun i => (0 : Int)))) ≤ 9223372036854775807))
 (cond (decide ((0 : Int) ≤ y1.1.1 ∧ y1.1.1 ≤ ((ByteArray.size y1.2.1.1 : Nat) : Int) ∧ ((ByteArray.size y1.2.1.1 : Nat) : Int) ≤ ((ByteArray.size y1.2.1.1 : Nat) : Int)))
 (let y3 : ByteArray := (ByteArray.extract y1.2.1.1 (Int.toNat y1.1.1) (Int.toNat ((ByteArray.size y1.2.1.1 : Nat) : Int)))
 cond (decide (ByteArray.size (y2 ++ (bytesOf (mkL (Int.toNat a1) (fun i => (0 : Int))))) + ByteArray.size y3 ≤ 9223372036854775807))
 (let y4 : ByteArray := ((y2 ++ (bytesOf (mkL (Int.toNat a1) (fun i => (0 : Int))))) ++ y3)
 jjC n
  (fun y5 => some (jaa jnV joc (((0 : Int), ()), ((y4, (y1.2.1.2.1, (y1.2.1.2.2.1, (y1.2.1.2.2.2.1, ())))), (y5, ())))))
  a1
  y1.1.1
  y1.2.1.2.2.2.1
  n
  (0 : Int)
  y1.2.2.1)
 (none))
 (none))
 (none))
 (none))
 (none)))))
 (none)
def jJA (a0 a1 a2 a3 a4 a5 a6 : _) := jap jnV joc (jwL FUEL a0 a1 a2 a3 a4 a5 a6)
def jOD (a0 a1 a2 a3 a4 a5 a6 : _) := (jJA a0 a1 a2 a3 a4 a5 a6).isSome
def q_z2u (a0 a1 a2 a3 a4 a5 a6 : _) := RS.get (jJA a0 a1 a2 a3 a4 a5 a6)
/-! z2v: turnoutref17_Packet_Deletex3a3 -/
abbrev jnU : List EK := [.ty (.int .i64)]
abbrev job : List HK := [.one false [.ty .str, .ty .str, .ty (.int .i64), .hs 1 0], .row jaq]
abbrev jir : List EK := [.ty (.int .i64)]
abbrev jgk : List HK := [.one false [.ty .str, .ty .str, .ty (.int .i64), .hs 2 0], .row jaq, .row jaq]
def jrw (n : Nat) (k_t0 : Nat → (List jan) → Option Res) (x0_0 : Int) (x0_1 : Int) (x0_7 : Nat) (x0_8 : (List jan)) (rec : Nat → Int → (List jan) → Option Res) (x0_2 : Nat) (x0_3 : Int) (x0_9 : (List jan)) : Option Res :=
 cond (decide (x0_3 < ((x0_7 : Nat) : Int)))
 (cond (decide ((0 : Int) ≤ x0_3 ∧ x0_3 < ((x0_7 : Nat) : Int)))
 (cond (decide ((rdd jak x0_8 (Int.toNat x0_3)).2.1 ≥ (IntKind.wrap .i64 (x0_1 + x0_0))))
 (cond (decide (((List.length (cutL jak x0_9 0 x0_2)) + 1) * 16 ≤ 2 ^ 46 ∧ ((List.length (cutL jak x0_9 0 x0_2)) + 1) ≤ 2 ^ 46))
 (rec ((List.length (cutL jak x0_9 0 x0_2)) + 1) (IntKind.wrap .i64 (x0_3 + (1 : Int))) ((cutL jak x0_9 0 x0_2) ++ [((rdd jak x0_8 (Int.toNat x0_3)).1, ((IntKind.wrap .i64 ((rdd jak x0_8 (Int.toNat x0_3)).2.1 - x0_0)), ()))]))
 (none))
 (cond (decide ((rdd jak x0_8 (Int.toNat x0_3)).2.1 < x0_1))
 (cond (decide (((List.length (cutL jak x0_9 0 x0_2)) + 1) * 16 ≤ 2 ^ 46 ∧ ((List.length (cutL jak x0_9 0 x0_2)) + 1) ≤ 2 ^ 46))
 (rec ((List.length (cutL jak x0_9 0 x0_2)) + 1) (IntKind.wrap .i64 (x0_3 + (1 : Int))) ((cutL jak x0_9 0 x0_2) ++ [(rdd jak x0_8 (Int.toNat x0_3))]))
 (none))
 (rec x0_2 (IntKind.wrap .i64 (x0_3 + (1 : Int))) x0_9)))
 (none))
 (k_t0 x0_2 x0_9)
def jjB (n : Nat) (k_t0 : Nat → (List jan) → Option Res) (x0_0 : Int) (x0_1 : Int) (x0_7 : Nat) (x0_8 : (List jan)) : Nat → Nat → Int → (List jan) → Option Res
  | 0, _, _, _ => none
  | m + 1, x0_2, x0_3, x0_9 => jrw n k_t0 x0_0 x0_1 x0_7 x0_8 (jjB n k_t0 x0_0 x0_1 x0_7 x0_8 m) x0_2 x0_3 x0_9
def jrq (n : Nat) (a0 : jaB) (a1 : Int) (a2 : ByteArray) (a3 : ByteArray) (a4 : Int) (a5 : Nat) (a6 : (List jan)) : Option Res :=
 let y1 := (q_z2t a0 a2 a3 a4 a5 a6)
 cond (jEm a0 a2 a3 a4 a5 a6)
 (cond (y1.1.2.1 != (0 : Int))
 (some (jaa jnU job ((y1.1.2.1, ()), ((y1.2.1.1, (y1.2.1.2.1, (y1.2.1.2.2.1, (y1.2.1.2.2.2.1, ())))), (y1.2.2.1, ())))))
 (cond (decide (a1 < (0 : Int)))
 (some (jaa jnU job (((1 : Int), ()), ((y1.2.1.1, (y1.2.1.2.1, (y1.2.1.2.2.1, (y1.2.1.2.2.2.1, ())))), (y1.2.2.1, ())))))
 (cond (decide (a1 > (IntKind.wrap .i64 (((ByteArray.size y1.2.1.1 : Nat) : Int) - y1.1.1))))
 (some (jaa jnU job (((1 : Int), ()), ((y1.2.1.1, (y1.2.1.2.1, (y1.2.1.2.2.1, (y1.2.1.2.2.2.1, ())))), (y1.2.2.1, ())))))
 (cond (decide ((0 : Int) ≤ (0 : Int) ∧ (0 : Int) ≤ y1.1.1 ∧ y1.1.1 ≤ ((ByteArray.size y1.2.1.1 : Nat) : Int)))
 (let y2 : ByteArray := (ByteArray.extract y1.2.1.1 (Int.toNat (0 : Int)) (Int.toNat y1.1.1))
 cond (decide ((0 : Int) ≤ (IntKind.wrap .i64 (y1.1.1 + a1)) ∧ (IntKind.wrap .i64 (y1.1.1 + a1)) ≤ ((ByteArray.size y1.2.1.1 : Nat) : Int) ∧ ((ByteArray.size y1.2.1.1 : Nat) : Int) ≤ ((ByteArray.size y1.2.1.1 : Nat) : Int)))
 (let y3 : ByteArray := (ByteArray.extract y1.2.1.1 (Int.toNat (IntKind.wrap .i64 (y1.1.1 + a1))) (Int.toNat ((ByteArray.size y1.2.1.1 : Nat) : Int)))
 cond (decide (ByteArray.size y2 + ByteArray.size y3 ≤ 9223372036854775807))
 (jjB n
  (fun y4 y5 => some (jaa jir jgk (((0 : Int), ()), (((y2 ++ y3), (y1.2.1.2.1, (y1.2.1.2.2.1, (y4, ())))), (y1.2.2.1, (y5, ()))))))
  a1
  y1.1.1
  y1.2.1.2.2.2.1
  y1.2.2.1
  n
  0
  (0 : Int)
  ([]))
 (none))
 (none))
 (none)))))
 (none)
def jBX (a0 a1 a2 a3 a4 a5 a6 : _) := jap jnU job (jrq FUEL a0 a1 a2 a3 a4 a5 a6)
def jrd (a0 a1 a2 a3 a4 a5 a6 : _) := jap jir jgk (jrq FUEL a0 a1 a2 a3 a4 a5 a6)
def jLn (a0 a1 a2 a3 a4 a5 a6 : _) := (jrd a0 a1 a2 a3 a4 a5 a6).isSome
def q_z2v_1 (a0 a1 a2 a3 a4 a5 a6 : _) := RS.get (jrd a0 a1 a2 a3 a4 a5 a6)
def ok_z2v (a0 a1 a2 a3 a4 a5 a6 : _) := (jBX a0 a1 a2 a3 a4 a5 a6).isSome
def q_z2v (a0 a1 a2 a3 a4 a5 a6 : _) := RS.get (jBX a0 a1 a2 a3 a4 a5 a6)
/-! z2w: sum_fold -/
abbrev jCM : List EK := [.ty (.int .u16)]
abbrev jDt : List HK := []
def jrv (n : Nat) (k_t0 : Int → Option Res) (rec : Int → Option Res) (x0_0 : Int) : Option Res :=
 cond (decide (x0_0 > (65535 : Int)))
 (let y1 : Int := (IntKind.wrap .u64 (BitVec.toNat (BitVec.ofInt (IntKind.bits .u64) x0_0 &&& BitVec.ofInt (IntKind.bits .u64) (65535 : Int)) : Nat))
 cond (decide ((0 : Int) ≤ (16 : Int)))
 (let y2 : Int := (IntKind.wrap .u64 (y1 + (Int.fdiv x0_0 (2 ^ (min (Int.toNat (16 : Int)) (IntKind.bits .u64))))))
 rec y2)
 (none))
 (k_t0 x0_0)
def jjA (n : Nat) (k_t0 : Int → Option Res) : Nat → Int → Option Res
  | 0, _ => none
  | m + 1, x0_0 => jrv n k_t0 (jjA n k_t0 m) x0_0
def jNz (n : Nat) (a0 : Int) : Option Res :=
 jjA n
  (fun y3 => some (jaa jCM jDt (((IntKind.wrap .u16 y3), ()), ())))
  n
  a0
def jMd (a0 : _) := jap jCM jDt (jNz FUEL a0)
def jtk (a0 : _) := (jMd a0).isSome
def jDX (a0 : _) := RS.get (jMd a0)
/-! z2x: sum_Sum -/
abbrev jCL : List EK := [.ty (.int .u16)]
abbrev jDs : List HK := []
def jru (n : Nat) (k_t2 : Int → Bool → Option Res) (x2_2 : ByteArray) (x2_6 : Int) (rec : Int → Bool → Int → Option Res) (x2_0 : Int) (x2_1 : Bool) (x2_7 : Int) : Option Res :=
 cond (decide (x2_7 < x2_6))
 (cond (decide ((0 : Int) ≤ x2_7 ∧ x2_7 < ((ByteArray.size x2_2 : Nat) : Int)))
 (cond x2_1
 (cond (decide ((0 : Int) ≤ (8 : Int)))
 (let y1 : Int := (IntKind.wrap .u64 ((IntKind.wrap .u64 (jbs x2_2 (Int.toNat x2_7))) * 2 ^ (min (Int.toNat (8 : Int)) (IntKind.bits .u64))))
 rec (IntKind.wrap .u64 (x2_0 + y1)) (!x2_1) (IntKind.wrap .i64 (x2_7 + (1 : Int))))
 (none))
 (rec (IntKind.wrap .u64 (x2_0 + (IntKind.wrap .u64 (jbs x2_2 (Int.toNat x2_7))))) (!x2_1) (IntKind.wrap .i64 (x2_7 + (1 : Int)))))
 (none))
 (k_t2 x2_0 x2_1)
def jjz (n : Nat) (k_t2 : Int → Bool → Option Res) (x2_2 : ByteArray) (x2_6 : Int) : Nat → Int → Bool → Int → Option Res
  | 0, _, _, _ => none
  | m + 1, x2_0, x2_1, x2_7 => jru n k_t2 x2_2 x2_6 (jjz n k_t2 x2_2 x2_6 m) x2_0 x2_1 x2_7
def jkh (n : Nat) (k_t0 : Int → Option Res) (x0_2 : (List ByteArray)) (x0_3 : Int) (rec : Int → Bool → Int → Option Res) (x0_0 : Int) (x0_1 : Bool) (x0_4 : Int) : Option Res :=
 cond (decide (x0_4 < x0_3))
 (cond (decide ((0 : Int) ≤ x0_4 ∧ x0_4 < (((List.length x0_2) : Nat) : Int)))
 (jjz n
  (fun y2 y3 => let y4 := (jDX y2)
 cond (jtk y2)
 (rec (IntKind.wrap .u64 y4.1.1) y3 (IntKind.wrap .i64 (x0_4 + (1 : Int))))
 (none))
  (rdd ByteArray.empty x0_2 (Int.toNat x0_4))
  ((ByteArray.size (rdd ByteArray.empty x0_2 (Int.toNat x0_4)) : Nat) : Int)
  n
  x0_0
  x0_1
  (0 : Int))
 (none))
 (k_t0 x0_0)
def jfV (n : Nat) (k_t0 : Int → Option Res) (x0_2 : (List ByteArray)) (x0_3 : Int) : Nat → Int → Bool → Int → Option Res
  | 0, _, _, _ => none
  | m + 1, x0_0, x0_1, x0_4 => jkh n k_t0 x0_2 x0_3 (jfV n k_t0 x0_2 x0_3 m) x0_0 x0_1 x0_4
def jNy (n : Nat) (a0 : (List ByteArray)) : Option Res :=
 jfV n
  (fun y5 => let y6 := (jDX y5)
 cond (jtk y5)
 (some (jaa jCL jDs ((y6.1.1, ()), ())))
 (none))
  a0
  (((List.length a0) : Nat) : Int)
  n
  (0 : Int)
  true
  (0 : Int)
def jMc (a0 : _) := jap jCL jDs (jNy FUEL a0)
def ok_z2x (a0 : _) := (jMc a0).isSome
def q_z2x (a0 : _) := RS.get (jMc a0)
/-! z2y: buf_Buf_Sumx37e -/
abbrev jxj : List EK := [.ty (.int .u16), .ty (.int .i64)]
abbrev jxN : List HK := [.one false [.hs 1 0], .row (.int .u8)]
def jCk (n : Nat) (a0 : Int) (a1 : Int) (a2 : Nat) (a3 : (List Int)) : Option Res :=
 let y1 := (jtd a0 a1 a2 a3)
 cond (jfJ a0 a1 a2 a3)
 (cond (y1.1.1 != (0 : Int))
 (some (jaa jxj jxN (((0 : Int), (y1.1.1, ())), ((y1.2.1.1, ()), (y1.2.2.1, ())))))
 (cond (decide ((0 : Int) ≤ a0 ∧ a0 ≤ (IntKind.wrap .i64 (a0 + a1)) ∧ (IntKind.wrap .i64 (a0 + a1)) ≤ ((y1.2.1.1 : Nat) : Int) ∧ ((y1.2.1.1 : Nat) : Int) ≤ ((y1.2.1.1 : Nat) : Int)))
 (let y2 : ByteArray := (bytesOf (cutL (0 : Int) y1.2.2.1 (0 + Int.toNat a0) (Int.toNat (IntKind.wrap .i64 (a0 + a1)) - Int.toNat a0)))
 let y3 := (q_z2x ([y2]))
 cond (ok_z2x ([y2]))
 (some (jaa jxj jxN ((y3.1.1, ((0 : Int), ())), ((y1.2.1.1, ()), (y1.2.2.1, ())))))
 (none))
 (none)))
 (none)
def jJz (a0 a1 a2 a3 : _) := jap jxj jxN (jCk FUEL a0 a1 a2 a3)
def jyq (a0 a1 a2 a3 : _) := (jJz a0 a1 a2 a3).isSome
def jKT (a0 a1 a2 a3 : _) := RS.get (jJz a0 a1 a2 a3)
/-! z2z: pack_Packet_Sumxa6a -/
abbrev jiq : List EK := [.ty (.int .i64)]
abbrev jix : List HK := [.one false [.ptr 1 0 0, .hs 3 0, .ptr 4 0 0, .ty (.int .i64)], .one false [.hs 2 0], .row (.int .u8), .row jaq, .one false [.hs 5 0], .row (.int .u8)]
def jwK (n : Nat) (a0 : jaB) (a1 : jaB) (a2 : Int) (a3 : Nat) (a4 : Int) (a5 : Nat) (a6 : (List Int)) (a7 : (List jan)) (a8 : Nat) (a9 : (List Int)) : Option Res :=
 let y1 := (jte a1 a3 a4 a5 a6 a7 a8 a9)
 cond (jku a1 a3 a4 a5 a6 a7 a8 a9)
 (cond (y1.1.2.1 != (0 : Int))
 (some (jaa jiq jix ((y1.1.2.1, ()), (((), (y1.2.1.2.1, ((), (y1.2.1.2.2.2.1, ())))), ((y1.2.2.1.1, ()), (y1.2.2.2.1, (y1.2.2.2.2.1, ((y1.2.2.2.2.2.1.1, ()), (y1.2.2.2.2.2.2.1, ())))))))))
 (cond (a2 == (0 : Int))
 (let y2 := (q_z29 y1.2.1.2.1 y1.2.1.2.2.2.1 y1.2.2.1.1 y1.2.2.2.1 y1.2.2.2.2.1 y1.2.2.2.2.2.1.1 y1.2.2.2.2.2.2.1)
 cond (jOI y1.2.1.2.1 y1.2.1.2.2.2.1 y1.2.2.1.1 y1.2.2.2.1 y1.2.2.2.2.1 y1.2.2.2.2.2.1.1 y1.2.2.2.2.2.2.1)
 (let y3 := (jKT y1.1.1 (IntKind.wrap .i64 (y2.1.1 - y1.1.1)) y2.2.2.1.1 y2.2.2.2.1)
 cond (jyq y1.1.1 (IntKind.wrap .i64 (y2.1.1 - y1.1.1)) y2.2.2.1.1 y2.2.2.2.1)
 (cond (y3.1.2.1 != (0 : Int))
 (some (jaa jiq jix (((1 : Int), ()), (((), (y2.2.1.2.1, ((), (y2.2.1.2.2.2.1, ())))), ((y3.2.1.1, ()), (y3.2.2.1, (y2.2.2.2.2.1, ((y2.2.2.2.2.2.1.1, ()), (y2.2.2.2.2.2.2.1, ())))))))))
 (let y4 := (jBn a0 ((0 : Int), ((0 : Int), ())) y2.2.1.2.1 y2.2.1.2.2.2.1 y3.2.1.1 y3.2.2.1 y2.2.2.2.2.1 y2.2.2.2.2.2.1.1 y2.2.2.2.2.2.2.1)
 cond (joq a0 ((0 : Int), ((0 : Int), ())) y2.2.1.2.1 y2.2.1.2.2.2.1 y3.2.1.1 y3.2.2.1 y2.2.2.2.2.1 y2.2.2.2.2.2.1.1 y2.2.2.2.2.2.2.1)
 (cond (y4.1.1 != (0 : Int))
 (some (jaa jiq jix ((y4.1.1, ()), (((), (y4.2.1.2.1, ((), (y4.2.1.2.2.2.1, ())))), ((y4.2.2.1.1, ()), (y4.2.2.2.1, (y4.2.2.2.2.1, ((y4.2.2.2.2.2.1.1, ()), (y4.2.2.2.2.2.2.1, ())))))))))
 (let y5 := (jKT y1.1.1 (IntKind.wrap .i64 (y2.1.1 - y1.1.1)) y4.2.2.1.1 y4.2.2.2.1)
 cond (jyq y1.1.1 (IntKind.wrap .i64 (y2.1.1 - y1.1.1)) y4.2.2.1.1 y4.2.2.2.1)
 (let y6 : Int := (IntKind.wrap .u16 (BitVec.toNat (BitVec.ofInt (IntKind.bits .u16) (IntKind.max .u16) ^^^ BitVec.ofInt (IntKind.bits .u16) y5.1.1) : Nat))
 let y7 := (jlS (IntKind.wrap .u64 y6))
 cond (jkw (IntKind.wrap .u64 y6))
 (let y8 := (jBn a0 y7.1.1 y4.2.1.2.1 y4.2.1.2.2.2.1 y5.2.1.1 y5.2.2.1 y4.2.2.2.2.1 y4.2.2.2.2.2.1.1 y4.2.2.2.2.2.2.1)
 cond (joq a0 y7.1.1 y4.2.1.2.1 y4.2.1.2.2.2.1 y5.2.1.1 y5.2.2.1 y4.2.2.2.2.1 y4.2.2.2.2.2.1.1 y4.2.2.2.2.2.2.1)
 (some (jaa jiq jix ((y8.1.1, ()), (((), (y8.2.1.2.1, ((), (y8.2.1.2.2.2.1, ())))), ((y8.2.2.1.1, ()), (y8.2.2.2.1, (y8.2.2.2.2.1, ((y8.2.2.2.2.2.1.1, ()), (y8.2.2.2.2.2.2.1, ())))))))))
 (none))
 (none))
 (none)))
 (none)))
 (none))
 (none))
 (let y9 := (jKT y1.1.1 a2 y1.2.2.1.1 y1.2.2.2.1)
 cond (jyq y1.1.1 a2 y1.2.2.1.1 y1.2.2.2.1)
 (cond (y9.1.2.1 != (0 : Int))
 (some (jaa jiq jix (((1 : Int), ()), (((), (y1.2.1.2.1, ((), (y1.2.1.2.2.2.1, ())))), ((y9.2.1.1, ()), (y9.2.2.1, (y1.2.2.2.2.1, ((y1.2.2.2.2.2.1.1, ()), (y1.2.2.2.2.2.2.1, ())))))))))
 (let y10 := (jBn a0 ((0 : Int), ((0 : Int), ())) y1.2.1.2.1 y1.2.1.2.2.2.1 y9.2.1.1 y9.2.2.1 y1.2.2.2.2.1 y1.2.2.2.2.2.1.1 y1.2.2.2.2.2.2.1)
 cond (joq a0 ((0 : Int), ((0 : Int), ())) y1.2.1.2.1 y1.2.1.2.2.2.1 y9.2.1.1 y9.2.2.1 y1.2.2.2.2.1 y1.2.2.2.2.2.1.1 y1.2.2.2.2.2.2.1)
 (cond (y10.1.1 != (0 : Int))
 (some (jaa jiq jix ((y10.1.1, ()), (((), (y10.2.1.2.1, ((), (y10.2.1.2.2.2.1, ())))), ((y10.2.2.1.1, ()), (y10.2.2.2.1, (y10.2.2.2.2.1, ((y10.2.2.2.2.2.1.1, ()), (y10.2.2.2.2.2.2.1, ())))))))))
 (let y11 := (jKT y1.1.1 a2 y10.2.2.1.1 y10.2.2.2.1)
 cond (jyq y1.1.1 a2 y10.2.2.1.1 y10.2.2.2.1)
 (let y12 : Int := (IntKind.wrap .u16 (BitVec.toNat (BitVec.ofInt (IntKind.bits .u16) (IntKind.max .u16) ^^^ BitVec.ofInt (IntKind.bits .u16) y11.1.1) : Nat))
 let y13 := (jlS (IntKind.wrap .u64 y12))
 cond (jkw (IntKind.wrap .u64 y12))
 (let y14 := (jBn a0 y13.1.1 y10.2.1.2.1 y10.2.1.2.2.2.1 y11.2.1.1 y11.2.2.1 y10.2.2.2.2.1 y10.2.2.2.2.2.1.1 y10.2.2.2.2.2.2.1)
 cond (joq a0 y13.1.1 y10.2.1.2.1 y10.2.1.2.2.2.1 y11.2.1.1 y11.2.2.1 y10.2.2.2.2.1 y10.2.2.2.2.2.1.1 y10.2.2.2.2.2.2.1)
 (some (jaa jiq jix ((y14.1.1, ()), (((), (y14.2.1.2.1, ((), (y14.2.1.2.2.2.1, ())))), ((y14.2.2.1.1, ()), (y14.2.2.2.1, (y14.2.2.2.2.1, ((y14.2.2.2.2.2.1.1, ()), (y14.2.2.2.2.2.2.1, ())))))))))
 (none))
 (none))
 (none)))
 (none)))
 (none))))
 (none)
def jMb (a0 a1 a2 a3 a4 a5 a6 a7 a8 a9 : _) := jap jiq jix (jwK FUEL a0 a1 a2 a3 a4 a5 a6 a7 a8 a9)
def ok_z2z (a0 a1 a2 a3 a4 a5 a6 a7 a8 a9 : _) := (jMb a0 a1 a2 a3 a4 a5 a6 a7 a8 a9).isSome
def q_z2z (a0 a1 a2 a3 a4 a5 a6 a7 a8 a9 : _) := RS.get (jMb a0 a1 a2 a3 a4 a5 a6 a7 a8 a9)
/-! z30: turnoutref03_Add -/
abbrev jxi : List EK := [.ty (.int .u16)]
abbrev jxM : List HK := []
def jNx (n : Nat) (a0 : Int) (a1 : Int) : Option Res :=
 cond (decide ((IntKind.wrap .i64 ((IntKind.wrap .i64 a0) + (IntKind.wrap .i64 a1))) ≥ (65536 : Int)))
 (let y1 : Int := (IntKind.wrap .i64 ((IntKind.wrap .i64 ((IntKind.wrap .i64 a0) + (IntKind.wrap .i64 a1))) - (65536 : Int)))
 some (jaa jxi jxM (((IntKind.wrap .u16 (IntKind.wrap .i64 (y1 + (1 : Int)))), ()), ())))
 (some (jaa jxi jxM (((IntKind.wrap .u16 (IntKind.wrap .i64 ((IntKind.wrap .i64 a0) + (IntKind.wrap .i64 a1)))), ()), ())))
def jMa (a0 a1 : _) := jap jxi jxM (jNx FUEL a0 a1)
def jOC (a0 a1 : _) := (jMa a0 a1).isSome
def q_z30 (a0 a1 : _) := RS.get (jMa a0 a1)
/-! z31: turnoutref03_Sum -/
abbrev jxh : List EK := [.ty (.int .u16)]
abbrev jxL : List HK := []
def jrt (n : Nat) (k_t0 : Int → Option Res) (x0_0 : ByteArray) (rec : Int → Int → Option Res) (x0_1 : Int) (x0_2 : Int) : Option Res :=
 cond (decide (x0_2 < ((ByteArray.size x0_0 : Nat) : Int)))
 (cond (decide ((0 : Int) ≤ x0_2 ∧ x0_2 < ((ByteArray.size x0_0 : Nat) : Int)))
 (cond (decide ((IntKind.wrap .i64 (x0_2 + (1 : Int))) < ((ByteArray.size x0_0 : Nat) : Int)))
 (cond (decide ((0 : Int) ≤ (IntKind.wrap .i64 (x0_2 + (1 : Int))) ∧ (IntKind.wrap .i64 (x0_2 + (1 : Int))) < ((ByteArray.size x0_0 : Nat) : Int)))
 (let y1 : Int := (IntKind.wrap .u16 ((IntKind.wrap .u16 ((IntKind.wrap .u16 (jbs x0_0 (Int.toNat x0_2))) * (256 : Int))) + (IntKind.wrap .u16 (jbs x0_0 (Int.toNat (IntKind.wrap .i64 (x0_2 + (1 : Int))))))))
 let y2 := (q_z30 x0_1 y1)
 cond (jOC x0_1 y1)
 (rec y2.1.1 (IntKind.wrap .i64 (x0_2 + (2 : Int))))
 (none))
 (none))
 (let y3 := (q_z30 x0_1 (IntKind.wrap .u16 ((IntKind.wrap .u16 (jbs x0_0 (Int.toNat x0_2))) * (256 : Int))))
 cond (jOC x0_1 (IntKind.wrap .u16 ((IntKind.wrap .u16 (jbs x0_0 (Int.toNat x0_2))) * (256 : Int))))
 (rec y3.1.1 (IntKind.wrap .i64 (x0_2 + (2 : Int))))
 (none)))
 (none))
 (k_t0 x0_1)
def jjy (n : Nat) (k_t0 : Int → Option Res) (x0_0 : ByteArray) : Nat → Int → Int → Option Res
  | 0, _, _ => none
  | m + 1, x0_1, x0_2 => jrt n k_t0 x0_0 (jjy n k_t0 x0_0 m) x0_1 x0_2
def jNw (n : Nat) (a0 : ByteArray) : Option Res :=
 jjy n
  (fun y4 => some (jaa jxh jxL ((y4, ()), ())))
  a0
  n
  (0 : Int)
  (0 : Int)
def jLZ (a0 : _) := jap jxh jxL (jNw FUEL a0)
def ok_z31 (a0 : _) := (jLZ a0).isSome
def q_z31 (a0 : _) := RS.get (jLZ a0)
/-! z32: turnoutref03_Of -/
abbrev jxg : List EK := [.ty (.int .u16)]
abbrev jxK : List HK := []
def jNv (n : Nat) (a0 : ByteArray) : Option Res :=
 let y1 := (q_z31 a0)
 cond (ok_z31 a0)
 (some (jaa jxg jxK (((IntKind.wrap .u16 ((65535 : Int) - y1.1.1)), ()), ())))
 (none)
def jLY (a0 : _) := jap jxg jxK (jNv FUEL a0)
def jOB (a0 : _) := (jLY a0).isSome
def q_z32 (a0 : _) := RS.get (jLY a0)
/-! z33: turnoutref17_Packet_Sumx2ca -/
abbrev jip : List EK := [.ty (.int .i64)]
abbrev jiw : List HK := [.one false [.ty .str, .ty .str, .ty (.int .i64), .hs 1 0], .row jaq]
def juy (n : Nat) (a0 : jaB) (a1 : jaB) (a2 : Int) (a3 : ByteArray) (a4 : ByteArray) (a5 : Int) (a6 : Nat) (a7 : (List jan)) : Option Res :=
 let y1 := (q_z2t a1 a3 a4 a5 a6 a7)
 cond (jEm a1 a3 a4 a5 a6 a7)
 (cond (y1.1.2.1 != (0 : Int))
 (some (jaa jip jiw ((y1.1.2.1, ()), ((y1.2.1.1, (y1.2.1.2.1, (y1.2.1.2.2.1, (y1.2.1.2.2.2.1, ())))), (y1.2.2.1, ())))))
 (cond (decide (a2 < (0 : Int)))
 (some (jaa jip jiw (((1 : Int), ()), ((y1.2.1.1, (y1.2.1.2.1, (y1.2.1.2.2.1, (y1.2.1.2.2.2.1, ())))), (y1.2.2.1, ())))))
 (cond (decide (a2 > (IntKind.wrap .i64 (((ByteArray.size y1.2.1.1 : Nat) : Int) - y1.1.1))))
 (some (jaa jip jiw (((1 : Int), ()), ((y1.2.1.1, (y1.2.1.2.1, (y1.2.1.2.2.1, (y1.2.1.2.2.2.1, ())))), (y1.2.2.1, ())))))
 (cond (a2 == (0 : Int))
 (let y2 := (jDY a0 ((0 : Int), ((0 : Int), ())) y1.2.1.1 y1.2.1.2.1 y1.2.1.2.2.1 y1.2.1.2.2.2.1 y1.2.2.1)
 cond (jtl a0 ((0 : Int), ((0 : Int), ())) y1.2.1.1 y1.2.1.2.1 y1.2.1.2.2.1 y1.2.1.2.2.2.1 y1.2.2.1)
 (cond (y2.1.1 != (0 : Int))
 (some (jaa jip jiw ((y2.1.1, ()), ((y2.2.1.1, (y2.2.1.2.1, (y2.2.1.2.2.1, (y2.2.1.2.2.2.1, ())))), (y2.2.2.1, ())))))
 (let y3 : Int := (IntKind.wrap .i64 (y1.1.1 + (IntKind.wrap .i64 (((ByteArray.size y1.2.1.1 : Nat) : Int) - y1.1.1))))
 cond (decide ((0 : Int) ≤ y1.1.1 ∧ y1.1.1 ≤ y3 ∧ y3 ≤ ((ByteArray.size y2.2.1.1 : Nat) : Int)))
 (let y4 : ByteArray := (ByteArray.extract y2.2.1.1 (Int.toNat y1.1.1) (Int.toNat y3))
 let y5 := (q_z32 y4)
 cond (jOB y4)
 (let y6 := (jDY a0 ((0 : Int), ((IntKind.wrap .u64 y5.1.1), ())) y2.2.1.1 y2.2.1.2.1 y2.2.1.2.2.1 y2.2.1.2.2.2.1 y2.2.2.1)
 cond (jtl a0 ((0 : Int), ((IntKind.wrap .u64 y5.1.1), ())) y2.2.1.1 y2.2.1.2.1 y2.2.1.2.2.1 y2.2.1.2.2.2.1 y2.2.2.1)
 (some (jaa jip jiw ((y6.1.1, ()), ((y6.2.1.1, (y6.2.1.2.1, (y6.2.1.2.2.1, (y6.2.1.2.2.2.1, ())))), (y6.2.2.1, ())))))
 (none))
 (none))
 (none)))
 (none))
 (let y7 := (jDY a0 ((0 : Int), ((0 : Int), ())) y1.2.1.1 y1.2.1.2.1 y1.2.1.2.2.1 y1.2.1.2.2.2.1 y1.2.2.1)
 cond (jtl a0 ((0 : Int), ((0 : Int), ())) y1.2.1.1 y1.2.1.2.1 y1.2.1.2.2.1 y1.2.1.2.2.2.1 y1.2.2.1)
 (cond (y7.1.1 != (0 : Int))
 (some (jaa jip jiw ((y7.1.1, ()), ((y7.2.1.1, (y7.2.1.2.1, (y7.2.1.2.2.1, (y7.2.1.2.2.2.1, ())))), (y7.2.2.1, ())))))
 (cond (decide ((0 : Int) ≤ y1.1.1 ∧ y1.1.1 ≤ (IntKind.wrap .i64 (y1.1.1 + a2)) ∧ (IntKind.wrap .i64 (y1.1.1 + a2)) ≤ ((ByteArray.size y7.2.1.1 : Nat) : Int)))
 (let y8 : ByteArray := (ByteArray.extract y7.2.1.1 (Int.toNat y1.1.1) (Int.toNat (IntKind.wrap .i64 (y1.1.1 + a2))))
 let y9 := (q_z32 y8)
 cond (jOB y8)
 (let y10 := (jDY a0 ((0 : Int), ((IntKind.wrap .u64 y9.1.1), ())) y7.2.1.1 y7.2.1.2.1 y7.2.1.2.2.1 y7.2.1.2.2.2.1 y7.2.2.1)
 cond (jtl a0 ((0 : Int), ((IntKind.wrap .u64 y9.1.1), ())) y7.2.1.1 y7.2.1.2.1 y7.2.1.2.2.1 y7.2.1.2.2.2.1 y7.2.2.1)
 (some (jaa jip jiw ((y10.1.1, ()), ((y10.2.1.1, (y10.2.1.2.1, (y10.2.1.2.2.1, (y10.2.1.2.2.2.1, ())))), (y10.2.2.1, ())))))
 (none))
 (none))
 (none)))
 (none))))))
 (none)
def jLX (a0 a1 a2 a3 a4 a5 a6 a7 : _) := jap jip jiw (juy FUEL a0 a1 a2 a3 a4 a5 a6 a7)
def ok_z33 (a0 a1 a2 a3 a4 a5 a6 a7 : _) := (jLX a0 a1 a2 a3 a4 a5 a6 a7).isSome
def q_z33 (a0 a1 a2 a3 a4 a5 a6 a7 : _) := RS.get (jLX a0 a1 a2 a3 a4 a5 a6 a7)
/-! z34: turnoutlaw17_does -/
abbrev jcG : List EK := [.ty .bool]
abbrev jcI : List HK := [.one false [.ptr 1 0 0, .hs 3 0, .ptr 4 0 0, .ty (.int .i64)], .one false [.hs 2 0], .row (.int .u8), .row jaq, .one false [.hs 5 0], .row (.int .u8), .one false [.ty .str, .ty .str, .ty (.int .i64), .hs 7 0], .row jaq]
abbrev jgg : List EK := [.ty .bool]
abbrev jeT : List HK := [.one false [.ptr 1 0 0, .hs 3 0, .ptr 4 0 0, .ty (.int .i64)], .one false [.hs 8 0], .row (.int .u8), .row jaq, .one false [.hs 5 0], .row (.int .u8), .one false [.ty .str, .ty .str, .ty (.int .i64), .hs 7 0], .row jaq, .row (.int .u8)]
abbrev jgf : List EK := [.ty .bool]
abbrev jeq : List HK := [.one false [.ptr 1 0 0, .hs 3 0, .ptr 4 0 0, .ty (.int .i64)], .one false [.hs 2 0], .row (.int .u8), .row jaq, .one false [.hs 5 0], .row (.int .u8), .one false [.ty .str, .ty .str, .ty (.int .i64), .hs 8 0], .row jaq, .row jaq]
def jie (n : Nat) (a0 : ActS) (a1 : Nat) (a2 : Int) (a3 : Nat) (a4 : (List Int)) (a5 : (List jan)) (a6 : Nat) (a7 : (List Int)) (a8 : ByteArray) (a9 : ByteArray) (a10 : Int) (a11 : Nat) (a12 : (List jan)) : Option Res :=
 cond (a0.1 == (0 : Int))
 (let y1 := (jBr a0.2.1 a1 a2 a3 a4 a5 a6 a7)
 cond (jou a0.2.1 a1 a2 a3 a4 a5 a6 a7)
 (let y2 := (q_z2n a0.2.1 a8 a9 a10 a11 a12)
 cond (ok_z2n a0.2.1 a8 a9 a10 a11 a12)
 (let y3 := (q_z1f a0.2.1 y1.2.1.2.1 y1.2.1.2.2.2.1 y1.2.2.1.1 y1.2.2.2.1 y1.2.2.2.2.1 y1.2.2.2.2.2.1.1 y1.2.2.2.2.2.2.1)
 cond (jEq a0.2.1 y1.2.1.2.1 y1.2.1.2.2.2.1 y1.2.2.1.1 y1.2.2.2.1 y1.2.2.2.2.1 y1.2.2.2.2.2.1.1 y1.2.2.2.2.2.2.1)
 (let y4 := (q_z2o a0.2.1 y2.2.1.1 y2.2.1.2.1 y2.2.1.2.2.1 y2.2.1.2.2.2.1 y2.2.2.1)
 cond (jOE a0.2.1 y2.2.1.1 y2.2.1.2.1 y2.2.1.2.2.1 y2.2.1.2.2.2.1 y2.2.2.1)
 (cond ((y1.1.1.1 == y2.1.1.1) && ((y1.1.1.2.1 == y2.1.1.2.1) && true))
 (cond (y1.1.2.1 == y2.1.2.1)
 (cond (y3.1.1 == y4.1.1)
 (some (jaa jcG jcI (((y3.1.2.1 == y4.1.2.1), ()), (((), (y3.2.1.2.1, ((), (y3.2.1.2.2.2.1, ())))), ((y3.2.2.1.1, ()), (y3.2.2.2.1, (y3.2.2.2.2.1, ((y3.2.2.2.2.2.1.1, ()), (y3.2.2.2.2.2.2.1, ((y4.2.1.1, (y4.2.1.2.1, (y4.2.1.2.2.1, (y4.2.1.2.2.2.1, ())))), (y4.2.2.1, ())))))))))))
 (some (jaa jcG jcI ((false, ()), (((), (y3.2.1.2.1, ((), (y3.2.1.2.2.2.1, ())))), ((y3.2.2.1.1, ()), (y3.2.2.2.1, (y3.2.2.2.2.1, ((y3.2.2.2.2.2.1.1, ()), (y3.2.2.2.2.2.2.1, ((y4.2.1.1, (y4.2.1.2.1, (y4.2.1.2.2.1, (y4.2.1.2.2.2.1, ())))), (y4.2.2.1, ()))))))))))))
 (some (jaa jcG jcI ((false, ()), (((), (y3.2.1.2.1, ((), (y3.2.1.2.2.2.1, ())))), ((y3.2.2.1.1, ()), (y3.2.2.2.1, (y3.2.2.2.2.1, ((y3.2.2.2.2.2.1.1, ()), (y3.2.2.2.2.2.2.1, ((y4.2.1.1, (y4.2.1.2.1, (y4.2.1.2.2.1, (y4.2.1.2.2.2.1, ())))), (y4.2.2.1, ()))))))))))))
 (some (jaa jcG jcI ((false, ()), (((), (y3.2.1.2.1, ((), (y3.2.1.2.2.2.1, ())))), ((y3.2.2.1.1, ()), (y3.2.2.2.1, (y3.2.2.2.2.1, ((y3.2.2.2.2.2.1.1, ()), (y3.2.2.2.2.2.2.1, ((y4.2.1.1, (y4.2.1.2.1, (y4.2.1.2.2.1, (y4.2.1.2.2.2.1, ())))), (y4.2.2.1, ()))))))))))))
 (none))
 (none))
 (none))
 (none))
 (cond (a0.1 == (1 : Int))
 (let y5 := (jBn a0.2.1 a0.2.2.2.2.1 a1 a2 a3 a4 a5 a6 a7)
 cond (joq a0.2.1 a0.2.2.2.2.1 a1 a2 a3 a4 a5 a6 a7)
 (let y6 := (jDY a0.2.1 a0.2.2.2.2.1 a8 a9 a10 a11 a12)
 cond (jtl a0.2.1 a0.2.2.2.2.1 a8 a9 a10 a11 a12)
 (some (jaa jcG jcI (((y5.1.1 == y6.1.1), ()), (((), (y5.2.1.2.1, ((), (y5.2.1.2.2.2.1, ())))), ((y5.2.2.1.1, ()), (y5.2.2.2.1, (y5.2.2.2.2.1, ((y5.2.2.2.2.2.1.1, ()), (y5.2.2.2.2.2.2.1, ((y6.2.1.1, (y6.2.1.2.1, (y6.2.1.2.2.1, (y6.2.1.2.2.2.1, ())))), (y6.2.2.1, ())))))))))))
 (none))
 (none))
 (cond (a0.1 == (2 : Int))
 (let y9 := (q_z1k a0.2.1 a0.2.2.2.1 a1 a2 a3 a4 a5 a6 a7)
 cond (jEp a0.2.1 a0.2.2.2.1 a1 a2 a3 a4 a5 a6 a7)
 (let y10 := (q_z2u a0.2.1 a0.2.2.2.1 a8 a9 a10 a11 a12)
 cond (jOD a0.2.1 a0.2.2.2.1 a8 a9 a10 a11 a12)
 (some (jaa jcG jcI (((y9.1.1 == y10.1.1), ()), (((), (y9.2.1.2.1, ((), (y9.2.1.2.2.2.1, ())))), ((y9.2.2.1.1, ()), (y9.2.2.2.1, (y9.2.2.2.2.1, ((y9.2.2.2.2.2.1.1, ()), (y9.2.2.2.2.2.2.1, ((y10.2.1.1, (y10.2.1.2.1, (y10.2.1.2.2.1, (y10.2.1.2.2.2.1, ())))), (y10.2.2.1, ())))))))))))
 (none))
 (let y7 := (jvk a0.2.1 a0.2.2.2.1 a1 a2 a3 a4 a5 a6 a7)
 cond (jpS a0.2.1 a0.2.2.2.1 a1 a2 a3 a4 a5 a6 a7)
 (let y8 := (q_z2u a0.2.1 a0.2.2.2.1 a8 a9 a10 a11 a12)
 cond (jOD a0.2.1 a0.2.2.2.1 a8 a9 a10 a11 a12)
 (some (jaa jgg jeT (((y7.1.1 == y8.1.1), ()), (((), (y7.2.1.2.1, ((), (y7.2.1.2.2.2.1, ())))), ((y7.2.2.1.1, ()), (y7.2.2.2.1, (y7.2.2.2.2.1, ((y7.2.2.2.2.2.1.1, ()), (y7.2.2.2.2.2.2.1, ((y8.2.1.1, (y8.2.1.2.1, (y8.2.1.2.2.1, (y8.2.1.2.2.2.1, ())))), (y8.2.2.1, (y7.2.2.2.2.2.2.2.1, ()))))))))))))
 (none))
 (none)))
 (cond (a0.1 == (3 : Int))
 (let y11 := (q_z1r a0.2.1 a0.2.2.2.1 a1 a2 a3 a4 a5 a6 a7)
 cond (jEo a0.2.1 a0.2.2.2.1 a1 a2 a3 a4 a5 a6 a7)
 (let y13 := (q_z2v a0.2.1 a0.2.2.2.1 a8 a9 a10 a11 a12)
 cond (ok_z2v a0.2.1 a0.2.2.2.1 a8 a9 a10 a11 a12)
 (some (jaa jcG jcI (((y11.1.1 == y13.1.1), ()), (((), (y11.2.1.2.1, ((), (y11.2.1.2.2.2.1, ())))), ((y11.2.2.1.1, ()), (y11.2.2.2.1, (y11.2.2.2.2.1, ((y11.2.2.2.2.2.1.1, ()), (y11.2.2.2.2.2.2.1, ((y13.2.1.1, (y13.2.1.2.1, (y13.2.1.2.2.1, (y13.2.1.2.2.2.1, ())))), (y13.2.2.1, ())))))))))))
 (let y12 := (q_z2v_1 a0.2.1 a0.2.2.2.1 a8 a9 a10 a11 a12)
 cond (jLn a0.2.1 a0.2.2.2.1 a8 a9 a10 a11 a12)
 (some (jaa jgf jeq (((y11.1.1 == y12.1.1), ()), (((), (y11.2.1.2.1, ((), (y11.2.1.2.2.2.1, ())))), ((y11.2.2.1.1, ()), (y11.2.2.2.1, (y11.2.2.2.2.1, ((y11.2.2.2.2.2.1.1, ()), (y11.2.2.2.2.2.2.1, ((y12.2.1.1, (y12.2.1.2.1, (y12.2.1.2.2.1, (y12.2.1.2.2.2.1, ())))), (y12.2.2.1, (y12.2.2.2.1, ()))))))))))))
 (none)))
 (none))
 (let y14 := (q_z2z a0.2.1 a0.2.2.1 a0.2.2.2.1 a1 a2 a3 a4 a5 a6 a7)
 cond (ok_z2z a0.2.1 a0.2.2.1 a0.2.2.2.1 a1 a2 a3 a4 a5 a6 a7)
 (let y15 := (q_z33 a0.2.1 a0.2.2.1 a0.2.2.2.1 a8 a9 a10 a11 a12)
 cond (ok_z33 a0.2.1 a0.2.2.1 a0.2.2.2.1 a8 a9 a10 a11 a12)
 (some (jaa jcG jcI (((y14.1.1 == y15.1.1), ()), (((), (y14.2.1.2.1, ((), (y14.2.1.2.2.2.1, ())))), ((y14.2.2.1.1, ()), (y14.2.2.2.1, (y14.2.2.2.2.1, ((y14.2.2.2.2.2.1.1, ()), (y14.2.2.2.2.2.2.1, ((y15.2.1.1, (y15.2.1.2.1, (y15.2.1.2.2.1, (y15.2.1.2.2.2.1, ())))), (y15.2.2.1, ())))))))))))
 (none))
 (none)))))
def jur (a0 a1 a2 a3 a4 a5 a6 a7 a8 a9 a10 a11 a12 : _) := jap jcG jcI (jie FUEL a0 a1 a2 a3 a4 a5 a6 a7 a8 a9 a10 a11 a12)
def jjt (a0 a1 a2 a3 a4 a5 a6 a7 a8 a9 a10 a11 a12 : _) := jap jgg jeT (jie FUEL a0 a1 a2 a3 a4 a5 a6 a7 a8 a9 a10 a11 a12)
def jLm (a0 a1 a2 a3 a4 a5 a6 a7 a8 a9 a10 a11 a12 : _) := (jjt a0 a1 a2 a3 a4 a5 a6 a7 a8 a9 a10 a11 a12).isSome
def q_z34_1 (a0 a1 a2 a3 a4 a5 a6 a7 a8 a9 a10 a11 a12 : _) := RS.get (jjt a0 a1 a2 a3 a4 a5 a6 a7 a8 a9 a10 a11 a12)
def jrc (a0 a1 a2 a3 a4 a5 a6 a7 a8 a9 a10 a11 a12 : _) := jap jgf jeq (jie FUEL a0 a1 a2 a3 a4 a5 a6 a7 a8 a9 a10 a11 a12)
def jLl (a0 a1 a2 a3 a4 a5 a6 a7 a8 a9 a10 a11 a12 : _) := (jrc a0 a1 a2 a3 a4 a5 a6 a7 a8 a9 a10 a11 a12).isSome
def q_z34_2 (a0 a1 a2 a3 a4 a5 a6 a7 a8 a9 a10 a11 a12 : _) := RS.get (jrc a0 a1 a2 a3 a4 a5 a6 a7 a8 a9 a10 a11 a12)
def ok_z34 (a0 a1 a2 a3 a4 a5 a6 a7 a8 a9 a10 a11 a12 : _) := (jur a0 a1 a2 a3 a4 a5 a6 a7 a8 a9 a10 a11 a12).isSome
def q_z34 (a0 a1 a2 a3 a4 a5 a6 a7 a8 a9 a10 a11 a12 : _) := RS.get (jur a0 a1 a2 a3 a4 a5 a6 a7 a8 a9 a10 a11 a12)
end
end Go.AMach
