/- A part of the walk. -/
import Derived.Test.YtfmjdojndbpkhaaAm21
namespace Go.AMach
set_option linter.unusedVariables false
set_option linter.unusedSimpArgs false
set_option linter.unnecessarySimpa false
set_option linter.unusedVariables false
abbrev ArgT : Ty := (.pair (.int .u8) (.pair (.int .u64) .unit))
abbrev ArgS : Type := (Int × (Int × Unit))
abbrev zArgS : ArgS := ((0 : Int), ((0 : Int), ()))
abbrev ObjT : Ty := (.pair (.int .i64) (.pair (.int .i64) .unit))
abbrev ObjS : Type := (Int × (Int × Unit))
abbrev zObjS : ObjS := ((0 : Int), ((0 : Int), ()))
abbrev ArmT : Ty := (.pair (.int .u32) (.pair (.int .i64) .unit))
abbrev ArmS : Type := (Int × (Int × Unit))
abbrev zArmS : ArmS := ((0 : Int), ((0 : Int), ()))
abbrev BucketT : Ty := (.pair (.int .u64) (.pair (.int .i64) .unit))
abbrev BucketS : Type := (Int × (Int × Unit))
abbrev zBucketS : BucketS := ((0 : Int), ((0 : Int), ()))
abbrev SpanT : Ty := (.pair (.int .i64) ObjT)
abbrev SpanS : Type := (Int × ObjS)
abbrev zSpanS : SpanS := ((0 : Int), zObjS)
abbrev FieldT : Ty := (.pair (.int .i64) (.pair (.int .u8) SpanT))
abbrev FieldS : Type := (Int × (Int × SpanS))
abbrev zFieldS : FieldS := ((0 : Int), ((0 : Int), zSpanS))
abbrev TableT : Ty := (.pair (.int .i64) (.pair (.int .u8) (.pair (.slice (.int .i64)) ObjT)))
abbrev TableS : Type := (Int × (Int × ((List Int) × ObjS)))
abbrev zTableS : TableS := ((0 : Int), ((0 : Int), ([], zObjS)))
abbrev GroupT : Ty := (.pair (.int .i64) (.pair (.int .u8) (.pair (.int .i64) (.pair (.slice BucketT) .unit))))
abbrev GroupS : Type := (Int × (Int × (Int × ((List BucketS) × Unit))))
abbrev zGroupS : GroupS := ((0 : Int), ((0 : Int), ((0 : Int), ([], ()))))
abbrev InstrT : Ty := (.pair (.int .u8) (.pair (.int .i64) (.pair ArgT (.pair ArgT (.pair (.int .i64) .unit)))))
abbrev InstrS : Type := (Int × (Int × (ArgS × (ArgS × (Int × Unit)))))
abbrev zInstrS : InstrS := ((0 : Int), ((0 : Int), (zArgS, (zArgS, ((0 : Int), ())))))
abbrev BlockT : Ty := (.pair (.int .i64) (.pair (.slice InstrT) .unit))
abbrev BlockS : Type := (Int × ((List InstrS) × Unit))
abbrev zBlockS : BlockS := ((0 : Int), ([], ()))
abbrev EntryT : Ty := (.pair (.int .i64) (.pair .str (.pair .str (.pair (.int .i64) (.pair (.int .i64) (.pair (.int .i64) (.pair (.slice (.int .u64)) (.pair (.int .i64) (.pair (.int .i64) (.pair (.int .u64) (.pair .bool .unit)))))))))))
abbrev EntryS : Type := (Int × (ByteArray × (ByteArray × (Int × (Int × (Int × ((List Int) × (Int × (Int × (Int × (Bool × Unit)))))))))))
abbrev zEntryS : EntryS := ((0 : Int), (ByteArray.empty, (ByteArray.empty, ((0 : Int), ((0 : Int), ((0 : Int), ([], ((0 : Int), ((0 : Int), ((0 : Int), (false, ())))))))))))
abbrev NodeT : Ty := (.pair (.int .i64) (.pair (.int .i64) (.pair (.int .i64) (.pair (.int .i64) (.pair (.int .i64) (.pair (.int .i64) (.pair (.int .i64) (.pair (.slice ArmT) (.pair (.int .i64) .unit)))))))))
abbrev NodeS : Type := (Int × (Int × (Int × (Int × (Int × (Int × (Int × ((List ArmS) × (Int × Unit)))))))))
abbrev zNodeS : NodeS := ((0 : Int), ((0 : Int), ((0 : Int), ((0 : Int), ((0 : Int), ((0 : Int), ((0 : Int), ([], ((0 : Int), ())))))))))
abbrev ConfigT : Ty := (.pair (.slice NodeT) (.pair (.slice FieldT) (.pair (.slice TableT) (.pair (.slice EntryT) (.pair (.slice BlockT) (.pair (.slice GroupT) (.pair (.slice SpanT) (.pair (.slice ObjT) (.pair (.slice (.int .i64)) .unit)))))))))
abbrev ConfigS : Type := ((List NodeS) × ((List FieldS) × ((List TableS) × ((List EntryS) × ((List BlockS) × ((List GroupS) × ((List SpanS) × ((List ObjS) × ((List Int) × Unit)))))))))
abbrev zConfigS : ConfigS := ([], ([], ([], ([], ([], ([], ([], ([], ([], ())))))))))
abbrev WalkerT : Ty := (.pair ConfigT (.pair (.slice (.int .u8)) (.pair (.int .i64) .unit)))
abbrev WalkerS : Type := (ConfigS × ((List Int) × (Int × Unit)))
abbrev zWalkerS : WalkerS := (zConfigS, ([], ((0 : Int), ())))
/-! z00: turnoutlaw24_large -/
abbrev ro_z00 : List EK := [.ty .bool]
abbrev rh_z00 : List HK := []
noncomputable def F_z00_0 (n : Nat) (k_t0 : Int → Option Res) (x0_2 : ConfigS) (rec : Int → Int → Option Res) (x0_0 : Int) (x0_1 : Int) : Option Res :=
 cond (decide (x0_1 < (((List.length x0_2.1) : Nat) : Int)))
 (cond (decide (x0_0 < (600 : Int)))
 (cond (decide ((0 : Int) ≤ x0_1 ∧ x0_1 < (((List.length x0_2.1) : Nat) : Int)))
 (let y3 : Int := (if (((List.length (rdd zNodeS x0_2.1 (Int.toNat x0_1)).2.2.2.2.2.2.2.1) : Nat) : Int) < (600 : Int) then (((List.length (rdd zNodeS x0_2.1 (Int.toNat x0_1)).2.2.2.2.2.2.2.1) : Nat) : Int) else (600 : Int))
 rec (IntKind.wrap .i64 (x0_0 + y3)) (IntKind.wrap .i64 (x0_1 + (1 : Int))))
 (none))
 (k_t0 x0_0))
 (k_t0 x0_0)
noncomputable def L_z00_0 (n : Nat) (k_t0 : Int → Option Res) (x0_2 : ConfigS) : Nat → Int → Int → Option Res
  | 0, _, _ => none
  | m + 1, x0_0, x0_1 => F_z00_0 n k_t0 x0_2 (L_z00_0 n k_t0 x0_2 m) x0_0 x0_1
noncomputable def F_z00_2 (n : Nat) (k_t2 : Int → Option Res) (x2_2 : ConfigS) (rec : Int → Int → Option Res) (x2_0 : Int) (x2_1 : Int) : Option Res :=
 cond (decide (x2_1 < (((List.length x2_2.2.2.2.2.1) : Nat) : Int)))
 (cond (decide (x2_0 < (600 : Int)))
 (cond (decide ((0 : Int) ≤ x2_1 ∧ x2_1 < (((List.length x2_2.2.2.2.2.1) : Nat) : Int)))
 (let y5 : Int := (if (((List.length (rdd zBlockS x2_2.2.2.2.2.1 (Int.toNat x2_1)).2.1) : Nat) : Int) < (600 : Int) then (((List.length (rdd zBlockS x2_2.2.2.2.2.1 (Int.toNat x2_1)).2.1) : Nat) : Int) else (600 : Int))
 rec (IntKind.wrap .i64 (x2_0 + y5)) (IntKind.wrap .i64 (x2_1 + (1 : Int))))
 (none))
 (k_t2 x2_0))
 (k_t2 x2_0)
noncomputable def L_z00_2 (n : Nat) (k_t2 : Int → Option Res) (x2_2 : ConfigS) : Nat → Int → Int → Option Res
  | 0, _, _ => none
  | m + 1, x2_0, x2_1 => F_z00_2 n k_t2 x2_2 (L_z00_2 n k_t2 x2_2 m) x2_0 x2_1
noncomputable def F_z00_4 (n : Nat) (k_t4 : Int → Option Res) (x4_2 : ConfigS) (rec : Int → Int → Option Res) (x4_0 : Int) (x4_1 : Int) : Option Res :=
 cond (decide (x4_1 < (((List.length x4_2.2.2.2.2.2.1) : Nat) : Int)))
 (cond (decide (x4_0 < (600 : Int)))
 (cond (decide ((0 : Int) ≤ x4_1 ∧ x4_1 < (((List.length x4_2.2.2.2.2.2.1) : Nat) : Int)))
 (let y7 : Int := (if (((List.length (rdd zGroupS x4_2.2.2.2.2.2.1 (Int.toNat x4_1)).2.2.2.1) : Nat) : Int) < (600 : Int) then (((List.length (rdd zGroupS x4_2.2.2.2.2.2.1 (Int.toNat x4_1)).2.2.2.1) : Nat) : Int) else (600 : Int))
 rec (IntKind.wrap .i64 (x4_0 + y7)) (IntKind.wrap .i64 (x4_1 + (1 : Int))))
 (none))
 (k_t4 x4_0))
 (k_t4 x4_0)
noncomputable def L_z00_4 (n : Nat) (k_t4 : Int → Option Res) (x4_2 : ConfigS) : Nat → Int → Int → Option Res
  | 0, _, _ => none
  | m + 1, x4_0, x4_1 => F_z00_4 n k_t4 x4_2 (L_z00_4 n k_t4 x4_2 m) x4_0 x4_1
noncomputable def M_z00 (n : Nat) (a0 : ConfigS) : Option Res :=
 let y1 : Int := (IntKind.wrap .i64 ((((List.length a0.1) : Nat) : Int) + (((List.length a0.2.2.1) : Nat) : Int)))
 let y2 : Int := (IntKind.wrap .i64 ((IntKind.wrap .i64 (y1 + (((List.length a0.2.2.2.1) : Nat) : Int))) + (((List.length a0.2.2.2.2.1) : Nat) : Int)))
 cond (decide ((IntKind.wrap .i64 (y2 + (((List.length a0.2.2.2.2.2.1) : Nat) : Int))) > (60 : Int)))
 (some (encRes ro_z00 rh_z00 ((true, ()), ())))
 (L_z00_0 n
  (fun y4 => L_z00_2 n
  (fun y6 => L_z00_4 n
  (fun y8 => some (encRes ro_z00 rh_z00 (((decide (y8 ≥ (600 : Int))), ()), ())))
  a0
  n
  y6
  (0 : Int))
  a0
  n
  y4
  (0 : Int))
  a0
  n
  (IntKind.wrap .i64 (y2 + (((List.length a0.2.2.2.2.2.1) : Nat) : Int)))
  (0 : Int))
noncomputable def Q_z00 (a0 : ConfigS) : Option (RS ro_z00 rh_z00) := decRes ro_z00 rh_z00 (M_z00 FUEL a0)
noncomputable def ok_z00 (a0 : ConfigS) : Bool := (Q_z00 a0).isSome
noncomputable def q_z00 (a0 : ConfigS) : RS ro_z00 rh_z00 := RS.get (Q_z00 a0)
/-! z01: turnoutlaw24_code -/
abbrev ro_z01 : List EK := [.hs 0 0]
abbrev rh_z01 : List HK := [.row InstrT]
noncomputable def F_z01_0 (n : Nat) (k_t0 : Nat → (List InstrS) → Option Res) (x0_0 : (List Int)) (rec : Nat → Int → (List InstrS) → Option Res) (x0_1 : Nat) (x0_2 : Int) (x0_3 : (List InstrS)) : Option Res :=
 cond (decide (x0_2 < (((List.length x0_0) : Nat) : Int)))
 (cond (decide ((0 : Int) ≤ x0_2 ∧ x0_2 < (((List.length x0_0) : Nat) : Int)))
 (cond (decide ((0 : Int) ≤ x0_2 ∧ x0_2 < (((List.length x0_0) : Nat) : Int)))
 (cond ((rdd (0 : Int) x0_0 (Int.toNat x0_2)) == (12 : Int))
 (cond (decide (((List.length (cutL zInstrS x0_3 0 x0_1)) + 1) * 56 ≤ 2 ^ 46 ∧ ((List.length (cutL zInstrS x0_3 0 x0_1)) + 1) ≤ 2 ^ 46))
 (rec ((List.length (cutL zInstrS x0_3 0 x0_1)) + 1) (IntKind.wrap .i64 (x0_2 + (1 : Int))) ((cutL zInstrS x0_3 0 x0_1) ++ [((rdd (0 : Int) x0_0 (Int.toNat x0_2)), ((0 : Int), (((0 : Int), ((0 : Int), ())), (((0 : Int), ((0 : Int), ())), ((1 : Int), ())))))]))
 (none))
 (cond (decide ((0 : Int) ≤ x0_2 ∧ x0_2 < (((List.length x0_0) : Nat) : Int)))
 (cond ((rdd (0 : Int) x0_0 (Int.toNat x0_2)) == (13 : Int))
 (cond (decide (((List.length (cutL zInstrS x0_3 0 x0_1)) + 1) * 56 ≤ 2 ^ 46 ∧ ((List.length (cutL zInstrS x0_3 0 x0_1)) + 1) ≤ 2 ^ 46))
 (rec ((List.length (cutL zInstrS x0_3 0 x0_1)) + 1) (IntKind.wrap .i64 (x0_2 + (1 : Int))) ((cutL zInstrS x0_3 0 x0_1) ++ [((rdd (0 : Int) x0_0 (Int.toNat x0_2)), ((0 : Int), (((0 : Int), ((0 : Int), ())), (((0 : Int), ((0 : Int), ())), ((1 : Int), ())))))]))
 (none))
 (cond (decide ((0 : Int) ≤ x0_2 ∧ x0_2 < (((List.length x0_0) : Nat) : Int)))
 (cond ((rdd (0 : Int) x0_0 (Int.toNat x0_2)) == (14 : Int))
 (cond (decide (((List.length (cutL zInstrS x0_3 0 x0_1)) + 1) * 56 ≤ 2 ^ 46 ∧ ((List.length (cutL zInstrS x0_3 0 x0_1)) + 1) ≤ 2 ^ 46))
 (rec ((List.length (cutL zInstrS x0_3 0 x0_1)) + 1) (IntKind.wrap .i64 (x0_2 + (1 : Int))) ((cutL zInstrS x0_3 0 x0_1) ++ [((rdd (0 : Int) x0_0 (Int.toNat x0_2)), ((0 : Int), (((0 : Int), ((0 : Int), ())), (((0 : Int), ((0 : Int), ())), ((1 : Int), ())))))]))
 (none))
 (cond (decide (((List.length (cutL zInstrS x0_3 0 x0_1)) + 1) * 56 ≤ 2 ^ 46 ∧ ((List.length (cutL zInstrS x0_3 0 x0_1)) + 1) ≤ 2 ^ 46))
 (rec ((List.length (cutL zInstrS x0_3 0 x0_1)) + 1) (IntKind.wrap .i64 (x0_2 + (1 : Int))) ((cutL zInstrS x0_3 0 x0_1) ++ [((rdd (0 : Int) x0_0 (Int.toNat x0_2)), ((0 : Int), (((0 : Int), ((0 : Int), ())), (((0 : Int), ((0 : Int), ())), ((0 : Int), ())))))]))
 (none)))
 (none)))
 (none)))
 (none))
 (none))
 (k_t0 x0_1 x0_3)
noncomputable def L_z01_0 (n : Nat) (k_t0 : Nat → (List InstrS) → Option Res) (x0_0 : (List Int)) : Nat → Nat → Int → (List InstrS) → Option Res
  | 0, _, _, _ => none
  | m + 1, x0_1, x0_2, x0_3 => F_z01_0 n k_t0 x0_0 (L_z01_0 n k_t0 x0_0 m) x0_1 x0_2 x0_3
noncomputable def M_z01 (n : Nat) (a0 : (List Int)) : Option Res :=
 L_z01_0 n
  (fun y1 y2 => some (encRes ro_z01 rh_z01 ((y1, ()), (y2, ()))))
  a0
  n
  0
  (0 : Int)
  ([])
noncomputable def Q_z01 (a0 : (List Int)) : Option (RS ro_z01 rh_z01) := decRes ro_z01 rh_z01 (M_z01 FUEL a0)
noncomputable def ok_z01 (a0 : (List Int)) : Bool := (Q_z01 a0).isSome
noncomputable def q_z01 (a0 : (List Int)) : RS ro_z01 rh_z01 := RS.get (Q_z01 a0)
/-! z02: bound_solve -/
def putI {α : Type} (k : Int) (v : α) (g : Int → Option α) : Int → Option α := fun i => cond (decide (i = k)) (some v) (g i)
def solve1 : List TableS → (Int → Option (List Int)) → List ObjS → (Int → Option (List Int)) × List ObjS
  | [], g, l => (g, l)
  | t :: r, g, l => match g t.1 with
    | some _ => solve1 r g l
    | none => solve1 r (putI t.1 [t.2.2.2.2.1] g) (l ++ [(0, (t.1, ()))])
def solve2 : List EntryS → (Int → Option (List Int)) → (Int → Option (List Int))
  | [], g => g
  | x :: r, g => match g x.1 with
    | some l => solve2 r (putI x.1 (l ++ [x.2.2.2.2.2.1]) g)
    | none => solve2 r g
def solve3 : List BlockS → (Int → Option (List InstrS)) → List ObjS → (Int → Option (List InstrS)) × List ObjS
  | [], g, l => (g, l)
  | b :: r, g, l => match g b.1 with
    | some _ => solve3 r g l
    | none => solve3 r (putI b.1 b.2.1 g) (l ++ [(1, (b.1, ()))])
def solve4 : List GroupS → (Int → Option GroupS) → List ObjS → (Int → Option GroupS) × List ObjS
  | [], g, l => (g, l)
  | b :: r, g, l => match g b.1 with
    | some _ => solve4 r g l
    | none => solve4 r (putI b.1 b g) (l ++ [(2, (b.1, ()))])
def solveT (c : ConfigS) := solve1 c.2.2.1 (fun _ => none) []
def solveB (c : ConfigS) := solve3 c.2.2.2.2.1 (fun _ => none) (solveT c).2
def solveG (c : ConfigS) := solve4 c.2.2.2.2.2.1 (fun _ => none) (solveB c).2
def solveQ (c : ConfigS) : Option (RS [.ptr 0 0 0] [.one false [.mp 1, .mp 2, .mp 3, .ty (.slice ObjT)], .mf (.int .i64) (.slice (.int .i64)), .mf (.int .i64) (.slice InstrT), .mf (.int .i64) GroupT]) :=
  cond (decide (c.2.2.1.length ≤ 1000 ∧ c.2.2.2.1.length ≤ 1000 ∧ c.2.2.2.2.1.length ≤ 1000 ∧ c.2.2.2.2.2.1.length ≤ 1000))
    (some (((), ()), (((), ((), ((), ((solveG c).2, ())))), (solve2 c.2.2.2.1 (solveT c).1, ((solveB c).1, ((solveG c).1, ()))))))
    none
abbrev ro_z02 : List EK := [.ptr 0 0 0]
abbrev rh_z02 : List HK := [.one false [.mp 1, .mp 2, .mp 3, .ty (.slice ObjT)], .mf (.int .i64) (.slice (.int .i64)), .mf (.int .i64) (.slice InstrT), .mf (.int .i64) GroupT]
noncomputable def Q_z02 (c : ConfigS) : Option (RS ro_z02 rh_z02) := solveQ c
noncomputable def ok_z02 (c : ConfigS) : Bool := (Q_z02 c).isSome
noncomputable def q_z02 (c : ConfigS) : RS ro_z02 rh_z02 := RS.get (Q_z02 c)
abbrev ro_z04 : List EK := [.ty .bool]
abbrev rh_z04 : List HK := [.one false [.mp 1], .mf ObjT (.int .i64), .one false [.ptr 3 0 0], .one false [.mp 4, .mp 5, .mp 6, .ty (.slice ObjT)], .mf (.int .i64) (.slice (.int .i64)), .mf (.int .i64) (.slice InstrT), .mf (.int .i64) GroupT, .one false [.fn 42 [(0, 0, 0), (2, 0, 0), (7, 0, 0)]]]
/-! z03: bound_solver_leads -/
abbrev ro_z03 : List EK := [.hs 4 0]
abbrev rh_z03 : List HK := [.one false [.mp 1, .mp 2, .mp 3, .ty (.slice ObjT)], .mf (.int .i64) (.slice (.int .i64)), .mf (.int .i64) (.slice InstrT), .mf (.int .i64) GroupT, .row ObjT]
noncomputable def F_z03_3 (n : Nat) (k_t3 : Nat → (List ObjS) → Option Res) (x3_1 : (List Int)) (x3_2 : Int) (rec : Nat → Int → (List ObjS) → Option Res) (x3_0 : Nat) (x3_3 : Int) (x3_8 : (List ObjS)) : Option Res :=
 cond (decide (x3_3 < x3_2))
 (cond (decide ((0 : Int) ≤ x3_3 ∧ x3_3 < (((List.length x3_1) : Nat) : Int)))
 (cond (decide (((List.length (cutL zObjS x3_8 0 x3_0)) + 1) * 16 ≤ 2 ^ 46 ∧ ((List.length (cutL zObjS x3_8 0 x3_0)) + 1) ≤ 2 ^ 46))
 (rec ((List.length (cutL zObjS x3_8 0 x3_0)) + 1) (IntKind.wrap .i64 (x3_3 + (1 : Int))) ((cutL zObjS x3_8 0 x3_0) ++ [((1 : Int), ((rdd (0 : Int) x3_1 (Int.toNat x3_3)), ()))]))
 (none))
 (none))
 (k_t3 x3_0 x3_8)
noncomputable def L_z03_3 (n : Nat) (k_t3 : Nat → (List ObjS) → Option Res) (x3_1 : (List Int)) (x3_2 : Int) : Nat → Nat → Int → (List ObjS) → Option Res
  | 0, _, _, _ => none
  | m + 1, x3_0, x3_3, x3_8 => F_z03_3 n k_t3 x3_1 x3_2 (L_z03_3 n k_t3 x3_1 x3_2 m) x3_0 x3_3 x3_8
noncomputable def F_z03_5 (n : Nat) (k_t5 : Nat → (List ObjS) → Option Res) (x5_1 : (List InstrS)) (x5_2 : Int) (rec : Nat → Int → (List ObjS) → Option Res) (x5_0 : Nat) (x5_3 : Int) (x5_8 : (List ObjS)) : Option Res :=
 cond (decide (x5_3 < x5_2))
 (cond (decide ((0 : Int) ≤ x5_3 ∧ x5_3 < (((List.length x5_1) : Nat) : Int)))
 (cond ((rdd zInstrS x5_1 (Int.toNat x5_3)).1 == (13 : Int))
 (cond (decide (((List.length (cutL zObjS x5_8 0 x5_0)) + 1) * 16 ≤ 2 ^ 46 ∧ ((List.length (cutL zObjS x5_8 0 x5_0)) + 1) ≤ 2 ^ 46))
 (rec ((List.length (cutL zObjS x5_8 0 x5_0)) + 1) (IntKind.wrap .i64 (x5_3 + (1 : Int))) ((cutL zObjS x5_8 0 x5_0) ++ [((0 : Int), (rdd zInstrS x5_1 (Int.toNat x5_3)).2.2.2.2)]))
 (none))
 (cond ((rdd zInstrS x5_1 (Int.toNat x5_3)).1 == (14 : Int))
 (cond (decide (((List.length (cutL zObjS x5_8 0 x5_0)) + 1) * 16 ≤ 2 ^ 46 ∧ ((List.length (cutL zObjS x5_8 0 x5_0)) + 1) ≤ 2 ^ 46))
 (rec ((List.length (cutL zObjS x5_8 0 x5_0)) + 1) (IntKind.wrap .i64 (x5_3 + (1 : Int))) ((cutL zObjS x5_8 0 x5_0) ++ [((2 : Int), (rdd zInstrS x5_1 (Int.toNat x5_3)).2.2.2.2)]))
 (none))
 (rec x5_0 (IntKind.wrap .i64 (x5_3 + (1 : Int))) x5_8)))
 (none))
 (k_t5 x5_0 x5_8)
noncomputable def L_z03_5 (n : Nat) (k_t5 : Nat → (List ObjS) → Option Res) (x5_1 : (List InstrS)) (x5_2 : Int) : Nat → Nat → Int → (List ObjS) → Option Res
  | 0, _, _, _ => none
  | m + 1, x5_0, x5_3, x5_8 => F_z03_5 n k_t5 x5_1 x5_2 (L_z03_5 n k_t5 x5_1 x5_2 m) x5_0 x5_3 x5_8
noncomputable def F_z03_1 (n : Nat) (k_t1 : Nat → (List ObjS) → Option Res) (x1_1 : (List BucketS)) (x1_2 : Int) (rec : Nat → Int → (List ObjS) → Option Res) (x1_0 : Nat) (x1_3 : Int) (x1_8 : (List ObjS)) : Option Res :=
 cond (decide (x1_3 < x1_2))
 (cond (decide ((0 : Int) ≤ x1_3 ∧ x1_3 < (((List.length x1_1) : Nat) : Int)))
 (cond (decide (((List.length (cutL zObjS x1_8 0 x1_0)) + 1) * 16 ≤ 2 ^ 46 ∧ ((List.length (cutL zObjS x1_8 0 x1_0)) + 1) ≤ 2 ^ 46))
 (rec ((List.length (cutL zObjS x1_8 0 x1_0)) + 1) (IntKind.wrap .i64 (x1_3 + (1 : Int))) ((cutL zObjS x1_8 0 x1_0) ++ [((1 : Int), (rdd zBucketS x1_1 (Int.toNat x1_3)).2)]))
 (none))
 (none))
 (k_t1 x1_0 x1_8)
noncomputable def L_z03_1 (n : Nat) (k_t1 : Nat → (List ObjS) → Option Res) (x1_1 : (List BucketS)) (x1_2 : Int) : Nat → Nat → Int → (List ObjS) → Option Res
  | 0, _, _, _ => none
  | m + 1, x1_0, x1_3, x1_8 => F_z03_1 n k_t1 x1_1 x1_2 (L_z03_1 n k_t1 x1_1 x1_2 m) x1_0 x1_3 x1_8
noncomputable def M_z03 (n : Nat) (a0 : ObjS) (a1 : (List ObjS)) (a2 : (Int → Option ((List Int)))) (a3 : (Int → Option ((List InstrS)))) (a4 : (Int → Option (GroupS))) : Option Res :=
 cond (a0.1 == (0 : Int))
 (L_z03_3 n
  (fun y1 y2 => some (encRes ro_z03 rh_z03 ((y1, ()), (((), ((), ((), (a1, ())))), (a2, (a3, (a4, (y2, ()))))))))
  (Option.getD (a2 a0.2.1) [])
  (((List.length (Option.getD (a2 a0.2.1) [])) : Nat) : Int)
  n
  0
  (0 : Int)
  ([]))
 (cond (a0.1 == (1 : Int))
 (L_z03_5 n
  (fun y3 y4 => some (encRes ro_z03 rh_z03 ((y3, ()), (((), ((), ((), (a1, ())))), (a2, (a3, (a4, (y4, ()))))))))
  (Option.getD (a3 a0.2.1) [])
  (((List.length (Option.getD (a3 a0.2.1) [])) : Nat) : Int)
  n
  0
  (0 : Int)
  ([]))
 (L_z03_1 n
  (fun y5 y6 => some (encRes ro_z03 rh_z03 ((y5, ()), (((), ((), ((), (a1, ())))), (a2, (a3, (a4, (y6, ()))))))))
  ((Option.getD (a4 a0.2.1) zGroupS).2.2.2.1)
  (((List.length (Option.getD (a4 a0.2.1) zGroupS).2.2.2.1) : Nat) : Int)
  n
  0
  (0 : Int)
  ([])))
noncomputable def Q_z03 (a0 : ObjS) (a1 : (List ObjS)) (a2 : (Int → Option ((List Int)))) (a3 : (Int → Option ((List InstrS)))) (a4 : (Int → Option (GroupS))) : Option (RS ro_z03 rh_z03) := decRes ro_z03 rh_z03 (M_z03 FUEL a0 a1 a2 a3 a4)
noncomputable def ok_z03 (a0 : ObjS) (a1 : (List ObjS)) (a2 : (Int → Option ((List Int)))) (a3 : (Int → Option ((List InstrS)))) (a4 : (Int → Option (GroupS))) : Bool := (Q_z03 a0 a1 a2 a3 a4).isSome
noncomputable def q_z03 (a0 : ObjS) (a1 : (List ObjS)) (a2 : (Int → Option ((List Int)))) (a3 : (Int → Option ((List InstrS)))) (a4 : (Int → Option (GroupS))) : RS ro_z03 rh_z03 := RS.get (Q_z03 a0 a1 a2 a3 a4)
/-! z04: bound_solver_cycle_1 -/
noncomputable def F_z04_0 (n : Nat) (qr_z04 : ObjS → (ObjS → Option (Int)) → (List ObjS) → (Int → Option ((List Int))) → (Int → Option ((List InstrS))) → (Int → Option (GroupS)) → Option (RS ro_z04 rh_z04)) (k_r : Bool → (ObjS → Option (Int)) → (List ObjS) → (Int → Option ((List Int))) → (Int → Option ((List InstrS))) → (Int → Option (GroupS)) → Option Res) (k_t0 : (ObjS → Option (Int)) → (List ObjS) → (Int → Option ((List Int))) → (Int → Option ((List InstrS))) → (Int → Option (GroupS)) → Option Res) (x0_0 : Nat) (x0_1 : Int) (x0_9 : (List ObjS)) (rec : Int → (ObjS → Option (Int)) → (List ObjS) → (Int → Option ((List Int))) → (Int → Option ((List InstrS))) → (Int → Option (GroupS)) → Option Res) (x0_2 : Int) (x0_3 : (ObjS → Option (Int))) (x0_4 : (List ObjS)) (x0_5 : (Int → Option ((List Int)))) (x0_6 : (Int → Option ((List InstrS)))) (x0_7 : (Int → Option (GroupS))) : Option Res :=
 cond (decide (x0_2 < x0_1))
 (cond (decide ((0 : Int) ≤ x0_2 ∧ x0_2 < ((x0_0 : Nat) : Int)))
 (let y2 : ((Bool × Unit) × ((Unit × Unit) × ((ObjS → Option (Int)) × ((Unit × Unit) × ((Unit × (Unit × (Unit × ((List ObjS) × Unit)))) × ((Int → Option ((List Int))) × ((Int → Option ((List InstrS))) × ((Int → Option (GroupS)) × ((Unit × Unit) × Unit))))))))) := (RS.get (qr_z04 (rdd zObjS x0_9 (Int.toNat x0_2)) x0_3 x0_4 x0_5 x0_6 x0_7))
 cond (Option.isSome (qr_z04 (rdd zObjS x0_9 (Int.toNat x0_2)) x0_3 x0_4 x0_5 x0_6 x0_7))
 (cond y2.1.1
 (k_r true y2.2.2.1 y2.2.2.2.2.1.2.2.2.1 y2.2.2.2.2.2.1 y2.2.2.2.2.2.2.1 y2.2.2.2.2.2.2.2.1)
 (rec (IntKind.wrap .i64 (x0_2 + (1 : Int))) y2.2.2.1 y2.2.2.2.2.1.2.2.2.1 y2.2.2.2.2.2.1 y2.2.2.2.2.2.2.1 y2.2.2.2.2.2.2.2.1))
 (none))
 (none))
 (k_t0 x0_3 x0_4 x0_5 x0_6 x0_7)
noncomputable def L_z04_0 (n : Nat) (qr_z04 : ObjS → (ObjS → Option (Int)) → (List ObjS) → (Int → Option ((List Int))) → (Int → Option ((List InstrS))) → (Int → Option (GroupS)) → Option (RS ro_z04 rh_z04)) (k_r : Bool → (ObjS → Option (Int)) → (List ObjS) → (Int → Option ((List Int))) → (Int → Option ((List InstrS))) → (Int → Option (GroupS)) → Option Res) (k_t0 : (ObjS → Option (Int)) → (List ObjS) → (Int → Option ((List Int))) → (Int → Option ((List InstrS))) → (Int → Option (GroupS)) → Option Res) (x0_0 : Nat) (x0_1 : Int) (x0_9 : (List ObjS)) : Nat → Int → (ObjS → Option (Int)) → (List ObjS) → (Int → Option ((List Int))) → (Int → Option ((List InstrS))) → (Int → Option (GroupS)) → Option Res
  | 0, _, _, _, _, _, _ => none
  | m + 1, x0_2, x0_3, x0_4, x0_5, x0_6, x0_7 => F_z04_0 n qr_z04 k_r k_t0 x0_0 x0_1 x0_9 (L_z04_0 n qr_z04 k_r k_t0 x0_0 x0_1 x0_9 m) x0_2 x0_3 x0_4 x0_5 x0_6 x0_7
noncomputable def M_z04 (n : Nat) (qr_z04 : ObjS → (ObjS → Option (Int)) → (List ObjS) → (Int → Option ((List Int))) → (Int → Option ((List InstrS))) → (Int → Option (GroupS)) → Option (RS ro_z04 rh_z04)) (a0 : ObjS) (a1 : (ObjS → Option (Int))) (a2 : (List ObjS)) (a3 : (Int → Option ((List Int)))) (a4 : (Int → Option ((List InstrS)))) (a5 : (Int → Option (GroupS))) : Option Res :=
 cond ((Option.getD (a1 a0) (0 : Int)) != (0 : Int))
 (some (encRes ro_z04 rh_z04 ((((Option.getD (a1 a0) (0 : Int)) == (1 : Int)), ()), (((), ()), (a1, (((), ()), (((), ((), ((), (a2, ())))), (a3, (a4, (a5, (((), ()), ())))))))))))
 (let y1 : ((Nat × Unit) × ((Unit × (Unit × (Unit × ((List ObjS) × Unit)))) × ((Int → Option ((List Int))) × ((Int → Option ((List InstrS))) × ((Int → Option (GroupS)) × ((List ObjS) × Unit)))))) := (q_z03 a0 a2 a3 a4 a5)
 cond (ok_z03 a0 a2 a3 a4 a5)
 (L_z04_0 n qr_z04
  (fun y3 y4 y5 y6 y7 y8 => some (encRes ro_z04 rh_z04 ((y3, ()), (((), ()), (y4, (((), ()), (((), ((), ((), (y5, ())))), (y6, (y7, (y8, (((), ()), ())))))))))))
  (fun y9 y10 y11 y12 y13 => some (encRes ro_z04 rh_z04 ((false, ()), (((), ()), ((fun i => cond (Ty.keq ObjT i a0) (some (2 : Int)) (y9 i)), (((), ()), (((), ((), ((), (y10, ())))), (y11, (y12, (y13, (((), ()), ())))))))))))
  y1.1.1
  ((y1.1.1 : Nat) : Int)
  y1.2.2.2.2.2.1
  n
  (0 : Int)
  (fun i => cond (Ty.keq ObjT i a0) (some (1 : Int)) (a1 i))
  y1.2.1.2.2.2.1
  y1.2.2.1
  y1.2.2.2.1
  y1.2.2.2.2.1)
 (none))
noncomputable def Qd_z04 : Nat → ObjS → (ObjS → Option (Int)) → (List ObjS) → (Int → Option ((List Int))) → (Int → Option ((List InstrS))) → (Int → Option (GroupS)) → Option (RS ro_z04 rh_z04)
  | 0, _, _, _, _, _, _ => none
  | dp + 1, a0, a1, a2, a3, a4, a5 => decRes ro_z04 rh_z04 (M_z04 FUEL (Qd_z04 dp) a0 a1 a2 a3 a4 a5)
noncomputable def Q_z04 (a0 : ObjS) (a1 : (ObjS → Option (Int))) (a2 : (List ObjS)) (a3 : (Int → Option ((List Int)))) (a4 : (Int → Option ((List InstrS)))) (a5 : (Int → Option (GroupS))) : Option (RS ro_z04 rh_z04) := Qd_z04 FUEL a0 a1 a2 a3 a4 a5
noncomputable def ok_z04 (a0 : ObjS) (a1 : (ObjS → Option (Int))) (a2 : (List ObjS)) (a3 : (Int → Option ((List Int)))) (a4 : (Int → Option ((List InstrS)))) (a5 : (Int → Option (GroupS))) : Bool := (Q_z04 a0 a1 a2 a3 a4 a5).isSome
noncomputable def q_z04 (a0 : ObjS) (a1 : (ObjS → Option (Int))) (a2 : (List ObjS)) (a3 : (Int → Option ((List Int)))) (a4 : (Int → Option ((List InstrS)))) (a5 : (Int → Option (GroupS))) : RS ro_z04 rh_z04 := RS.get (Q_z04 a0 a1 a2 a3 a4 a5)
/-! z05: bound_solver_cycle -/
abbrev ro_z05 : List EK := [.ty .bool]
abbrev rh_z05 : List HK := [.one false [.mp 1, .mp 2, .mp 3, .ty (.slice ObjT)], .mf (.int .i64) (.slice (.int .i64)), .mf (.int .i64) (.slice InstrT), .mf (.int .i64) GroupT]
noncomputable def F_z05_0 (n : Nat) (k_r : Bool → (List ObjS) → (Int → Option ((List Int))) → (Int → Option ((List InstrS))) → (Int → Option (GroupS)) → Option Res) (k_t0 : (List ObjS) → (Int → Option ((List Int))) → (Int → Option ((List InstrS))) → (Int → Option (GroupS)) → Option Res) (x0_0 : (List ObjS)) (x0_1 : Int) (rec : Int → (List ObjS) → (Int → Option ((List Int))) → (Int → Option ((List InstrS))) → (Int → Option (GroupS)) → (ObjS → Option (Int)) → Option Res) (x0_2 : Int) (x0_3 : (List ObjS)) (x0_4 : (Int → Option ((List Int)))) (x0_5 : (Int → Option ((List InstrS)))) (x0_6 : (Int → Option (GroupS))) (x0_7 : (ObjS → Option (Int))) : Option Res :=
 cond (decide (x0_2 < x0_1))
 (cond (decide ((0 : Int) ≤ x0_2 ∧ x0_2 < (((List.length x0_0) : Nat) : Int)))
 (let y1 : ((Bool × Unit) × ((Unit × Unit) × ((ObjS → Option (Int)) × ((Unit × Unit) × ((Unit × (Unit × (Unit × ((List ObjS) × Unit)))) × ((Int → Option ((List Int))) × ((Int → Option ((List InstrS))) × ((Int → Option (GroupS)) × ((Unit × Unit) × Unit))))))))) := (q_z04 (rdd zObjS x0_0 (Int.toNat x0_2)) x0_7 x0_3 x0_4 x0_5 x0_6)
 cond (ok_z04 (rdd zObjS x0_0 (Int.toNat x0_2)) x0_7 x0_3 x0_4 x0_5 x0_6)
 (cond y1.1.1
 (k_r true y1.2.2.2.2.1.2.2.2.1 y1.2.2.2.2.2.1 y1.2.2.2.2.2.2.1 y1.2.2.2.2.2.2.2.1)
 (rec (IntKind.wrap .i64 (x0_2 + (1 : Int))) y1.2.2.2.2.1.2.2.2.1 y1.2.2.2.2.2.1 y1.2.2.2.2.2.2.1 y1.2.2.2.2.2.2.2.1 y1.2.2.1))
 (none))
 (none))
 (k_t0 x0_3 x0_4 x0_5 x0_6)
noncomputable def L_z05_0 (n : Nat) (k_r : Bool → (List ObjS) → (Int → Option ((List Int))) → (Int → Option ((List InstrS))) → (Int → Option (GroupS)) → Option Res) (k_t0 : (List ObjS) → (Int → Option ((List Int))) → (Int → Option ((List InstrS))) → (Int → Option (GroupS)) → Option Res) (x0_0 : (List ObjS)) (x0_1 : Int) : Nat → Int → (List ObjS) → (Int → Option ((List Int))) → (Int → Option ((List InstrS))) → (Int → Option (GroupS)) → (ObjS → Option (Int)) → Option Res
  | 0, _, _, _, _, _, _ => none
  | m + 1, x0_2, x0_3, x0_4, x0_5, x0_6, x0_7 => F_z05_0 n k_r k_t0 x0_0 x0_1 (L_z05_0 n k_r k_t0 x0_0 x0_1 m) x0_2 x0_3 x0_4 x0_5 x0_6 x0_7
noncomputable def M_z05 (n : Nat) (a0 : (List ObjS)) (a1 : (Int → Option ((List Int)))) (a2 : (Int → Option ((List InstrS)))) (a3 : (Int → Option (GroupS))) : Option Res :=
 L_z05_0 n
  (fun y2 y3 y4 y5 y6 => some (encRes ro_z05 rh_z05 ((y2, ()), (((), ((), ((), (y3, ())))), (y4, (y5, (y6, ())))))))
  (fun y7 y8 y9 y10 => some (encRes ro_z05 rh_z05 ((false, ()), (((), ((), ((), (y7, ())))), (y8, (y9, (y10, ())))))))
  a0
  (((List.length a0) : Nat) : Int)
  n
  (0 : Int)
  a0
  a1
  a2
  a3
  (fun _ => none)
noncomputable def Q_z05 (a0 : (List ObjS)) (a1 : (Int → Option ((List Int)))) (a2 : (Int → Option ((List InstrS)))) (a3 : (Int → Option (GroupS))) : Option (RS ro_z05 rh_z05) := decRes ro_z05 rh_z05 (M_z05 FUEL a0 a1 a2 a3)
noncomputable def ok_z05 (a0 : (List ObjS)) (a1 : (Int → Option ((List Int)))) (a2 : (Int → Option ((List InstrS)))) (a3 : (Int → Option (GroupS))) : Bool := (Q_z05 a0 a1 a2 a3).isSome
noncomputable def q_z05 (a0 : (List ObjS)) (a1 : (Int → Option ((List Int)))) (a2 : (Int → Option ((List InstrS)))) (a3 : (Int → Option (GroupS))) : RS ro_z05 rh_z05 := RS.get (Q_z05 a0 a1 a2 a3)
abbrev ro_z07 : List EK := [.ty (.int .i64)]
abbrev rh_z07 : List HK := [.one false [.mp 1], .mf ObjT (.int .i64), .one false [.ptr 3 0 0], .one false [.mp 4, .mp 5, .mp 6, .ty (.slice ObjT)], .mf (.int .i64) (.slice (.int .i64)), .mf (.int .i64) (.slice InstrT), .mf (.int .i64) GroupT, .one false [.fn 57 [(0, 0, 0), (2, 0, 0), (7, 0, 0), (8, 0, 0)]], .one false [.fn 56 [(7, 0, 0)]]]
/-! z06: bound_solver_most_1 -/
abbrev ro_z06 : List EK := [.ty (.int .i64)]
abbrev rh_z06 : List HK := [.one false [.fn 57 [(1, 0, 0), (3, 0, 0), (0, 0, 0), (8, 0, 0)]], .one false [.mp 2], .mf ObjT (.int .i64), .one false [.ptr 4 0 0], .one false [.mp 5, .mp 6, .mp 7, .ty (.slice ObjT)], .mf (.int .i64) (.slice (.int .i64)), .mf (.int .i64) (.slice InstrT), .mf (.int .i64) GroupT, .one false [.fn 56 [(0, 0, 0)]]]
noncomputable def F_z06_0 (n : Nat) (qr_z07 : ObjS → (ObjS → Option (Int)) → (List ObjS) → (Int → Option ((List Int))) → (Int → Option ((List InstrS))) → (Int → Option (GroupS)) → Option (RS ro_z07 rh_z07)) (k_t0 : (ObjS → Option (Int)) → (List ObjS) → (Int → Option ((List Int))) → (Int → Option ((List InstrS))) → (Int → Option (GroupS)) → (List Int) → Option Res) (x0_0 : (List InstrS)) (x0_1 : Nat) (rec : Int → (ObjS → Option (Int)) → (List ObjS) → (Int → Option ((List Int))) → (Int → Option ((List InstrS))) → (Int → Option (GroupS)) → (List Int) → Option Res) (x0_2 : Int) (x0_3 : (ObjS → Option (Int))) (x0_4 : (List ObjS)) (x0_5 : (Int → Option ((List Int)))) (x0_6 : (Int → Option ((List InstrS)))) (x0_7 : (Int → Option (GroupS))) (x0_8 : (List Int)) : Option Res :=
 cond (decide (x0_2 ≥ (0 : Int)))
 (cond (decide ((0 : Int) ≤ (IntKind.wrap .i64 (x0_2 + (1 : Int))) ∧ (IntKind.wrap .i64 (x0_2 + (1 : Int))) < ((x0_1 : Nat) : Int)))
 (cond (decide ((0 : Int) ≤ x0_2 ∧ x0_2 < (((List.length x0_0) : Nat) : Int)))
 (cond ((rdd zInstrS x0_0 (Int.toNat x0_2)).1 == (23 : Int))
 (let y1 : Int := (if (IntKind.wrap .i64 ((1 : Int) + (0 : Int))) < (65537 : Int) then (IntKind.wrap .i64 ((1 : Int) + (0 : Int))) else (65537 : Int))
 cond (decide ((0 : Int) ≤ x0_2 ∧ x0_2 < ((x0_1 : Nat) : Int)))
 (rec (IntKind.wrap .i64 (x0_2 - (1 : Int))) x0_3 x0_4 x0_5 x0_6 x0_7 (List.set x0_8 (Int.toNat x0_2) y1))
 (none))
 (cond ((rdd zInstrS x0_0 (Int.toNat x0_2)).1 == (22 : Int))
 (let y2 : Int := (if (IntKind.wrap .i64 ((1 : Int) + (0 : Int))) < (65537 : Int) then (IntKind.wrap .i64 ((1 : Int) + (0 : Int))) else (65537 : Int))
 cond (decide ((0 : Int) ≤ x0_2 ∧ x0_2 < ((x0_1 : Nat) : Int)))
 (rec (IntKind.wrap .i64 (x0_2 - (1 : Int))) x0_3 x0_4 x0_5 x0_6 x0_7 (List.set x0_8 (Int.toNat x0_2) y2))
 (none))
 (cond ((rdd zInstrS x0_0 (Int.toNat x0_2)).1 == (13 : Int))
 (cond (decide ((0 : Int) ≤ x0_2 ∧ x0_2 < (((List.length x0_0) : Nat) : Int)))
 (let y3 : ((Int × Unit) × ((Unit × Unit) × ((ObjS → Option (Int)) × ((Unit × Unit) × ((Unit × (Unit × (Unit × ((List ObjS) × Unit)))) × ((Int → Option ((List Int))) × ((Int → Option ((List InstrS))) × ((Int → Option (GroupS)) × ((Unit × Unit) × ((Unit × Unit) × Unit)))))))))) := (RS.get (qr_z07 ((0 : Int), (rdd zInstrS x0_0 (Int.toNat x0_2)).2.2.2.2) x0_3 x0_4 x0_5 x0_6 x0_7))
 cond (Option.isSome (qr_z07 ((0 : Int), (rdd zInstrS x0_0 (Int.toNat x0_2)).2.2.2.2) x0_3 x0_4 x0_5 x0_6 x0_7))
 (let y4 : Int := (if (IntKind.wrap .i64 ((1 : Int) + y3.1.1)) < (65537 : Int) then (IntKind.wrap .i64 ((1 : Int) + y3.1.1)) else (65537 : Int))
 cond (decide ((0 : Int) ≤ x0_2 ∧ x0_2 < ((x0_1 : Nat) : Int)))
 (rec (IntKind.wrap .i64 (x0_2 - (1 : Int))) y3.2.2.1 y3.2.2.2.2.1.2.2.2.1 y3.2.2.2.2.2.1 y3.2.2.2.2.2.2.1 y3.2.2.2.2.2.2.2.1 (List.set x0_8 (Int.toNat x0_2) y4))
 (none))
 (none))
 (none))
 (cond ((rdd zInstrS x0_0 (Int.toNat x0_2)).1 == (14 : Int))
 (cond (decide ((0 : Int) ≤ x0_2 ∧ x0_2 < (((List.length x0_0) : Nat) : Int)))
 (let y5 : ((Int × Unit) × ((Unit × Unit) × ((ObjS → Option (Int)) × ((Unit × Unit) × ((Unit × (Unit × (Unit × ((List ObjS) × Unit)))) × ((Int → Option ((List Int))) × ((Int → Option ((List InstrS))) × ((Int → Option (GroupS)) × ((Unit × Unit) × ((Unit × Unit) × Unit)))))))))) := (RS.get (qr_z07 ((2 : Int), (rdd zInstrS x0_0 (Int.toNat x0_2)).2.2.2.2) x0_3 x0_4 x0_5 x0_6 x0_7))
 cond (Option.isSome (qr_z07 ((2 : Int), (rdd zInstrS x0_0 (Int.toNat x0_2)).2.2.2.2) x0_3 x0_4 x0_5 x0_6 x0_7))
 (let y6 : Int := (if (IntKind.wrap .i64 ((1 : Int) + y5.1.1)) < (65537 : Int) then (IntKind.wrap .i64 ((1 : Int) + y5.1.1)) else (65537 : Int))
 cond (decide ((0 : Int) ≤ x0_2 ∧ x0_2 < ((x0_1 : Nat) : Int)))
 (rec (IntKind.wrap .i64 (x0_2 - (1 : Int))) y5.2.2.1 y5.2.2.2.2.1.2.2.2.1 y5.2.2.2.2.2.1 y5.2.2.2.2.2.2.1 y5.2.2.2.2.2.2.2.1 (List.set x0_8 (Int.toNat x0_2) y6))
 (none))
 (none))
 (none))
 (cond ((rdd zInstrS x0_0 (Int.toNat x0_2)).1 == (12 : Int))
 (cond (decide ((0 : Int) ≤ x0_2 ∧ x0_2 < (((List.length x0_0) : Nat) : Int)))
 (cond (decide ((rdd zInstrS x0_0 (Int.toNat x0_2)).2.2.2.2.1 ≥ (0 : Int)))
 (let y7 : Int := (IntKind.wrap .i64 ((IntKind.wrap .i64 ((((List.length x0_0) : Nat) : Int) - (1 : Int))) - x0_2))
 cond (decide ((rdd zInstrS x0_0 (Int.toNat x0_2)).2.2.2.2.1 < y7))
 (let y8 : Int := (IntKind.wrap .i64 ((IntKind.wrap .i64 (x0_2 + (1 : Int))) + (rdd zInstrS x0_0 (Int.toNat x0_2)).2.2.2.2.1))
 cond (decide ((0 : Int) ≤ y8 ∧ y8 < ((x0_1 : Nat) : Int)))
 (let y9 : Int := (if (rdd (0 : Int) x0_8 (Int.toNat y8)) > (rdd (0 : Int) x0_8 (Int.toNat (IntKind.wrap .i64 (x0_2 + (1 : Int))))) then (rdd (0 : Int) x0_8 (Int.toNat y8)) else (rdd (0 : Int) x0_8 (Int.toNat (IntKind.wrap .i64 (x0_2 + (1 : Int))))))
 let y10 : Int := (if (IntKind.wrap .i64 ((1 : Int) + y9)) < (65537 : Int) then (IntKind.wrap .i64 ((1 : Int) + y9)) else (65537 : Int))
 cond (decide ((0 : Int) ≤ x0_2 ∧ x0_2 < ((x0_1 : Nat) : Int)))
 (rec (IntKind.wrap .i64 (x0_2 - (1 : Int))) x0_3 x0_4 x0_5 x0_6 x0_7 (List.set x0_8 (Int.toNat x0_2) y10))
 (none))
 (none))
 (let y11 : Int := (IntKind.wrap .i64 ((1 : Int) + (rdd (0 : Int) x0_8 (Int.toNat (IntKind.wrap .i64 (x0_2 + (1 : Int)))))))
 cond (decide ((0 : Int) ≤ x0_2 ∧ x0_2 < ((x0_1 : Nat) : Int)))
 (rec (IntKind.wrap .i64 (x0_2 - (1 : Int))) x0_3 x0_4 x0_5 x0_6 x0_7 (List.set x0_8 (Int.toNat x0_2) (if y11 < (65537 : Int) then y11 else (65537 : Int))))
 (none)))
 (let y12 : Int := (IntKind.wrap .i64 ((1 : Int) + (rdd (0 : Int) x0_8 (Int.toNat (IntKind.wrap .i64 (x0_2 + (1 : Int)))))))
 cond (decide ((0 : Int) ≤ x0_2 ∧ x0_2 < ((x0_1 : Nat) : Int)))
 (rec (IntKind.wrap .i64 (x0_2 - (1 : Int))) x0_3 x0_4 x0_5 x0_6 x0_7 (List.set x0_8 (Int.toNat x0_2) (if y12 < (65537 : Int) then y12 else (65537 : Int))))
 (none)))
 (none))
 (let y13 : Int := (IntKind.wrap .i64 ((1 : Int) + (rdd (0 : Int) x0_8 (Int.toNat (IntKind.wrap .i64 (x0_2 + (1 : Int)))))))
 cond (decide ((0 : Int) ≤ x0_2 ∧ x0_2 < ((x0_1 : Nat) : Int)))
 (rec (IntKind.wrap .i64 (x0_2 - (1 : Int))) x0_3 x0_4 x0_5 x0_6 x0_7 (List.set x0_8 (Int.toNat x0_2) (if y13 < (65537 : Int) then y13 else (65537 : Int))))
 (none)))))))
 (none))
 (none))
 (k_t0 x0_3 x0_4 x0_5 x0_6 x0_7 x0_8)
noncomputable def L_z06_0 (n : Nat) (qr_z07 : ObjS → (ObjS → Option (Int)) → (List ObjS) → (Int → Option ((List Int))) → (Int → Option ((List InstrS))) → (Int → Option (GroupS)) → Option (RS ro_z07 rh_z07)) (k_t0 : (ObjS → Option (Int)) → (List ObjS) → (Int → Option ((List Int))) → (Int → Option ((List InstrS))) → (Int → Option (GroupS)) → (List Int) → Option Res) (x0_0 : (List InstrS)) (x0_1 : Nat) : Nat → Int → (ObjS → Option (Int)) → (List ObjS) → (Int → Option ((List Int))) → (Int → Option ((List InstrS))) → (Int → Option (GroupS)) → (List Int) → Option Res
  | 0, _, _, _, _, _, _, _ => none
  | m + 1, x0_2, x0_3, x0_4, x0_5, x0_6, x0_7, x0_8 => F_z06_0 n qr_z07 k_t0 x0_0 x0_1 (L_z06_0 n qr_z07 k_t0 x0_0 x0_1 m) x0_2 x0_3 x0_4 x0_5 x0_6 x0_7 x0_8
noncomputable def M_z06 (n : Nat) (qr_z07 : ObjS → (ObjS → Option (Int)) → (List ObjS) → (Int → Option ((List Int))) → (Int → Option ((List InstrS))) → (Int → Option (GroupS)) → Option (RS ro_z07 rh_z07)) (a0 : (List InstrS)) (a1 : (ObjS → Option (Int))) (a2 : (List ObjS)) (a3 : (Int → Option ((List Int)))) (a4 : (Int → Option ((List InstrS)))) (a5 : (Int → Option (GroupS))) : Option Res :=
 cond (decide ((0 : Int) ≤ (IntKind.wrap .i64 ((((List.length a0) : Nat) : Int) + (1 : Int))) ∧ (IntKind.wrap .i64 ((((List.length a0) : Nat) : Int) + (1 : Int))) ≤ (IntKind.wrap .i64 ((((List.length a0) : Nat) : Int) + (1 : Int))) ∧ (8 : Nat) * (IntKind.wrap .i64 ((((List.length a0) : Nat) : Int) + (1 : Int))) ≤ (2 : Int) ^ 46))
 (L_z06_0 n qr_z07
  (fun y14 y15 y16 y17 y18 y19 => cond (decide ((0 : Int) ≤ (0 : Int) ∧ (0 : Int) < (((Int.toNat (IntKind.wrap .i64 ((((List.length a0) : Nat) : Int) + (1 : Int)))) : Nat) : Int)))
 (some (encRes ro_z06 rh_z06 (((rdd (0 : Int) y19 0), ()), (((), ()), (((), ()), (y14, (((), ()), (((), ((), ((), (y15, ())))), (y16, (y17, (y18, (((), ()), ()))))))))))))
 (none))
  a0
  (Int.toNat (IntKind.wrap .i64 ((((List.length a0) : Nat) : Int) + (1 : Int))))
  n
  (IntKind.wrap .i64 ((((List.length a0) : Nat) : Int) - (1 : Int)))
  a1
  a2
  a3
  a4
  a5
  (List.replicate (Int.toNat (IntKind.wrap .i64 ((((List.length a0) : Nat) : Int) + (1 : Int)))) (0 : Int)))
 (none)
noncomputable def Q_z06 (qr_z07 : ObjS → (ObjS → Option (Int)) → (List ObjS) → (Int → Option ((List Int))) → (Int → Option ((List InstrS))) → (Int → Option (GroupS)) → Option (RS ro_z07 rh_z07)) (a0 : (List InstrS)) (a1 : (ObjS → Option (Int))) (a2 : (List ObjS)) (a3 : (Int → Option ((List Int)))) (a4 : (Int → Option ((List InstrS)))) (a5 : (Int → Option (GroupS))) : Option (RS ro_z06 rh_z06) := decRes ro_z06 rh_z06 (M_z06 FUEL qr_z07 a0 a1 a2 a3 a4 a5)
noncomputable def ok_z06 (qr_z07 : ObjS → (ObjS → Option (Int)) → (List ObjS) → (Int → Option ((List Int))) → (Int → Option ((List InstrS))) → (Int → Option (GroupS)) → Option (RS ro_z07 rh_z07)) (a0 : (List InstrS)) (a1 : (ObjS → Option (Int))) (a2 : (List ObjS)) (a3 : (Int → Option ((List Int)))) (a4 : (Int → Option ((List InstrS)))) (a5 : (Int → Option (GroupS))) : Bool := (Q_z06 qr_z07 a0 a1 a2 a3 a4 a5).isSome
noncomputable def q_z06 (qr_z07 : ObjS → (ObjS → Option (Int)) → (List ObjS) → (Int → Option ((List Int))) → (Int → Option ((List InstrS))) → (Int → Option (GroupS)) → Option (RS ro_z07 rh_z07)) (a0 : (List InstrS)) (a1 : (ObjS → Option (Int))) (a2 : (List ObjS)) (a3 : (Int → Option ((List Int)))) (a4 : (Int → Option ((List InstrS)))) (a5 : (Int → Option (GroupS))) : RS ro_z06 rh_z06 := RS.get (Q_z06 qr_z07 a0 a1 a2 a3 a4 a5)
/-! z07: bound_solver_most_2 -/
noncomputable def F_z07_3 (n : Nat) (qr_z07 : ObjS → (ObjS → Option (Int)) → (List ObjS) → (Int → Option ((List Int))) → (Int → Option ((List InstrS))) → (Int → Option (GroupS)) → Option (RS ro_z07 rh_z07)) (k_t3 : Int → (ObjS → Option (Int)) → (List ObjS) → (Int → Option ((List Int))) → (Int → Option ((List InstrS))) → (Int → Option (GroupS)) → Option Res) (x3_2 : (List Int)) (x3_3 : Int) (rec : Int → Int → (ObjS → Option (Int)) → (List ObjS) → (Int → Option ((List Int))) → (Int → Option ((List InstrS))) → (Int → Option (GroupS)) → Option Res) (x3_0 : Int) (x3_4 : Int) (x3_5 : (ObjS → Option (Int))) (x3_6 : (List ObjS)) (x3_7 : (Int → Option ((List Int)))) (x3_8 : (Int → Option ((List InstrS)))) (x3_9 : (Int → Option (GroupS))) : Option Res :=
 cond (decide (x3_4 < x3_3))
 (cond (decide ((0 : Int) ≤ x3_4 ∧ x3_4 < (((List.length x3_2) : Nat) : Int)))
 (let y1 : ((Int × Unit) × ((Unit × Unit) × ((ObjS → Option (Int)) × ((Unit × Unit) × ((Unit × (Unit × (Unit × ((List ObjS) × Unit)))) × ((Int → Option ((List Int))) × ((Int → Option ((List InstrS))) × ((Int → Option (GroupS)) × ((Unit × Unit) × ((Unit × Unit) × Unit)))))))))) := (RS.get (qr_z07 ((1 : Int), ((rdd (0 : Int) x3_2 (Int.toNat x3_4)), ())) x3_5 x3_6 x3_7 x3_8 x3_9))
 cond (Option.isSome (qr_z07 ((1 : Int), ((rdd (0 : Int) x3_2 (Int.toNat x3_4)), ())) x3_5 x3_6 x3_7 x3_8 x3_9))
 (rec (if y1.1.1 > x3_0 then y1.1.1 else x3_0) (IntKind.wrap .i64 (x3_4 + (1 : Int))) y1.2.2.1 y1.2.2.2.2.1.2.2.2.1 y1.2.2.2.2.2.1 y1.2.2.2.2.2.2.1 y1.2.2.2.2.2.2.2.1)
 (none))
 (none))
 (k_t3 x3_0 x3_5 x3_6 x3_7 x3_8 x3_9)
noncomputable def L_z07_3 (n : Nat) (qr_z07 : ObjS → (ObjS → Option (Int)) → (List ObjS) → (Int → Option ((List Int))) → (Int → Option ((List InstrS))) → (Int → Option (GroupS)) → Option (RS ro_z07 rh_z07)) (k_t3 : Int → (ObjS → Option (Int)) → (List ObjS) → (Int → Option ((List Int))) → (Int → Option ((List InstrS))) → (Int → Option (GroupS)) → Option Res) (x3_2 : (List Int)) (x3_3 : Int) : Nat → Int → Int → (ObjS → Option (Int)) → (List ObjS) → (Int → Option ((List Int))) → (Int → Option ((List InstrS))) → (Int → Option (GroupS)) → Option Res
  | 0, _, _, _, _, _, _, _ => none
  | m + 1, x3_0, x3_4, x3_5, x3_6, x3_7, x3_8, x3_9 => F_z07_3 n qr_z07 k_t3 x3_2 x3_3 (L_z07_3 n qr_z07 k_t3 x3_2 x3_3 m) x3_0 x3_4 x3_5 x3_6 x3_7 x3_8 x3_9
noncomputable def F_z07_1 (n : Nat) (qr_z07 : ObjS → (ObjS → Option (Int)) → (List ObjS) → (Int → Option ((List Int))) → (Int → Option ((List InstrS))) → (Int → Option (GroupS)) → Option (RS ro_z07 rh_z07)) (k_t1 : Int → (ObjS → Option (Int)) → (List ObjS) → (Int → Option ((List Int))) → (Int → Option ((List InstrS))) → (Int → Option (GroupS)) → Option Res) (x1_1 : (List BucketS)) (x1_2 : Int) (x1_10 : GroupS) (rec : Int → Int → (ObjS → Option (Int)) → (List ObjS) → (Int → Option ((List Int))) → (Int → Option ((List InstrS))) → (Int → Option (GroupS)) → Option Res) (x1_0 : Int) (x1_3 : Int) (x1_4 : (ObjS → Option (Int))) (x1_5 : (List ObjS)) (x1_6 : (Int → Option ((List Int)))) (x1_7 : (Int → Option ((List InstrS)))) (x1_8 : (Int → Option (GroupS))) : Option Res :=
 cond (decide (x1_3 < x1_2))
 (cond (decide ((0 : Int) ≤ x1_3 ∧ x1_3 < (((List.length x1_1) : Nat) : Int)))
 (let y12 : ((Int × Unit) × ((Unit × Unit) × ((ObjS → Option (Int)) × ((Unit × Unit) × ((Unit × (Unit × (Unit × ((List ObjS) × Unit)))) × ((Int → Option ((List Int))) × ((Int → Option ((List InstrS))) × ((Int → Option (GroupS)) × ((Unit × Unit) × ((Unit × Unit) × Unit)))))))))) := (RS.get (qr_z07 ((1 : Int), (rdd zBucketS x1_1 (Int.toNat x1_3)).2) x1_4 x1_5 x1_6 x1_7 x1_8))
 cond (Option.isSome (qr_z07 ((1 : Int), (rdd zBucketS x1_1 (Int.toNat x1_3)).2) x1_4 x1_5 x1_6 x1_7 x1_8))
 (cond (x1_10.2.1 == (1 : Int))
 (let y13 : Int := (if (IntKind.wrap .i64 (x1_0 + y12.1.1)) < (65537 : Int) then (IntKind.wrap .i64 (x1_0 + y12.1.1)) else (65537 : Int))
 rec y13 (IntKind.wrap .i64 (x1_3 + (1 : Int))) y12.2.2.1 y12.2.2.2.2.1.2.2.2.1 y12.2.2.2.2.2.1 y12.2.2.2.2.2.2.1 y12.2.2.2.2.2.2.2.1)
 (rec (if y12.1.1 > x1_0 then y12.1.1 else x1_0) (IntKind.wrap .i64 (x1_3 + (1 : Int))) y12.2.2.1 y12.2.2.2.2.1.2.2.2.1 y12.2.2.2.2.2.1 y12.2.2.2.2.2.2.1 y12.2.2.2.2.2.2.2.1))
 (none))
 (none))
 (k_t1 x1_0 x1_4 x1_5 x1_6 x1_7 x1_8)
noncomputable def L_z07_1 (n : Nat) (qr_z07 : ObjS → (ObjS → Option (Int)) → (List ObjS) → (Int → Option ((List Int))) → (Int → Option ((List InstrS))) → (Int → Option (GroupS)) → Option (RS ro_z07 rh_z07)) (k_t1 : Int → (ObjS → Option (Int)) → (List ObjS) → (Int → Option ((List Int))) → (Int → Option ((List InstrS))) → (Int → Option (GroupS)) → Option Res) (x1_1 : (List BucketS)) (x1_2 : Int) (x1_10 : GroupS) : Nat → Int → Int → (ObjS → Option (Int)) → (List ObjS) → (Int → Option ((List Int))) → (Int → Option ((List InstrS))) → (Int → Option (GroupS)) → Option Res
  | 0, _, _, _, _, _, _, _ => none
  | m + 1, x1_0, x1_3, x1_4, x1_5, x1_6, x1_7, x1_8 => F_z07_1 n qr_z07 k_t1 x1_1 x1_2 x1_10 (L_z07_1 n qr_z07 k_t1 x1_1 x1_2 x1_10 m) x1_0 x1_3 x1_4 x1_5 x1_6 x1_7 x1_8
noncomputable def M_z07 (n : Nat) (qr_z07 : ObjS → (ObjS → Option (Int)) → (List ObjS) → (Int → Option ((List Int))) → (Int → Option ((List InstrS))) → (Int → Option (GroupS)) → Option (RS ro_z07 rh_z07)) (a0 : ObjS) (a1 : (ObjS → Option (Int))) (a2 : (List ObjS)) (a3 : (Int → Option ((List Int)))) (a4 : (Int → Option ((List InstrS)))) (a5 : (Int → Option (GroupS))) : Option Res :=
 cond (Option.isSome (a1 a0))
 (some (encRes ro_z07 rh_z07 (((Option.getD (a1 a0) (0 : Int)), ()), (((), ()), (a1, (((), ()), (((), ((), ((), (a2, ())))), (a3, (a4, (a5, (((), ()), (((), ()), ()))))))))))))
 (cond (a0.1 == (0 : Int))
 (L_z07_3 n qr_z07
  (fun y2 y3 y4 y5 y6 y7 => cond (Option.isSome (a3 a0.2.1))
 (let y8 : Int := (if (IntKind.wrap .i64 (y2 + (1 : Int))) < (65537 : Int) then (IntKind.wrap .i64 (y2 + (1 : Int))) else (65537 : Int))
 some (encRes ro_z07 rh_z07 (((Option.getD ((fun i => cond (Ty.keq ObjT i a0) (some y8) (y3 i)) a0) (0 : Int)), ()), (((), ()), ((fun i => cond (Ty.keq ObjT i a0) (some y8) (y3 i)), (((), ()), (((), ((), ((), (y4, ())))), (y5, (y6, (y7, (((), ()), (((), ()), ()))))))))))))
 (let y9 : Int := (Option.getD ((fun i => cond (Ty.keq ObjT i a0) (some (if y2 < (65537 : Int) then y2 else (65537 : Int))) (y3 i)) a0) (0 : Int))
 some (encRes ro_z07 rh_z07 ((y9, ()), (((), ()), ((fun i => cond (Ty.keq ObjT i a0) (some (if y2 < (65537 : Int) then y2 else (65537 : Int))) (y3 i)), (((), ()), (((), ((), ((), (y4, ())))), (y5, (y6, (y7, (((), ()), (((), ()), ())))))))))))))
  (Option.getD (a3 a0.2.1) [])
  (((List.length (Option.getD (a3 a0.2.1) [])) : Nat) : Int)
  n
  (0 : Int)
  (0 : Int)
  a1
  a2
  a3
  a4
  a5)
 (cond (a0.1 == (1 : Int))
 (let y10 : ((Int × Unit) × ((Unit × Unit) × ((Unit × Unit) × ((ObjS → Option (Int)) × ((Unit × Unit) × ((Unit × (Unit × (Unit × ((List ObjS) × Unit)))) × ((Int → Option ((List Int))) × ((Int → Option ((List InstrS))) × ((Int → Option (GroupS)) × ((Unit × Unit) × Unit)))))))))) := (q_z06 qr_z07 (Option.getD (a4 a0.2.1) []) a1 a2 a3 a4 a5)
 cond (ok_z06 qr_z07 (Option.getD (a4 a0.2.1) []) a1 a2 a3 a4 a5)
 (let y11 : Int := (Option.getD ((fun i => cond (Ty.keq ObjT i a0) (some (if y10.1.1 < (65537 : Int) then y10.1.1 else (65537 : Int))) (y10.2.2.2.1 i)) a0) (0 : Int))
 some (encRes ro_z07 rh_z07 ((y11, ()), (((), ()), ((fun i => cond (Ty.keq ObjT i a0) (some (if y10.1.1 < (65537 : Int) then y10.1.1 else (65537 : Int))) (y10.2.2.2.1 i)), (((), ()), (((), ((), ((), (y10.2.2.2.2.2.1.2.2.2.1, ())))), (y10.2.2.2.2.2.2.1, (y10.2.2.2.2.2.2.2.1, (y10.2.2.2.2.2.2.2.2.1, (((), ()), (((), ()), ()))))))))))))
 (none))
 (L_z07_1 n qr_z07
  (fun y14 y15 y16 y17 y18 y19 => let y20 : Int := (Option.getD ((fun i => cond (Ty.keq ObjT i a0) (some (if y14 < (65537 : Int) then y14 else (65537 : Int))) (y15 i)) a0) (0 : Int))
 some (encRes ro_z07 rh_z07 ((y20, ()), (((), ()), ((fun i => cond (Ty.keq ObjT i a0) (some (if y14 < (65537 : Int) then y14 else (65537 : Int))) (y15 i)), (((), ()), (((), ((), ((), (y16, ())))), (y17, (y18, (y19, (((), ()), (((), ()), ()))))))))))))
  ((Option.getD (a5 a0.2.1) zGroupS).2.2.2.1)
  (((List.length (Option.getD (a5 a0.2.1) zGroupS).2.2.2.1) : Nat) : Int)
  (Option.getD (a5 a0.2.1) zGroupS)
  n
  (0 : Int)
  (0 : Int)
  a1
  a2
  a3
  a4
  a5)))
noncomputable def Qd_z07 : Nat → ObjS → (ObjS → Option (Int)) → (List ObjS) → (Int → Option ((List Int))) → (Int → Option ((List InstrS))) → (Int → Option (GroupS)) → Option (RS ro_z07 rh_z07)
  | 0, _, _, _, _, _, _ => none
  | dp + 1, a0, a1, a2, a3, a4, a5 => decRes ro_z07 rh_z07 (M_z07 FUEL (Qd_z07 dp) a0 a1 a2 a3 a4 a5)
noncomputable def Q_z07 (a0 : ObjS) (a1 : (ObjS → Option (Int))) (a2 : (List ObjS)) (a3 : (Int → Option ((List Int)))) (a4 : (Int → Option ((List InstrS)))) (a5 : (Int → Option (GroupS))) : Option (RS ro_z07 rh_z07) := Qd_z07 FUEL a0 a1 a2 a3 a4 a5
noncomputable def ok_z07 (a0 : ObjS) (a1 : (ObjS → Option (Int))) (a2 : (List ObjS)) (a3 : (Int → Option ((List Int)))) (a4 : (Int → Option ((List InstrS)))) (a5 : (Int → Option (GroupS))) : Bool := (Q_z07 a0 a1 a2 a3 a4 a5).isSome
noncomputable def q_z07 (a0 : ObjS) (a1 : (ObjS → Option (Int))) (a2 : (List ObjS)) (a3 : (Int → Option ((List Int)))) (a4 : (Int → Option ((List InstrS)))) (a5 : (Int → Option (GroupS))) : RS ro_z07 rh_z07 := RS.get (Q_z07 a0 a1 a2 a3 a4 a5)
/-! z08: bound_solver_most -/
abbrev ro_z08 : List EK := [.ty (.int .i64)]
abbrev rh_z08 : List HK := [.one false [.mp 1, .mp 2, .mp 3, .ty (.slice ObjT)], .mf (.int .i64) (.slice (.int .i64)), .mf (.int .i64) (.slice InstrT), .mf (.int .i64) GroupT]
noncomputable def M_z08 (n : Nat) (a0 : ObjS) (a1 : (List ObjS)) (a2 : (Int → Option ((List Int)))) (a3 : (Int → Option ((List InstrS)))) (a4 : (Int → Option (GroupS))) : Option Res :=
 let y1 : ((Int × Unit) × ((Unit × Unit) × ((ObjS → Option (Int)) × ((Unit × Unit) × ((Unit × (Unit × (Unit × ((List ObjS) × Unit)))) × ((Int → Option ((List Int))) × ((Int → Option ((List InstrS))) × ((Int → Option (GroupS)) × ((Unit × Unit) × ((Unit × Unit) × Unit)))))))))) := (q_z07 a0 (fun _ => none) a1 a2 a3 a4)
 cond (ok_z07 a0 (fun _ => none) a1 a2 a3 a4)
 (some (encRes ro_z08 rh_z08 ((y1.1.1, ()), (((), ((), ((), (y1.2.2.2.2.1.2.2.2.1, ())))), (y1.2.2.2.2.2.1, (y1.2.2.2.2.2.2.1, (y1.2.2.2.2.2.2.2.1, ())))))))
 (none)
noncomputable def Q_z08 (a0 : ObjS) (a1 : (List ObjS)) (a2 : (Int → Option ((List Int)))) (a3 : (Int → Option ((List InstrS)))) (a4 : (Int → Option (GroupS))) : Option (RS ro_z08 rh_z08) := decRes ro_z08 rh_z08 (M_z08 FUEL a0 a1 a2 a3 a4)
noncomputable def ok_z08 (a0 : ObjS) (a1 : (List ObjS)) (a2 : (Int → Option ((List Int)))) (a3 : (Int → Option ((List InstrS)))) (a4 : (Int → Option (GroupS))) : Bool := (Q_z08 a0 a1 a2 a3 a4).isSome
noncomputable def q_z08 (a0 : ObjS) (a1 : (List ObjS)) (a2 : (Int → Option ((List Int)))) (a3 : (Int → Option ((List InstrS)))) (a4 : (Int → Option (GroupS))) : RS ro_z08 rh_z08 := RS.get (Q_z08 a0 a1 a2 a3 a4)
/-! z09: bound_of -/
abbrev ro_z09 : List EK := [.ty (.int .i64), .ty (.int .i64)]
abbrev rh_z09 : List HK := []
noncomputable def M_z09 (n : Nat) (a0 : ConfigS) (a1 : ObjS) : Option Res :=
 let y1 : ((Unit × Unit) × ((Unit × (Unit × (Unit × ((List ObjS) × Unit)))) × ((Int → Option ((List Int))) × ((Int → Option ((List InstrS))) × ((Int → Option (GroupS)) × Unit))))) := (q_z02 a0)
 cond (ok_z02 a0)
 (let y2 : ((Bool × Unit) × ((Unit × (Unit × (Unit × ((List ObjS) × Unit)))) × ((Int → Option ((List Int))) × ((Int → Option ((List InstrS))) × ((Int → Option (GroupS)) × Unit))))) := (q_z05 y1.2.1.2.2.2.1 y1.2.2.1 y1.2.2.2.1 y1.2.2.2.2.1)
 cond (ok_z05 y1.2.1.2.2.2.1 y1.2.2.1 y1.2.2.2.1 y1.2.2.2.2.1)
 (cond y2.1.1
 (some (encRes ro_z09 rh_z09 (((0 : Int), ((10 : Int), ())), ())))
 (let y3 : ((Int × Unit) × ((Unit × (Unit × (Unit × ((List ObjS) × Unit)))) × ((Int → Option ((List Int))) × ((Int → Option ((List InstrS))) × ((Int → Option (GroupS)) × Unit))))) := (q_z08 a1 y2.2.1.2.2.2.1 y2.2.2.1 y2.2.2.2.1 y2.2.2.2.2.1)
 cond (ok_z08 a1 y2.2.1.2.2.2.1 y2.2.2.1 y2.2.2.2.1 y2.2.2.2.2.1)
 (some (encRes ro_z09 rh_z09 ((y3.1.1, ((0 : Int), ())), ())))
 (none)))
 (none))
 (none)
noncomputable def Q_z09 (a0 : ConfigS) (a1 : ObjS) : Option (RS ro_z09 rh_z09) := decRes ro_z09 rh_z09 (M_z09 FUEL a0 a1)
noncomputable def ok_z09 (a0 : ConfigS) (a1 : ObjS) : Bool := (Q_z09 a0 a1).isSome
noncomputable def q_z09 (a0 : ConfigS) (a1 : ObjS) : RS ro_z09 rh_z09 := RS.get (Q_z09 a0 a1)
/-! z0a: bound_Block -/
abbrev ro_z0a : List EK := [.ty (.int .i64), .ty (.int .i64)]
abbrev rh_z0a : List HK := []
noncomputable def M_z0a (n : Nat) (a0 : ConfigS) (a1 : Int) : Option Res :=
 let y1 : ((Int × (Int × Unit)) × Unit) := (q_z09 a0 ((1 : Int), (a1, ())))
 cond (ok_z09 a0 ((1 : Int), (a1, ())))
 (some (encRes ro_z0a rh_z0a ((y1.1.1, (y1.1.2.1, ())), ())))
 (none)
noncomputable def Q_z0a (a0 : ConfigS) (a1 : Int) : Option (RS ro_z0a rh_z0a) := decRes ro_z0a rh_z0a (M_z0a FUEL a0 a1)
noncomputable def ok_z0a (a0 : ConfigS) (a1 : Int) : Bool := (Q_z0a a0 a1).isSome
noncomputable def q_z0a (a0 : ConfigS) (a1 : Int) : RS ro_z0a rh_z0a := RS.get (Q_z0a a0 a1)
/-! z0b: bound_Table -/
abbrev ro_z0b : List EK := [.ty (.int .i64), .ty (.int .i64)]
abbrev rh_z0b : List HK := []
noncomputable def M_z0b (n : Nat) (a0 : ConfigS) (a1 : Int) : Option Res :=
 let y1 : ((Int × (Int × Unit)) × Unit) := (q_z09 a0 ((0 : Int), (a1, ())))
 cond (ok_z09 a0 ((0 : Int), (a1, ())))
 (some (encRes ro_z0b rh_z0b ((y1.1.1, (y1.1.2.1, ())), ())))
 (none)
noncomputable def Q_z0b (a0 : ConfigS) (a1 : Int) : Option (RS ro_z0b rh_z0b) := decRes ro_z0b rh_z0b (M_z0b FUEL a0 a1)
noncomputable def ok_z0b (a0 : ConfigS) (a1 : Int) : Bool := (Q_z0b a0 a1).isSome
noncomputable def q_z0b (a0 : ConfigS) (a1 : Int) : RS ro_z0b rh_z0b := RS.get (Q_z0b a0 a1)
/-! z0c: bound_Group -/
abbrev ro_z0c : List EK := [.ty (.int .i64), .ty (.int .i64)]
abbrev rh_z0c : List HK := []
noncomputable def M_z0c (n : Nat) (a0 : ConfigS) (a1 : Int) : Option Res :=
 let y1 : ((Int × (Int × Unit)) × Unit) := (q_z09 a0 ((2 : Int), (a1, ())))
 cond (ok_z09 a0 ((2 : Int), (a1, ())))
 (some (encRes ro_z0c rh_z0c ((y1.1.1, (y1.1.2.1, ())), ())))
 (none)
noncomputable def Q_z0c (a0 : ConfigS) (a1 : Int) : Option (RS ro_z0c rh_z0c) := decRes ro_z0c rh_z0c (M_z0c FUEL a0 a1)
noncomputable def ok_z0c (a0 : ConfigS) (a1 : Int) : Bool := (Q_z0c a0 a1).isSome
noncomputable def q_z0c (a0 : ConfigS) (a1 : Int) : RS ro_z0c rh_z0c := RS.get (Q_z0c a0 a1)
/-! z0d: turnoutlaw24_is -/
abbrev ro_z0d : List EK := [.ty .bool]
abbrev rh_z0d : List HK := []
noncomputable def M_z0d (n : Nat) (a0 : Int) (a1 : Int) (a2 : Int) : Option Res :=
 cond (a1 == (0 : Int))
 (some (encRes ro_z0d rh_z0d (((a0 == a2), ()), ())))
 (some (encRes ro_z0d rh_z0d ((false, ()), ())))
noncomputable def Q_z0d (a0 : Int) (a1 : Int) (a2 : Int) : Option (RS ro_z0d rh_z0d) := decRes ro_z0d rh_z0d (M_z0d FUEL a0 a1 a2)
noncomputable def ok_z0d (a0 : Int) (a1 : Int) (a2 : Int) : Bool := (Q_z0d a0 a1 a2).isSome
noncomputable def q_z0d (a0 : Int) (a1 : Int) (a2 : Int) : RS ro_z0d rh_z0d := RS.get (Q_z0d a0 a1 a2)
/-! z0e: bound_Cycle -/
abbrev ro_z0e : List EK := [.ty .bool]
abbrev rh_z0e : List HK := []
noncomputable def M_z0e (n : Nat) (a0 : ConfigS) : Option Res :=
 let y1 : ((Unit × Unit) × ((Unit × (Unit × (Unit × ((List ObjS) × Unit)))) × ((Int → Option ((List Int))) × ((Int → Option ((List InstrS))) × ((Int → Option (GroupS)) × Unit))))) := (q_z02 a0)
 cond (ok_z02 a0)
 (let y2 : ((Bool × Unit) × ((Unit × (Unit × (Unit × ((List ObjS) × Unit)))) × ((Int → Option ((List Int))) × ((Int → Option ((List InstrS))) × ((Int → Option (GroupS)) × Unit))))) := (q_z05 y1.2.1.2.2.2.1 y1.2.2.1 y1.2.2.2.1 y1.2.2.2.2.1)
 cond (ok_z05 y1.2.1.2.2.2.1 y1.2.2.1 y1.2.2.2.1 y1.2.2.2.2.1)
 (some (encRes ro_z0e rh_z0e ((y2.1.1, ()), ())))
 (none))
 (none)
noncomputable def Q_z0e (a0 : ConfigS) : Option (RS ro_z0e rh_z0e) := decRes ro_z0e rh_z0e (M_z0e FUEL a0)
noncomputable def ok_z0e (a0 : ConfigS) : Bool := (Q_z0e a0).isSome
noncomputable def q_z0e (a0 : ConfigS) : RS ro_z0e rh_z0e := RS.get (Q_z0e a0)
/-! z0f: graph_to -/
abbrev ro_z0f : List EK := [.ty .bool]
abbrev rh_z0f : List HK := []
noncomputable def M_z0f (n : Nat) (a0 : Int) : Option Res :=
 cond (decide (a0 ≥ (0 : Int)))
 (some (encRes ro_z0f rh_z0f (((decide (a0 ≤ (65535 : Int))), ()), ())))
 (some (encRes ro_z0f rh_z0f ((false, ()), ())))
noncomputable def Q_z0f (a0 : Int) : Option (RS ro_z0f rh_z0f) := decRes ro_z0f rh_z0f (M_z0f FUEL a0)
noncomputable def ok_z0f (a0 : Int) : Bool := (Q_z0f a0).isSome
noncomputable def q_z0f (a0 : Int) : RS ro_z0f rh_z0f := RS.get (Q_z0f a0)
/-! z0g: graph_span_may -/
abbrev ro_z0g : List EK := [.ty .bool]
abbrev rh_z0g : List HK := []
noncomputable def M_z0g (n : Nat) (a0 : SpanS) : Option Res :=
 cond (a0.2.1 == (0 : Int))
 (some (encRes ro_z0g rh_z0g (((a0.1 == (0 : Int)), ()), ())))
 (cond (decide (a0.2.1 > (0 : Int)))
 (cond (decide (a0.2.1 ≤ a0.2.2.1))
 (cond (decide (a0.1 ≥ (0 : Int)))
 (some (encRes ro_z0g rh_z0g (((decide (a0.1 ≤ (2048 : Int))), ()), ())))
 (some (encRes ro_z0g rh_z0g ((false, ()), ()))))
 (some (encRes ro_z0g rh_z0g ((false, ()), ()))))
 (some (encRes ro_z0g rh_z0g ((false, ()), ()))))
noncomputable def Q_z0g (a0 : SpanS) : Option (RS ro_z0g rh_z0g) := decRes ro_z0g rh_z0g (M_z0g FUEL a0)
noncomputable def ok_z0g (a0 : SpanS) : Bool := (Q_z0g a0).isSome
noncomputable def q_z0g (a0 : SpanS) : RS ro_z0g rh_z0g := RS.get (Q_z0g a0)
/-! z0h: graph_unit -/
abbrev ro_z0h : List EK := [.ty .bool]
abbrev rh_z0h : List HK := []
noncomputable def M_z0h (n : Nat) (a0 : NodeS) : Option Res :=
 cond (a0.2.2.2.1 == (0 : Int))
 (some (encRes ro_z0h rh_z0h (((a0.2.2.2.2.1 == (0 : Int)), ()), ())))
 (cond (decide (a0.2.2.2.2.1 ≥ (1 : Int)))
 (some (encRes ro_z0h rh_z0h (((decide (a0.2.2.2.2.1 ≤ (256 : Int))), ()), ())))
 (some (encRes ro_z0h rh_z0h ((false, ()), ()))))
noncomputable def Q_z0h (a0 : NodeS) : Option (RS ro_z0h rh_z0h) := decRes ro_z0h rh_z0h (M_z0h FUEL a0)
noncomputable def ok_z0h (a0 : NodeS) : Bool := (Q_z0h a0).isSome
noncomputable def q_z0h (a0 : NodeS) : RS ro_z0h rh_z0h := RS.get (Q_z0h a0)
/-! z0i: graph_Form -/
abbrev ro_z0i : List EK := [.ty .bool]
abbrev rh_z0i : List HK := []
noncomputable def F_z0i_0 (n : Nat) (k_r : Bool → Option Res) (k_t0 : Unit → Option Res) (x0_0 : (List ArmS)) (x0_1 : Int) (x0_3 : NodeS) (rec : Int → Option Res) (x0_2 : Int) : Option Res :=
 cond (decide (x0_2 < x0_1))
 (cond (decide ((0 : Int) ≤ x0_2 ∧ x0_2 < (((List.length x0_0) : Nat) : Int)))
 (cond (decide ((0 : Int) ≤ x0_3.2.2.2.2.2.2.1))
 (let y5 : Int := (Int.fdiv (IntKind.wrap .u64 (rdd zArmS x0_0 (Int.toNat x0_2)).1) (2 ^ (min (Int.toNat x0_3.2.2.2.2.2.2.1) (IntKind.bits .u64))))
 cond (decide (y5 > (0 : Int)))
 (k_r false)
 (cond (x0_3.2.2.2.2.2.2.1 == (0 : Int))
 (k_r false)
 (cond (decide (x0_2 > (0 : Int)))
 (cond (decide ((0 : Int) ≤ (IntKind.wrap .i64 (x0_2 - (1 : Int))) ∧ (IntKind.wrap .i64 (x0_2 - (1 : Int))) < (((List.length x0_3.2.2.2.2.2.2.2.1) : Nat) : Int)))
 (cond (decide ((rdd zArmS x0_0 (Int.toNat x0_2)).1 ≤ (rdd zArmS x0_3.2.2.2.2.2.2.2.1 (Int.toNat (IntKind.wrap .i64 (x0_2 - (1 : Int))))).1))
 (k_r false)
 (let y6 : ((Bool × Unit) × Unit) := (q_z0f ((rdd zArmS x0_0 (Int.toNat x0_2)).2.1))
 cond (ok_z0f ((rdd zArmS x0_0 (Int.toNat x0_2)).2.1))
 (cond (!y6.1.1)
 (k_r false)
 (rec (IntKind.wrap .i64 (x0_2 + (1 : Int)))))
 (none)))
 (none))
 (let y7 : ((Bool × Unit) × Unit) := (q_z0f ((rdd zArmS x0_0 (Int.toNat x0_2)).2.1))
 cond (ok_z0f ((rdd zArmS x0_0 (Int.toNat x0_2)).2.1))
 (cond (!y7.1.1)
 (k_r false)
 (rec (IntKind.wrap .i64 (x0_2 + (1 : Int)))))
 (none)))))
 (none))
 (none))
 (k_t0 ())
noncomputable def L_z0i_0 (n : Nat) (k_r : Bool → Option Res) (k_t0 : Unit → Option Res) (x0_0 : (List ArmS)) (x0_1 : Int) (x0_3 : NodeS) : Nat → Int → Option Res
  | 0, _ => none
  | m + 1, x0_2 => F_z0i_0 n k_r k_t0 x0_0 x0_1 x0_3 (L_z0i_0 n k_r k_t0 x0_0 x0_1 x0_3 m) x0_2
noncomputable def M_z0i (n : Nat) (a0 : NodeS) : Option Res :=
 cond (decide (a0.1 < (1 : Int)))
 (some (encRes ro_z0i rh_z0i ((false, ()), ())))
 (cond (decide (a0.1 > (65534 : Int)))
 (some (encRes ro_z0i rh_z0i ((false, ()), ())))
 (cond (decide (a0.2.1 < (0 : Int)))
 (some (encRes ro_z0i rh_z0i ((false, ()), ())))
 (cond (decide (a0.2.1 > (256 : Int)))
 (some (encRes ro_z0i rh_z0i ((false, ()), ())))
 (let y1 : ((Bool × Unit) × Unit) := (q_z0f a0.2.2.2.2.2.2.2.2.1)
 cond (ok_z0f a0.2.2.2.2.2.2.2.2.1)
 (cond (!y1.1.1)
 (some (encRes ro_z0i rh_z0i ((false, ()), ())))
 (cond (decide ((((List.length a0.2.2.2.2.2.2.2.1) : Nat) : Int) > (32 : Int)))
 (some (encRes ro_z0i rh_z0i ((false, ()), ())))
 (let y2 : ((Bool × Unit) × Unit) := (q_z0g (a0.2.2.1, (a0.2.2.2.1, ((16 : Int), ()))))
 cond (ok_z0g (a0.2.2.1, (a0.2.2.2.1, ((16 : Int), ()))))
 (cond (!y2.1.1)
 (some (encRes ro_z0i rh_z0i ((false, ()), ())))
 (let y3 : ((Bool × Unit) × Unit) := (q_z0h a0)
 cond (ok_z0h a0)
 (cond (!y3.1.1)
 (some (encRes ro_z0i rh_z0i ((false, ()), ())))
 (let y4 : ((Bool × Unit) × Unit) := (q_z0g (a0.2.2.2.2.2.1, (a0.2.2.2.2.2.2.1, ((32 : Int), ()))))
 cond (ok_z0g (a0.2.2.2.2.2.1, (a0.2.2.2.2.2.2.1, ((32 : Int), ()))))
 (cond (!y4.1.1)
 (some (encRes ro_z0i rh_z0i ((false, ()), ())))
 (L_z0i_0 n
  (fun y8 => some (encRes ro_z0i rh_z0i ((y8, ()), ())))
  (fun _ => some (encRes ro_z0i rh_z0i ((true, ()), ())))
  a0.2.2.2.2.2.2.2.1
  (((List.length a0.2.2.2.2.2.2.2.1) : Nat) : Int)
  a0
  n
  (0 : Int)))
 (none)))
 (none)))
 (none))))
 (none)))))
noncomputable def Q_z0i (a0 : NodeS) : Option (RS ro_z0i rh_z0i) := decRes ro_z0i rh_z0i (M_z0i FUEL a0)
noncomputable def ok_z0i (a0 : NodeS) : Bool := (Q_z0i a0).isSome
noncomputable def q_z0i (a0 : NodeS) : RS ro_z0i rh_z0i := RS.get (Q_z0i a0)
/-! z0j: graph_form -/
abbrev ro_z0j : List EK := [.ty .bool]
abbrev rh_z0j : List HK := []
noncomputable def F_z0j_0 (n : Nat) (k_r : Bool → Option Res) (k_t0 : Unit → Option Res) (x0_0 : (List NodeS)) (x0_1 : (List NodeS)) (x0_2 : Int) (rec : Int → Option Res) (x0_3 : Int) : Option Res :=
 cond (decide (x0_3 < x0_2))
 (cond (decide ((0 : Int) ≤ x0_3 ∧ x0_3 < (((List.length x0_1) : Nat) : Int)))
 (let y1 : ((Bool × Unit) × Unit) := (q_z0i (rdd zNodeS x0_1 (Int.toNat x0_3)))
 cond (ok_z0i (rdd zNodeS x0_1 (Int.toNat x0_3)))
 (cond (!y1.1.1)
 (k_r false)
 (cond (decide (x0_3 > (0 : Int)))
 (cond (decide ((0 : Int) ≤ (IntKind.wrap .i64 (x0_3 - (1 : Int))) ∧ (IntKind.wrap .i64 (x0_3 - (1 : Int))) < (((List.length x0_0) : Nat) : Int)))
 (cond (decide ((rdd zNodeS x0_1 (Int.toNat x0_3)).1 ≤ (rdd zNodeS x0_0 (Int.toNat (IntKind.wrap .i64 (x0_3 - (1 : Int))))).1))
 (k_r false)
 (rec (IntKind.wrap .i64 (x0_3 + (1 : Int)))))
 (none))
 (rec (IntKind.wrap .i64 (x0_3 + (1 : Int))))))
 (none))
 (none))
 (k_t0 ())
noncomputable def L_z0j_0 (n : Nat) (k_r : Bool → Option Res) (k_t0 : Unit → Option Res) (x0_0 : (List NodeS)) (x0_1 : (List NodeS)) (x0_2 : Int) : Nat → Int → Option Res
  | 0, _ => none
  | m + 1, x0_3 => F_z0j_0 n k_r k_t0 x0_0 x0_1 x0_2 (L_z0j_0 n k_r k_t0 x0_0 x0_1 x0_2 m) x0_3
noncomputable def M_z0j (n : Nat) (a0 : (List NodeS)) : Option Res :=
 L_z0j_0 n
  (fun y2 => some (encRes ro_z0j rh_z0j ((y2, ()), ())))
  (fun _ => some (encRes ro_z0j rh_z0j ((true, ()), ())))
  a0
  a0
  (((List.length a0) : Nat) : Int)
  n
  (0 : Int)
noncomputable def Q_z0j (a0 : (List NodeS)) : Option (RS ro_z0j rh_z0j) := decRes ro_z0j rh_z0j (M_z0j FUEL a0)
noncomputable def ok_z0j (a0 : (List NodeS)) : Bool := (Q_z0j a0).isSome
noncomputable def q_z0j (a0 : (List NodeS)) : RS ro_z0j rh_z0j := RS.get (Q_z0j a0)
/-! z0k: graph_goes -/
abbrev ro_z0k : List EK := [.hs 0 0]
abbrev rh_z0k : List HK := [.row (.int .i64)]
noncomputable def F_z0k_0 (n : Nat) (k_t0 : Nat → (List Int) → Option Res) (x0_1 : (List ArmS)) (x0_2 : Int) (rec : Nat → Int → (List Int) → Option Res) (x0_0 : Nat) (x0_3 : Int) (x0_4 : (List Int)) : Option Res :=
 cond (decide (x0_3 < x0_2))
 (cond (decide ((0 : Int) ≤ x0_3 ∧ x0_3 < (((List.length x0_1) : Nat) : Int)))
 (cond (decide (((List.length (cutL (0 : Int) x0_4 0 x0_0)) + 1) * 8 ≤ 2 ^ 46 ∧ ((List.length (cutL (0 : Int) x0_4 0 x0_0)) + 1) ≤ 2 ^ 46))
 (rec ((List.length (cutL (0 : Int) x0_4 0 x0_0)) + 1) (IntKind.wrap .i64 (x0_3 + (1 : Int))) ((cutL (0 : Int) x0_4 0 x0_0) ++ [(rdd zArmS x0_1 (Int.toNat x0_3)).2.1]))
 (none))
 (none))
 (k_t0 x0_0 x0_4)
noncomputable def L_z0k_0 (n : Nat) (k_t0 : Nat → (List Int) → Option Res) (x0_1 : (List ArmS)) (x0_2 : Int) : Nat → Nat → Int → (List Int) → Option Res
  | 0, _, _, _ => none
  | m + 1, x0_0, x0_3, x0_4 => F_z0k_0 n k_t0 x0_1 x0_2 (L_z0k_0 n k_t0 x0_1 x0_2 m) x0_0 x0_3 x0_4
noncomputable def M_z0k (n : Nat) (a0 : NodeS) : Option Res :=
 L_z0k_0 n
  (fun y1 y2 => some (encRes ro_z0k rh_z0k ((y1, ()), (y2, ()))))
  a0.2.2.2.2.2.2.2.1
  (((List.length a0.2.2.2.2.2.2.2.1) : Nat) : Int)
  n
  1
  (0 : Int)
  ([a0.2.2.2.2.2.2.2.2.1])
noncomputable def Q_z0k (a0 : NodeS) : Option (RS ro_z0k rh_z0k) := decRes ro_z0k rh_z0k (M_z0k FUEL a0)
noncomputable def ok_z0k (a0 : NodeS) : Bool := (Q_z0k a0).isSome
noncomputable def q_z0k (a0 : NodeS) : RS ro_z0k rh_z0k := RS.get (Q_z0k a0)
/-! z0l: graph_Find -/
abbrev ro_z0l : List EK := [.agg NodeT, .ty .bool]
abbrev rh_z0l : List HK := []
noncomputable def F_z0l_0 (n : Nat) (k_r : Bool → NodeS → Option Res) (k_t0 : Unit → Option Res) (x0_0 : Int) (x0_1 : (List NodeS)) (x0_2 : Int) (x0_4 : NodeS) (rec : Int → Option Res) (x0_3 : Int) : Option Res :=
 cond (decide (x0_3 < x0_2))
 (cond (decide ((0 : Int) ≤ x0_3 ∧ x0_3 < (((List.length x0_1) : Nat) : Int)))
 (cond ((rdd zNodeS x0_1 (Int.toNat x0_3)).1 == x0_0)
 (k_r true (rdd zNodeS x0_1 (Int.toNat x0_3)))
 (rec (IntKind.wrap .i64 (x0_3 + (1 : Int)))))
 (none))
 (k_t0 ())
noncomputable def L_z0l_0 (n : Nat) (k_r : Bool → NodeS → Option Res) (k_t0 : Unit → Option Res) (x0_0 : Int) (x0_1 : (List NodeS)) (x0_2 : Int) (x0_4 : NodeS) : Nat → Int → Option Res
  | 0, _ => none
  | m + 1, x0_3 => F_z0l_0 n k_r k_t0 x0_0 x0_1 x0_2 x0_4 (L_z0l_0 n k_r k_t0 x0_0 x0_1 x0_2 x0_4 m) x0_3
noncomputable def M_z0l (n : Nat) (a0 : (List NodeS)) (a1 : Int) : Option Res :=
 L_z0l_0 n
  (fun y1 y2 => some (encRes ro_z0l rh_z0l ((y2, (y1, ())), ())))
  (fun _ => some (encRes ro_z0l rh_z0l ((((0 : Int), ((0 : Int), ((0 : Int), ((0 : Int), ((0 : Int), ((0 : Int), ((0 : Int), ([], ((0 : Int), ()))))))))), (false, ())), ())))
  a1
  a0
  (((List.length a0) : Nat) : Int)
  ((0 : Int), ((0 : Int), ((0 : Int), ((0 : Int), ((0 : Int), ((0 : Int), ((0 : Int), ([], ((0 : Int), ())))))))))
  n
  (0 : Int)
noncomputable def Q_z0l (a0 : (List NodeS)) (a1 : Int) : Option (RS ro_z0l rh_z0l) := decRes ro_z0l rh_z0l (M_z0l FUEL a0 a1)
noncomputable def ok_z0l (a0 : (List NodeS)) (a1 : Int) : Bool := (Q_z0l a0 a1).isSome
noncomputable def q_z0l (a0 : (List NodeS)) (a1 : Int) : RS ro_z0l rh_z0l := RS.get (Q_z0l a0 a1)
/-! z0m: graph_refs -/
abbrev ro_z0m : List EK := [.ty .bool]
abbrev rh_z0m : List HK := []
noncomputable def F_z0m_2 (n : Nat) (k_r : Bool → Option Res) (k_t2 : Unit → Option Res) (x2_0 : (List NodeS)) (x2_1 : (List NodeS)) (x2_2 : Int) (x2_3 : Int) (x2_4 : Nat) (x2_5 : Int) (x2_7 : (List Int)) (rec : Int → Option Res) (x2_6 : Int) : Option Res :=
 cond (decide (x2_6 < x2_5))
 (cond (decide ((0 : Int) ≤ x2_6 ∧ x2_6 < ((x2_4 : Nat) : Int)))
 (let y2 : ((NodeS × (Bool × Unit)) × Unit) := (q_z0l x2_0 (rdd (0 : Int) x2_7 (Int.toNat x2_6)))
 cond (ok_z0l x2_0 (rdd (0 : Int) x2_7 (Int.toNat x2_6)))
 (cond (!y2.1.2.1)
 (cond ((rdd (0 : Int) x2_7 (Int.toNat x2_6)) != (0 : Int))
 (cond ((rdd (0 : Int) x2_7 (Int.toNat x2_6)) != (65535 : Int))
 (k_r false)
 (rec (IntKind.wrap .i64 (x2_6 + (1 : Int)))))
 (rec (IntKind.wrap .i64 (x2_6 + (1 : Int)))))
 (rec (IntKind.wrap .i64 (x2_6 + (1 : Int)))))
 (none))
 (none))
 (k_t2 ())
noncomputable def L_z0m_2 (n : Nat) (k_r : Bool → Option Res) (k_t2 : Unit → Option Res) (x2_0 : (List NodeS)) (x2_1 : (List NodeS)) (x2_2 : Int) (x2_3 : Int) (x2_4 : Nat) (x2_5 : Int) (x2_7 : (List Int)) : Nat → Int → Option Res
  | 0, _ => none
  | m + 1, x2_6 => F_z0m_2 n k_r k_t2 x2_0 x2_1 x2_2 x2_3 x2_4 x2_5 x2_7 (L_z0m_2 n k_r k_t2 x2_0 x2_1 x2_2 x2_3 x2_4 x2_5 x2_7 m) x2_6
noncomputable def F_z0m_0 (n : Nat) (k_r : Bool → Option Res) (k_t0 : Unit → Option Res) (x0_0 : (List NodeS)) (x0_1 : (List NodeS)) (x0_2 : Int) (rec : Int → Option Res) (x0_3 : Int) : Option Res :=
 cond (decide (x0_3 < x0_2))
 (cond (decide ((0 : Int) ≤ x0_3 ∧ x0_3 < (((List.length x0_1) : Nat) : Int)))
 (let y1 : ((Nat × Unit) × ((List Int) × Unit)) := (q_z0k (rdd zNodeS x0_1 (Int.toNat x0_3)))
 cond (ok_z0k (rdd zNodeS x0_1 (Int.toNat x0_3)))
 (L_z0m_2 n
  (fun y3 => k_r y3)
  (fun _ => rec (IntKind.wrap .i64 (x0_3 + (1 : Int))))
  x0_0
  x0_1
  x0_2
  x0_3
  y1.1.1
  ((y1.1.1 : Nat) : Int)
  y1.2.1
  n
  (0 : Int))
 (none))
 (none))
 (k_t0 ())
noncomputable def L_z0m_0 (n : Nat) (k_r : Bool → Option Res) (k_t0 : Unit → Option Res) (x0_0 : (List NodeS)) (x0_1 : (List NodeS)) (x0_2 : Int) : Nat → Int → Option Res
  | 0, _ => none
  | m + 1, x0_3 => F_z0m_0 n k_r k_t0 x0_0 x0_1 x0_2 (L_z0m_0 n k_r k_t0 x0_0 x0_1 x0_2 m) x0_3
noncomputable def M_z0m (n : Nat) (a0 : (List NodeS)) : Option Res :=
 L_z0m_0 n
  (fun y4 => some (encRes ro_z0m rh_z0m ((y4, ()), ())))
  (fun _ => some (encRes ro_z0m rh_z0m ((true, ()), ())))
  a0
  a0
  (((List.length a0) : Nat) : Int)
  n
  (0 : Int)
noncomputable def Q_z0m (a0 : (List NodeS)) : Option (RS ro_z0m rh_z0m) := decRes ro_z0m rh_z0m (M_z0m FUEL a0)
noncomputable def ok_z0m (a0 : (List NodeS)) : Bool := (Q_z0m a0).isSome
noncomputable def q_z0m (a0 : (List NodeS)) : RS ro_z0m rh_z0m := RS.get (Q_z0m a0)
abbrev ro_z0n : List EK := [.ty (.int .i64)]
abbrev rh_z0n : List HK := [.one true [.ty (.slice NodeT)], .one false [.mp 2], .mf (.int .i64) (.int .i64), .one true [.ty .bool], .one false [.mp 5], .mf (.int .i64) (.int .i64), .one false [.fn 50 [(0, 0, 0), (1, 0, 0), (3, 0, 0), (4, 0, 0), (6, 0, 0)]]]
/-! z0n: graph_longest_walk -/
noncomputable def F_z0n_1 (n : Nat) (qr_z0n : Int → (List NodeS) → (Int → Option (Int)) → Bool → (Int → Option (Int)) → Option (RS ro_z0n rh_z0n)) (k_t1 : Int → (List NodeS) → (Int → Option (Int)) → Bool → (Int → Option (Int)) → Option Res) (x1_0 : Int) (x1_2 : Nat) (x1_3 : Int) (x1_9 : (List Int)) (rec : Int → Int → (List NodeS) → (Int → Option (Int)) → Bool → (Int → Option (Int)) → Option Res) (x1_1 : Int) (x1_4 : Int) (x1_5 : (List NodeS)) (x1_6 : (Int → Option (Int))) (x1_7 : Bool) (x1_8 : (Int → Option (Int))) : Option Res :=
 cond (decide (x1_4 < x1_3))
 (cond (decide ((0 : Int) ≤ x1_4 ∧ x1_4 < ((x1_2 : Nat) : Int)))
 (let y3 : ((Int × Unit) × (((List NodeS) × Unit) × ((Unit × Unit) × ((Int → Option (Int)) × ((Bool × Unit) × ((Unit × Unit) × ((Int → Option (Int)) × ((Unit × Unit) × Unit)))))))) := (RS.get (qr_z0n (rdd (0 : Int) x1_9 (Int.toNat x1_4)) x1_5 x1_6 x1_7 x1_8))
 cond (Option.isSome (qr_z0n (rdd (0 : Int) x1_9 (Int.toNat x1_4)) x1_5 x1_6 x1_7 x1_8))
 (rec (if y3.1.1 > x1_1 then y3.1.1 else x1_1) (IntKind.wrap .i64 (x1_4 + (1 : Int))) y3.2.1.1 y3.2.2.2.1 y3.2.2.2.2.1.1 y3.2.2.2.2.2.2.1)
 (none))
 (none))
 (k_t1 x1_1 x1_5 x1_6 x1_7 x1_8)
noncomputable def L_z0n_1 (n : Nat) (qr_z0n : Int → (List NodeS) → (Int → Option (Int)) → Bool → (Int → Option (Int)) → Option (RS ro_z0n rh_z0n)) (k_t1 : Int → (List NodeS) → (Int → Option (Int)) → Bool → (Int → Option (Int)) → Option Res) (x1_0 : Int) (x1_2 : Nat) (x1_3 : Int) (x1_9 : (List Int)) : Nat → Int → Int → (List NodeS) → (Int → Option (Int)) → Bool → (Int → Option (Int)) → Option Res
  | 0, _, _, _, _, _, _ => none
  | m + 1, x1_1, x1_4, x1_5, x1_6, x1_7, x1_8 => F_z0n_1 n qr_z0n k_t1 x1_0 x1_2 x1_3 x1_9 (L_z0n_1 n qr_z0n k_t1 x1_0 x1_2 x1_3 x1_9 m) x1_1 x1_4 x1_5 x1_6 x1_7 x1_8
noncomputable def M_z0n (n : Nat) (qr_z0n : Int → (List NodeS) → (Int → Option (Int)) → Bool → (Int → Option (Int)) → Option (RS ro_z0n rh_z0n)) (a0 : Int) (a1 : (List NodeS)) (a2 : (Int → Option (Int))) (a3 : Bool) (a4 : (Int → Option (Int))) : Option Res :=
 let y1 : ((NodeS × (Bool × Unit)) × Unit) := (q_z0l a1 a0)
 cond (ok_z0l a1 a0)
 (cond (!y1.1.2.1)
 (some (encRes ro_z0n rh_z0n (((0 : Int), ()), ((a1, ()), (((), ()), (a2, ((a3, ()), (((), ()), (a4, (((), ()), ()))))))))))
 (cond (decide ((Option.getD (a2 a0) (0 : Int)) > (0 : Int)))
 (some (encRes ro_z0n rh_z0n (((0 : Int), ()), ((a1, ()), (((), ()), (a2, ((false, ()), (((), ()), (a4, (((), ()), ()))))))))))
 (cond (decide ((Option.getD (a4 a0) (0 : Int)) > (0 : Int)))
 (some (encRes ro_z0n rh_z0n (((Option.getD (a4 a0) (0 : Int)), ()), ((a1, ()), (((), ()), (a2, ((a3, ()), (((), ()), (a4, (((), ()), ()))))))))))
 (let y2 : ((Nat × Unit) × ((List Int) × Unit)) := (q_z0k y1.1.1)
 cond (ok_z0k y1.1.1)
 (L_z0n_1 n qr_z0n
  (fun y4 y5 y6 y7 y8 => some (encRes ro_z0n rh_z0n (((IntKind.wrap .i64 (y4 + (1 : Int))), ()), ((y5, ()), (((), ()), ((fun i => cond (decide (i = a0)) (some (IntKind.wrap .i64 ((Option.getD (y6 a0) (0 : Int)) - (1 : Int)))) (y6 i)), ((y7, ()), (((), ()), ((fun i => cond (decide (i = a0)) (some (IntKind.wrap .i64 (y4 + (1 : Int)))) (y8 i)), (((), ()), ()))))))))))
  a0
  y2.1.1
  ((y2.1.1 : Nat) : Int)
  y2.2.1
  n
  (0 : Int)
  (0 : Int)
  a1
  (fun i => cond (decide (i = a0)) (some (IntKind.wrap .i64 ((Option.getD (a2 a0) (0 : Int)) + (1 : Int)))) (a2 i))
  a3
  a4)
 (none)))))
 (none)
noncomputable def Qd_z0n : Nat → Int → (List NodeS) → (Int → Option (Int)) → Bool → (Int → Option (Int)) → Option (RS ro_z0n rh_z0n)
  | 0, _, _, _, _, _ => none
  | dp + 1, a0, a1, a2, a3, a4 => decRes ro_z0n rh_z0n (M_z0n FUEL (Qd_z0n dp) a0 a1 a2 a3 a4)
noncomputable def Q_z0n (a0 : Int) (a1 : (List NodeS)) (a2 : (Int → Option (Int))) (a3 : Bool) (a4 : (Int → Option (Int))) : Option (RS ro_z0n rh_z0n) := Qd_z0n FUEL a0 a1 a2 a3 a4
noncomputable def ok_z0n (a0 : Int) (a1 : (List NodeS)) (a2 : (Int → Option (Int))) (a3 : Bool) (a4 : (Int → Option (Int))) : Bool := (Q_z0n a0 a1 a2 a3 a4).isSome
noncomputable def q_z0n (a0 : Int) (a1 : (List NodeS)) (a2 : (Int → Option (Int))) (a3 : Bool) (a4 : (Int → Option (Int))) : RS ro_z0n rh_z0n := RS.get (Q_z0n a0 a1 a2 a3 a4)
/-! z0o: graph_longest -/
abbrev ro_z0o : List EK := [.fn 50 [(0, 0, 0), (1, 0, 0), (3, 0, 0), (4, 0, 0), (6, 0, 0)], .ty .bool]
abbrev rh_z0o : List HK := [.one true [.ty (.slice NodeT)], .one false [.mp 2], .mf (.int .i64) (.int .i64), .one true [.ty .bool], .one false [.mp 5], .mf (.int .i64) (.int .i64), .one false [.fn 50 [(0, 0, 0), (1, 0, 0), (3, 0, 0), (4, 0, 0), (6, 0, 0)]]]
noncomputable def F_z0o_0 (n : Nat) (k_t0 : Bool → (List NodeS) → (Int → Option (Int)) → (Int → Option (Int)) → Option Res) (x0_0 : (List NodeS)) (x0_1 : Int) (rec : Int → Bool → (List NodeS) → (Int → Option (Int)) → (Int → Option (Int)) → Option Res) (x0_2 : Int) (x0_3 : Bool) (x0_4 : (List NodeS)) (x0_5 : (Int → Option (Int))) (x0_6 : (Int → Option (Int))) : Option Res :=
 cond (decide (x0_2 < x0_1))
 (cond (decide ((0 : Int) ≤ x0_2 ∧ x0_2 < (((List.length x0_0) : Nat) : Int)))
 (let y1 : ((Int × Unit) × (((List NodeS) × Unit) × ((Unit × Unit) × ((Int → Option (Int)) × ((Bool × Unit) × ((Unit × Unit) × ((Int → Option (Int)) × ((Unit × Unit) × Unit)))))))) := (q_z0n ((rdd zNodeS x0_0 (Int.toNat x0_2)).1) x0_4 x0_5 x0_3 x0_6)
 cond (ok_z0n ((rdd zNodeS x0_0 (Int.toNat x0_2)).1) x0_4 x0_5 x0_3 x0_6)
 (rec (IntKind.wrap .i64 (x0_2 + (1 : Int))) y1.2.2.2.2.1.1 y1.2.1.1 y1.2.2.2.1 y1.2.2.2.2.2.2.1)
 (none))
 (none))
 (k_t0 x0_3 x0_4 x0_5 x0_6)
noncomputable def L_z0o_0 (n : Nat) (k_t0 : Bool → (List NodeS) → (Int → Option (Int)) → (Int → Option (Int)) → Option Res) (x0_0 : (List NodeS)) (x0_1 : Int) : Nat → Int → Bool → (List NodeS) → (Int → Option (Int)) → (Int → Option (Int)) → Option Res
  | 0, _, _, _, _, _ => none
  | m + 1, x0_2, x0_3, x0_4, x0_5, x0_6 => F_z0o_0 n k_t0 x0_0 x0_1 (L_z0o_0 n k_t0 x0_0 x0_1 m) x0_2 x0_3 x0_4 x0_5 x0_6
noncomputable def M_z0o (n : Nat) (a0 : (List NodeS)) : Option Res :=
 L_z0o_0 n
  (fun y2 y3 y4 y5 => some (encRes ro_z0o rh_z0o (((), (y2, ())), ((y3, ()), (((), ()), (y4, ((y2, ()), (((), ()), (y5, (((), ()), ()))))))))))
  a0
  (((List.length a0) : Nat) : Int)
  n
  (0 : Int)
  true
  a0
  (fun _ => none)
  (fun _ => none)
noncomputable def Q_z0o (a0 : (List NodeS)) : Option (RS ro_z0o rh_z0o) := decRes ro_z0o rh_z0o (M_z0o FUEL a0)
noncomputable def ok_z0o (a0 : (List NodeS)) : Bool := (Q_z0o a0).isSome
noncomputable def q_z0o (a0 : (List NodeS)) : RS ro_z0o rh_z0o := RS.get (Q_z0o a0)
/-! z0p: graph_May -/
abbrev ro_z0p : List EK := [.ty (.int .i64)]
abbrev rh_z0p : List HK := []
noncomputable def M_z0p (n : Nat) (a0 : (List NodeS)) : Option Res :=
 let y1 : ((Bool × Unit) × Unit) := (q_z0j a0)
 cond (ok_z0j a0)
 (cond (!y1.1.1)
 (some (encRes ro_z0p rh_z0p (((3 : Int), ()), ())))
 (cond (decide ((((List.length a0) : Nat) : Int) > (32 : Int)))
 (some (encRes ro_z0p rh_z0p (((12 : Int), ()), ())))
 (let y2 : ((Bool × Unit) × Unit) := (q_z0m a0)
 cond (ok_z0m a0)
 (cond (!y2.1.1)
 (some (encRes ro_z0p rh_z0p (((8 : Int), ()), ())))
 (let y3 : ((Unit × (Bool × Unit)) × (((List NodeS) × Unit) × ((Unit × Unit) × ((Int → Option (Int)) × ((Bool × Unit) × ((Unit × Unit) × ((Int → Option (Int)) × ((Unit × Unit) × Unit)))))))) := (q_z0o a0)
 cond (ok_z0o a0)
 (cond (!y3.1.2.1)
 (some (encRes ro_z0p rh_z0p (((10 : Int), ()), ())))
 (some (encRes ro_z0p rh_z0p (((0 : Int), ()), ()))))
 (none)))
 (none))))
 (none)
noncomputable def Q_z0p (a0 : (List NodeS)) : Option (RS ro_z0p rh_z0p) := decRes ro_z0p rh_z0p (M_z0p FUEL a0)
noncomputable def ok_z0p (a0 : (List NodeS)) : Bool := (Q_z0p a0).isSome
noncomputable def q_z0p (a0 : (List NodeS)) : RS ro_z0p rh_z0p := RS.get (Q_z0p a0)
/-! z0q: graph_Longest -/
abbrev ro_z0q : List EK := [.ty (.int .i64)]
abbrev rh_z0q : List HK := []
noncomputable def M_z0q (n : Nat) (a0 : (List NodeS)) : Option Res :=
 let y1 : ((Int × Unit) × Unit) := (q_z0p a0)
 cond (ok_z0p a0)
 (cond (y1.1.1 != (0 : Int))
 (some (encRes ro_z0q rh_z0q (((0 : Int), ()), ())))
 (let y2 : ((Unit × (Bool × Unit)) × (((List NodeS) × Unit) × ((Unit × Unit) × ((Int → Option (Int)) × ((Bool × Unit) × ((Unit × Unit) × ((Int → Option (Int)) × ((Unit × Unit) × Unit)))))))) := (q_z0o a0)
 cond (ok_z0o a0)
 (let y3 : ((Int × Unit) × (((List NodeS) × Unit) × ((Unit × Unit) × ((Int → Option (Int)) × ((Bool × Unit) × ((Unit × Unit) × ((Int → Option (Int)) × ((Unit × Unit) × Unit)))))))) := (q_z0n (1 : Int) y2.2.1.1 y2.2.2.2.1 y2.2.2.2.2.1.1 y2.2.2.2.2.2.2.1)
 cond (ok_z0n (1 : Int) y2.2.1.1 y2.2.2.2.1 y2.2.2.2.2.1.1 y2.2.2.2.2.2.2.1)
 (some (encRes ro_z0q rh_z0q ((y3.1.1, ()), ())))
 (none))
 (none)))
 (none)
noncomputable def Q_z0q (a0 : (List NodeS)) : Option (RS ro_z0q rh_z0q) := decRes ro_z0q rh_z0q (M_z0q FUEL a0)
noncomputable def ok_z0q (a0 : (List NodeS)) : Bool := (Q_z0q a0).isSome
noncomputable def q_z0q (a0 : (List NodeS)) : RS ro_z0q rh_z0q := RS.get (Q_z0q a0)
/-! z0r: bound_Of -/
abbrev ro_z0r : List EK := [.ty (.int .i64), .ty (.int .i64)]
abbrev rh_z0r : List HK := []
noncomputable def M_z0r (n : Nat) (a0 : ConfigS) : Option Res :=
 let y1 : ((Int × (Int × Unit)) × Unit) := (q_z0b a0 (1 : Int))
 cond (ok_z0b a0 (1 : Int))
 (cond (y1.1.2.1 != (0 : Int))
 (some (encRes ro_z0r rh_z0r (((0 : Int), (y1.1.2.1, ())), ())))
 (let y2 : ((Int × Unit) × Unit) := (q_z0q a0.1)
 cond (ok_z0q a0.1)
 (let y3 : Int := (if (IntKind.wrap .i64 (y1.1.1 + y2.1.1)) < (65537 : Int) then (IntKind.wrap .i64 (y1.1.1 + y2.1.1)) else (65537 : Int))
 some (encRes ro_z0r rh_z0r ((y3, ((0 : Int), ())), ())))
 (none)))
 (none)
noncomputable def Q_z0r (a0 : ConfigS) : Option (RS ro_z0r rh_z0r) := decRes ro_z0r rh_z0r (M_z0r FUEL a0)
noncomputable def ok_z0r (a0 : ConfigS) : Bool := (Q_z0r a0).isSome
noncomputable def q_z0r (a0 : ConfigS) : RS ro_z0r rh_z0r := RS.get (Q_z0r a0)
/-! z0s: turnoutlaw24_awake -/
abbrev ro_z0s : List EK := [.ty .bool]
abbrev rh_z0s : List HK := []
noncomputable def M_z0s (n : Nat) : Option Res :=
 let y1 : ((Nat × Unit) × ((List InstrS) × Unit)) := (q_z01 ([(20 : Int), (23 : Int)]))
 cond (ok_z01 ([(20 : Int), (23 : Int)]))
 (let y2 : ((Nat × Unit) × ((List InstrS) × Unit)) := (q_z01 ([(12 : Int), (13 : Int), (23 : Int)]))
 cond (ok_z01 ([(12 : Int), (13 : Int), (23 : Int)]))
 (let y3 : ((Int × (Int × Unit)) × Unit) := (q_z0a ([], ([], ([((1 : Int), ((0 : Int), ([], ((0 : Int), ((1 : Int), ())))))], ([], ([((1 : Int), ((cutL zInstrS y1.2.1 0 y1.1.1), ())), ((2 : Int), ((cutL zInstrS y2.2.1 0 y2.1.1), ()))], ([((1 : Int), ((1 : Int), ((0 : Int), ([((0 : Int), ((1 : Int), ())), ((0 : Int), ((1 : Int), ()))], ())))), ((2 : Int), ((2 : Int), ((0 : Int), ([((0 : Int), ((1 : Int), ())), ((0 : Int), ((1 : Int), ()))], ()))))], ([], ([], ([], ()))))))))) (1 : Int))
 cond (ok_z0a ([], ([], ([((1 : Int), ((0 : Int), ([], ((0 : Int), ((1 : Int), ())))))], ([], ([((1 : Int), ((cutL zInstrS y1.2.1 0 y1.1.1), ())), ((2 : Int), ((cutL zInstrS y2.2.1 0 y2.1.1), ()))], ([((1 : Int), ((1 : Int), ((0 : Int), ([((0 : Int), ((1 : Int), ())), ((0 : Int), ((1 : Int), ()))], ())))), ((2 : Int), ((2 : Int), ((0 : Int), ([((0 : Int), ((1 : Int), ())), ((0 : Int), ((1 : Int), ()))], ()))))], ([], ([], ([], ()))))))))) (1 : Int))
 (let y4 : ((Int × (Int × Unit)) × Unit) := (q_z0b ([], ([], ([((1 : Int), ((0 : Int), ([], ((0 : Int), ((1 : Int), ())))))], ([], ([((1 : Int), ((cutL zInstrS y1.2.1 0 y1.1.1), ())), ((2 : Int), ((cutL zInstrS y2.2.1 0 y2.1.1), ()))], ([((1 : Int), ((1 : Int), ((0 : Int), ([((0 : Int), ((1 : Int), ())), ((0 : Int), ((1 : Int), ()))], ())))), ((2 : Int), ((2 : Int), ((0 : Int), ([((0 : Int), ((1 : Int), ())), ((0 : Int), ((1 : Int), ()))], ()))))], ([], ([], ([], ()))))))))) (1 : Int))
 cond (ok_z0b ([], ([], ([((1 : Int), ((0 : Int), ([], ((0 : Int), ((1 : Int), ())))))], ([], ([((1 : Int), ((cutL zInstrS y1.2.1 0 y1.1.1), ())), ((2 : Int), ((cutL zInstrS y2.2.1 0 y2.1.1), ()))], ([((1 : Int), ((1 : Int), ((0 : Int), ([((0 : Int), ((1 : Int), ())), ((0 : Int), ((1 : Int), ()))], ())))), ((2 : Int), ((2 : Int), ((0 : Int), ([((0 : Int), ((1 : Int), ())), ((0 : Int), ((1 : Int), ()))], ()))))], ([], ([], ([], ()))))))))) (1 : Int))
 (let y5 : ((Int × (Int × Unit)) × Unit) := (q_z0a ([], ([], ([((1 : Int), ((0 : Int), ([], ((0 : Int), ((1 : Int), ())))))], ([], ([((1 : Int), ((cutL zInstrS y1.2.1 0 y1.1.1), ())), ((2 : Int), ((cutL zInstrS y2.2.1 0 y2.1.1), ()))], ([((1 : Int), ((1 : Int), ((0 : Int), ([((0 : Int), ((1 : Int), ())), ((0 : Int), ((1 : Int), ()))], ())))), ((2 : Int), ((2 : Int), ((0 : Int), ([((0 : Int), ((1 : Int), ())), ((0 : Int), ((1 : Int), ()))], ()))))], ([], ([], ([], ()))))))))) (2 : Int))
 cond (ok_z0a ([], ([], ([((1 : Int), ((0 : Int), ([], ((0 : Int), ((1 : Int), ())))))], ([], ([((1 : Int), ((cutL zInstrS y1.2.1 0 y1.1.1), ())), ((2 : Int), ((cutL zInstrS y2.2.1 0 y2.1.1), ()))], ([((1 : Int), ((1 : Int), ((0 : Int), ([((0 : Int), ((1 : Int), ())), ((0 : Int), ((1 : Int), ()))], ())))), ((2 : Int), ((2 : Int), ((0 : Int), ([((0 : Int), ((1 : Int), ())), ((0 : Int), ((1 : Int), ()))], ()))))], ([], ([], ([], ()))))))))) (2 : Int))
 (let y6 : ((Int × (Int × Unit)) × Unit) := (q_z0c ([], ([], ([((1 : Int), ((0 : Int), ([], ((0 : Int), ((1 : Int), ())))))], ([], ([((1 : Int), ((cutL zInstrS y1.2.1 0 y1.1.1), ())), ((2 : Int), ((cutL zInstrS y2.2.1 0 y2.1.1), ()))], ([((1 : Int), ((1 : Int), ((0 : Int), ([((0 : Int), ((1 : Int), ())), ((0 : Int), ((1 : Int), ()))], ())))), ((2 : Int), ((2 : Int), ((0 : Int), ([((0 : Int), ((1 : Int), ())), ((0 : Int), ((1 : Int), ()))], ()))))], ([], ([], ([], ()))))))))) (1 : Int))
 cond (ok_z0c ([], ([], ([((1 : Int), ((0 : Int), ([], ((0 : Int), ((1 : Int), ())))))], ([], ([((1 : Int), ((cutL zInstrS y1.2.1 0 y1.1.1), ())), ((2 : Int), ((cutL zInstrS y2.2.1 0 y2.1.1), ()))], ([((1 : Int), ((1 : Int), ((0 : Int), ([((0 : Int), ((1 : Int), ())), ((0 : Int), ((1 : Int), ()))], ())))), ((2 : Int), ((2 : Int), ((0 : Int), ([((0 : Int), ((1 : Int), ())), ((0 : Int), ((1 : Int), ()))], ()))))], ([], ([], ([], ()))))))))) (1 : Int))
 (let y7 : ((Int × (Int × Unit)) × Unit) := (q_z0c ([], ([], ([((1 : Int), ((0 : Int), ([], ((0 : Int), ((1 : Int), ())))))], ([], ([((1 : Int), ((cutL zInstrS y1.2.1 0 y1.1.1), ())), ((2 : Int), ((cutL zInstrS y2.2.1 0 y2.1.1), ()))], ([((1 : Int), ((1 : Int), ((0 : Int), ([((0 : Int), ((1 : Int), ())), ((0 : Int), ((1 : Int), ()))], ())))), ((2 : Int), ((2 : Int), ((0 : Int), ([((0 : Int), ((1 : Int), ())), ((0 : Int), ((1 : Int), ()))], ()))))], ([], ([], ([], ()))))))))) (2 : Int))
 cond (ok_z0c ([], ([], ([((1 : Int), ((0 : Int), ([], ((0 : Int), ((1 : Int), ())))))], ([], ([((1 : Int), ((cutL zInstrS y1.2.1 0 y1.1.1), ())), ((2 : Int), ((cutL zInstrS y2.2.1 0 y2.1.1), ()))], ([((1 : Int), ((1 : Int), ((0 : Int), ([((0 : Int), ((1 : Int), ())), ((0 : Int), ((1 : Int), ()))], ())))), ((2 : Int), ((2 : Int), ((0 : Int), ([((0 : Int), ((1 : Int), ())), ((0 : Int), ((1 : Int), ()))], ()))))], ([], ([], ([], ()))))))))) (2 : Int))
 (let y8 : ((Bool × Unit) × Unit) := (q_z0d y3.1.1 y3.1.2.1 (2 : Int))
 cond (ok_z0d y3.1.1 y3.1.2.1 (2 : Int))
 (cond (!y8.1.1)
 (some (encRes ro_z0s rh_z0s ((false, ()), ())))
 (let y9 : ((Bool × Unit) × Unit) := (q_z0d y4.1.1 y4.1.2.1 (3 : Int))
 cond (ok_z0d y4.1.1 y4.1.2.1 (3 : Int))
 (cond (!y9.1.1)
 (some (encRes ro_z0s rh_z0s ((false, ()), ())))
 (let y10 : ((Bool × Unit) × Unit) := (q_z0d y5.1.1 y5.1.2.1 (5 : Int))
 cond (ok_z0d y5.1.1 y5.1.2.1 (5 : Int))
 (cond (!y10.1.1)
 (some (encRes ro_z0s rh_z0s ((false, ()), ())))
 (let y11 : ((Bool × Unit) × Unit) := (q_z0d y6.1.1 y6.1.2.1 (4 : Int))
 cond (ok_z0d y6.1.1 y6.1.2.1 (4 : Int))
 (cond (!y11.1.1)
 (some (encRes ro_z0s rh_z0s ((false, ()), ())))
 (let y12 : ((Bool × Unit) × Unit) := (q_z0d y7.1.1 y7.1.2.1 (2 : Int))
 cond (ok_z0d y7.1.1 y7.1.2.1 (2 : Int))
 (cond (!y12.1.1)
 (some (encRes ro_z0s rh_z0s ((false, ()), ())))
 (let y13 : ((Bool × Unit) × Unit) := (q_z0e ([], ([], ([((1 : Int), ((0 : Int), ([], ((0 : Int), ((1 : Int), ())))))], ([], ([((1 : Int), ((cutL zInstrS y1.2.1 0 y1.1.1), ())), ((2 : Int), ((cutL zInstrS y2.2.1 0 y2.1.1), ()))], ([((1 : Int), ((1 : Int), ((0 : Int), ([((0 : Int), ((1 : Int), ())), ((0 : Int), ((1 : Int), ()))], ())))), ((2 : Int), ((2 : Int), ((0 : Int), ([((0 : Int), ((1 : Int), ())), ((0 : Int), ((1 : Int), ()))], ()))))], ([], ([], ([], ()))))))))))
 cond (ok_z0e ([], ([], ([((1 : Int), ((0 : Int), ([], ((0 : Int), ((1 : Int), ())))))], ([], ([((1 : Int), ((cutL zInstrS y1.2.1 0 y1.1.1), ())), ((2 : Int), ((cutL zInstrS y2.2.1 0 y2.1.1), ()))], ([((1 : Int), ((1 : Int), ((0 : Int), ([((0 : Int), ((1 : Int), ())), ((0 : Int), ((1 : Int), ()))], ())))), ((2 : Int), ((2 : Int), ((0 : Int), ([((0 : Int), ((1 : Int), ())), ((0 : Int), ((1 : Int), ()))], ()))))], ([], ([], ([], ()))))))))))
 (cond y13.1.1
 (some (encRes ro_z0s rh_z0s ((false, ()), ())))
 (let y14 : ((Nat × Unit) × ((List InstrS) × Unit)) := (q_z01 ([(13 : Int)]))
 cond (ok_z01 ([(13 : Int)]))
 (cond (decide ((2 + 1) * 32 ≤ 2 ^ 46 ∧ (2 + 1) ≤ 2 ^ 46))
 (cond (decide ((0 : Int) ≤ (0 : Int) ∧ (0 : Int) < ((1 : Nat) : Int)))
 (let y15 : ((Int × (Int × Unit)) × Unit) := (q_z0r ([], ([], ([((1 : Int), ((0 : Int), ([], ((0 : Int), ((3 : Int), ())))))], ([], ((mkL (2 + 1) (fun i => (pick1 [((1 : Int), ((cutL zInstrS y1.2.1 0 y1.1.1), ())), ((2 : Int), ((cutL zInstrS y2.2.1 0 y2.1.1), ())), ((3 : Int), ((cutL zInstrS y14.2.1 0 y14.1.1), ()))] i zBlockS))), ([((1 : Int), ((1 : Int), ((0 : Int), ([((0 : Int), ((1 : Int), ())), ((0 : Int), ((1 : Int), ()))], ())))), ((2 : Int), ((2 : Int), ((0 : Int), ([((0 : Int), ((1 : Int), ())), ((0 : Int), ((1 : Int), ()))], ()))))], ([], ([], ([], ()))))))))))
 cond (ok_z0r ([], ([], ([((1 : Int), ((0 : Int), ([], ((0 : Int), ((3 : Int), ())))))], ([], ((mkL (2 + 1) (fun i => (pick1 [((1 : Int), ((cutL zInstrS y1.2.1 0 y1.1.1), ())), ((2 : Int), ((cutL zInstrS y2.2.1 0 y2.1.1), ())), ((3 : Int), ((cutL zInstrS y14.2.1 0 y14.1.1), ()))] i zBlockS))), ([((1 : Int), ((1 : Int), ((0 : Int), ([((0 : Int), ((1 : Int), ())), ((0 : Int), ((1 : Int), ()))], ())))), ((2 : Int), ((2 : Int), ((0 : Int), ([((0 : Int), ((1 : Int), ())), ((0 : Int), ((1 : Int), ()))], ()))))], ([], ([], ([], ()))))))))))
 (let y16 : ((Bool × Unit) × Unit) := (q_z0e ([], ([], ([((1 : Int), ((0 : Int), ([], ((0 : Int), ((3 : Int), ())))))], ([], ((mkL (2 + 1) (fun i => (pick1 [((1 : Int), ((cutL zInstrS y1.2.1 0 y1.1.1), ())), ((2 : Int), ((cutL zInstrS y2.2.1 0 y2.1.1), ())), ((3 : Int), ((cutL zInstrS y14.2.1 0 y14.1.1), ()))] i zBlockS))), ([((1 : Int), ((1 : Int), ((0 : Int), ([((0 : Int), ((1 : Int), ())), ((0 : Int), ((1 : Int), ()))], ())))), ((2 : Int), ((2 : Int), ((0 : Int), ([((0 : Int), ((1 : Int), ())), ((0 : Int), ((1 : Int), ()))], ()))))], ([], ([], ([], ()))))))))))
 cond (ok_z0e ([], ([], ([((1 : Int), ((0 : Int), ([], ((0 : Int), ((3 : Int), ())))))], ([], ((mkL (2 + 1) (fun i => (pick1 [((1 : Int), ((cutL zInstrS y1.2.1 0 y1.1.1), ())), ((2 : Int), ((cutL zInstrS y2.2.1 0 y2.1.1), ())), ((3 : Int), ((cutL zInstrS y14.2.1 0 y14.1.1), ()))] i zBlockS))), ([((1 : Int), ((1 : Int), ((0 : Int), ([((0 : Int), ((1 : Int), ())), ((0 : Int), ((1 : Int), ()))], ())))), ((2 : Int), ((2 : Int), ((0 : Int), ([((0 : Int), ((1 : Int), ())), ((0 : Int), ((1 : Int), ()))], ()))))], ([], ([], ([], ()))))))))))
 (cond y16.1.1
 (cond (y15.1.1 == (0 : Int))
 (some (encRes ro_z0s rh_z0s (((y15.1.2.1 == (10 : Int)), ()), ())))
 (some (encRes ro_z0s rh_z0s ((false, ()), ()))))
 (some (encRes ro_z0s rh_z0s ((false, ()), ()))))
 (none))
 (none))
 (none))
 (none))
 (none)))
 (none)))
 (none)))
 (none)))
 (none)))
 (none)))
 (none))
 (none))
 (none))
 (none))
 (none))
 (none))
 (none))
 (none)
noncomputable def Q_z0s : Option (RS ro_z0s rh_z0s) := decRes ro_z0s rh_z0s (M_z0s FUEL)
noncomputable def ok_z0s : Bool := (Q_z0s).isSome
noncomputable def q_z0s : RS ro_z0s rh_z0s := RS.get (Q_z0s)
/-! z0t: turnoutref15_Form -/
abbrev ro_z0t : List EK := [.ty .bool]
abbrev rh_z0t : List HK := []
noncomputable def F_z0t_0 (n : Nat) (k_t0 : Int → Option Res) (x0_2 : NodeS) (rec : Int → Int → Option Res) (x0_0 : Int) (x0_1 : Int) : Option Res :=
 cond (decide (x0_1 < x0_2.2.2.2.2.2.2.1))
 (rec (IntKind.wrap .u64 (x0_0 * (2 : Int))) (IntKind.wrap .i64 (x0_1 + (1 : Int))))
 (k_t0 x0_0)
noncomputable def L_z0t_0 (n : Nat) (k_t0 : Int → Option Res) (x0_2 : NodeS) : Nat → Int → Int → Option Res
  | 0, _, _ => none
  | m + 1, x0_0, x0_1 => F_z0t_0 n k_t0 x0_2 (L_z0t_0 n k_t0 x0_2 m) x0_0 x0_1
noncomputable def F_z0t_2 (n : Nat) (k_r : Bool → Option Res) (k_t2 : Unit → Option Res) (x2_0 : Int) (x2_2 : NodeS) (rec : Int → Option Res) (x2_1 : Int) : Option Res :=
 cond (decide (x2_1 < (((List.length x2_2.2.2.2.2.2.2.2.1) : Nat) : Int)))
 (cond (decide ((0 : Int) ≤ x2_1 ∧ x2_1 < (((List.length x2_2.2.2.2.2.2.2.2.1) : Nat) : Int)))
 (cond (decide ((IntKind.wrap .u64 (rdd zArmS x2_2.2.2.2.2.2.2.2.1 (Int.toNat x2_1)).1) ≥ x2_0))
 (k_r false)
 (cond (decide (x2_1 > (0 : Int)))
 (cond (decide ((0 : Int) ≤ (IntKind.wrap .i64 (x2_1 - (1 : Int))) ∧ (IntKind.wrap .i64 (x2_1 - (1 : Int))) < (((List.length x2_2.2.2.2.2.2.2.2.1) : Nat) : Int)))
 (cond (decide ((rdd zArmS x2_2.2.2.2.2.2.2.2.1 (Int.toNat x2_1)).1 ≤ (rdd zArmS x2_2.2.2.2.2.2.2.2.1 (Int.toNat (IntKind.wrap .i64 (x2_1 - (1 : Int))))).1))
 (k_r false)
 (cond (decide ((rdd zArmS x2_2.2.2.2.2.2.2.2.1 (Int.toNat x2_1)).2.1 < (0 : Int)))
 (k_r false)
 (cond (decide ((rdd zArmS x2_2.2.2.2.2.2.2.2.1 (Int.toNat x2_1)).2.1 > (65535 : Int)))
 (k_r false)
 (rec (IntKind.wrap .i64 (x2_1 + (1 : Int)))))))
 (none))
 (cond (decide ((rdd zArmS x2_2.2.2.2.2.2.2.2.1 (Int.toNat x2_1)).2.1 < (0 : Int)))
 (k_r false)
 (cond (decide ((rdd zArmS x2_2.2.2.2.2.2.2.2.1 (Int.toNat x2_1)).2.1 > (65535 : Int)))
 (k_r false)
 (rec (IntKind.wrap .i64 (x2_1 + (1 : Int))))))))
 (none))
 (k_t2 ())
noncomputable def L_z0t_2 (n : Nat) (k_r : Bool → Option Res) (k_t2 : Unit → Option Res) (x2_0 : Int) (x2_2 : NodeS) : Nat → Int → Option Res
  | 0, _ => none
  | m + 1, x2_1 => F_z0t_2 n k_r k_t2 x2_0 x2_2 (L_z0t_2 n k_r k_t2 x2_0 x2_2 m) x2_1
noncomputable def M_z0t (n : Nat) (a0 : NodeS) : Option Res :=
 cond (decide (a0.1 < (1 : Int)))
 (some (encRes ro_z0t rh_z0t ((false, ()), ())))
 (cond (decide (a0.1 > (65534 : Int)))
 (some (encRes ro_z0t rh_z0t ((false, ()), ())))
 (cond (decide (a0.2.1 < (0 : Int)))
 (some (encRes ro_z0t rh_z0t ((false, ()), ())))
 (cond (decide (a0.2.1 > (256 : Int)))
 (some (encRes ro_z0t rh_z0t ((false, ()), ())))
 (cond (decide (a0.2.2.2.2.2.2.2.2.1 < (0 : Int)))
 (some (encRes ro_z0t rh_z0t ((false, ()), ())))
 (cond (decide (a0.2.2.2.2.2.2.2.2.1 > (65535 : Int)))
 (some (encRes ro_z0t rh_z0t ((false, ()), ())))
 (cond (a0.2.2.2.1 == (0 : Int))
 (cond (a0.2.2.1 != (0 : Int))
 (some (encRes ro_z0t rh_z0t ((false, ()), ())))
 (cond (a0.2.2.2.2.1 != (0 : Int))
 (some (encRes ro_z0t rh_z0t ((false, ()), ())))
 (cond (a0.2.2.2.1 != (0 : Int))
 (cond (decide (a0.2.2.2.1 < (1 : Int)))
 (some (encRes ro_z0t rh_z0t ((false, ()), ())))
 (cond (decide (a0.2.2.2.1 > (16 : Int)))
 (some (encRes ro_z0t rh_z0t ((false, ()), ())))
 (cond (decide (a0.2.2.2.2.1 < (1 : Int)))
 (some (encRes ro_z0t rh_z0t ((false, ()), ())))
 (cond (decide (a0.2.2.2.2.1 > (256 : Int)))
 (some (encRes ro_z0t rh_z0t ((false, ()), ())))
 (cond (decide (a0.2.2.1 < (0 : Int)))
 (some (encRes ro_z0t rh_z0t ((false, ()), ())))
 (cond (decide (a0.2.2.1 > (2048 : Int)))
 (some (encRes ro_z0t rh_z0t ((false, ()), ())))
 (cond (a0.2.2.2.2.2.2.1 == (0 : Int))
 (cond (a0.2.2.2.2.2.1 != (0 : Int))
 (some (encRes ro_z0t rh_z0t ((false, ()), ())))
 (cond (decide ((((List.length a0.2.2.2.2.2.2.2.1) : Nat) : Int) > (0 : Int)))
 (some (encRes ro_z0t rh_z0t ((false, ()), ())))
 (cond (a0.2.2.2.2.2.2.1 != (0 : Int))
 (cond (decide (a0.2.2.2.2.2.2.1 < (1 : Int)))
 (some (encRes ro_z0t rh_z0t ((false, ()), ())))
 (cond (decide (a0.2.2.2.2.2.2.1 > (32 : Int)))
 (some (encRes ro_z0t rh_z0t ((false, ()), ())))
 (cond (decide (a0.2.2.2.2.2.1 < (0 : Int)))
 (some (encRes ro_z0t rh_z0t ((false, ()), ())))
 (cond (decide (a0.2.2.2.2.2.1 > (2048 : Int)))
 (some (encRes ro_z0t rh_z0t ((false, ()), ())))
 (cond (decide ((((List.length a0.2.2.2.2.2.2.2.1) : Nat) : Int) > (32 : Int)))
 (some (encRes ro_z0t rh_z0t ((false, ()), ())))
 (L_z0t_0 n
  (fun y1 => L_z0t_2 n
  (fun y2 => some (encRes ro_z0t rh_z0t ((y2, ()), ())))
  (fun _ => some (encRes ro_z0t rh_z0t ((true, ()), ())))
  y1
  a0
  n
  (0 : Int))
  a0
  n
  (1 : Int)
  (0 : Int)))))))
 (cond (decide ((((List.length a0.2.2.2.2.2.2.2.1) : Nat) : Int) > (32 : Int)))
 (some (encRes ro_z0t rh_z0t ((false, ()), ())))
 (L_z0t_0 n
  (fun y3 => L_z0t_2 n
  (fun y4 => some (encRes ro_z0t rh_z0t ((y4, ()), ())))
  (fun _ => some (encRes ro_z0t rh_z0t ((true, ()), ())))
  y3
  a0
  n
  (0 : Int))
  a0
  n
  (1 : Int)
  (0 : Int))))))
 (cond (a0.2.2.2.2.2.2.1 != (0 : Int))
 (cond (decide (a0.2.2.2.2.2.2.1 < (1 : Int)))
 (some (encRes ro_z0t rh_z0t ((false, ()), ())))
 (cond (decide (a0.2.2.2.2.2.2.1 > (32 : Int)))
 (some (encRes ro_z0t rh_z0t ((false, ()), ())))
 (cond (decide (a0.2.2.2.2.2.1 < (0 : Int)))
 (some (encRes ro_z0t rh_z0t ((false, ()), ())))
 (cond (decide (a0.2.2.2.2.2.1 > (2048 : Int)))
 (some (encRes ro_z0t rh_z0t ((false, ()), ())))
 (cond (decide ((((List.length a0.2.2.2.2.2.2.2.1) : Nat) : Int) > (32 : Int)))
 (some (encRes ro_z0t rh_z0t ((false, ()), ())))
 (L_z0t_0 n
  (fun y5 => L_z0t_2 n
  (fun y6 => some (encRes ro_z0t rh_z0t ((y6, ()), ())))
  (fun _ => some (encRes ro_z0t rh_z0t ((true, ()), ())))
  y5
  a0
  n
  (0 : Int))
  a0
  n
  (1 : Int)
  (0 : Int)))))))
 (cond (decide ((((List.length a0.2.2.2.2.2.2.2.1) : Nat) : Int) > (32 : Int)))
 (some (encRes ro_z0t rh_z0t ((false, ()), ())))
 (L_z0t_0 n
  (fun y7 => L_z0t_2 n
  (fun y8 => some (encRes ro_z0t rh_z0t ((y8, ()), ())))
  (fun _ => some (encRes ro_z0t rh_z0t ((true, ()), ())))
  y7
  a0
  n
  (0 : Int))
  a0
  n
  (1 : Int)
  (0 : Int)))))))))))
 (cond (a0.2.2.2.2.2.2.1 == (0 : Int))
 (cond (a0.2.2.2.2.2.1 != (0 : Int))
 (some (encRes ro_z0t rh_z0t ((false, ()), ())))
 (cond (decide ((((List.length a0.2.2.2.2.2.2.2.1) : Nat) : Int) > (0 : Int)))
 (some (encRes ro_z0t rh_z0t ((false, ()), ())))
 (cond (a0.2.2.2.2.2.2.1 != (0 : Int))
 (cond (decide (a0.2.2.2.2.2.2.1 < (1 : Int)))
 (some (encRes ro_z0t rh_z0t ((false, ()), ())))
 (cond (decide (a0.2.2.2.2.2.2.1 > (32 : Int)))
 (some (encRes ro_z0t rh_z0t ((false, ()), ())))
 (cond (decide (a0.2.2.2.2.2.1 < (0 : Int)))
 (some (encRes ro_z0t rh_z0t ((false, ()), ())))
 (cond (decide (a0.2.2.2.2.2.1 > (2048 : Int)))
 (some (encRes ro_z0t rh_z0t ((false, ()), ())))
 (cond (decide ((((List.length a0.2.2.2.2.2.2.2.1) : Nat) : Int) > (32 : Int)))
 (some (encRes ro_z0t rh_z0t ((false, ()), ())))
 (L_z0t_0 n
  (fun y9 => L_z0t_2 n
  (fun y10 => some (encRes ro_z0t rh_z0t ((y10, ()), ())))
  (fun _ => some (encRes ro_z0t rh_z0t ((true, ()), ())))
  y9
  a0
  n
  (0 : Int))
  a0
  n
  (1 : Int)
  (0 : Int)))))))
 (cond (decide ((((List.length a0.2.2.2.2.2.2.2.1) : Nat) : Int) > (32 : Int)))
 (some (encRes ro_z0t rh_z0t ((false, ()), ())))
 (L_z0t_0 n
  (fun y11 => L_z0t_2 n
  (fun y12 => some (encRes ro_z0t rh_z0t ((y12, ()), ())))
  (fun _ => some (encRes ro_z0t rh_z0t ((true, ()), ())))
  y11
  a0
  n
  (0 : Int))
  a0
  n
  (1 : Int)
  (0 : Int))))))
 (cond (a0.2.2.2.2.2.2.1 != (0 : Int))
 (cond (decide (a0.2.2.2.2.2.2.1 < (1 : Int)))
 (some (encRes ro_z0t rh_z0t ((false, ()), ())))
 (cond (decide (a0.2.2.2.2.2.2.1 > (32 : Int)))
 (some (encRes ro_z0t rh_z0t ((false, ()), ())))
 (cond (decide (a0.2.2.2.2.2.1 < (0 : Int)))
 (some (encRes ro_z0t rh_z0t ((false, ()), ())))
 (cond (decide (a0.2.2.2.2.2.1 > (2048 : Int)))
 (some (encRes ro_z0t rh_z0t ((false, ()), ())))
 (cond (decide ((((List.length a0.2.2.2.2.2.2.2.1) : Nat) : Int) > (32 : Int)))
 (some (encRes ro_z0t rh_z0t ((false, ()), ())))
 (L_z0t_0 n
  (fun y13 => L_z0t_2 n
  (fun y14 => some (encRes ro_z0t rh_z0t ((y14, ()), ())))
  (fun _ => some (encRes ro_z0t rh_z0t ((true, ()), ())))
  y13
  a0
  n
  (0 : Int))
  a0
  n
  (1 : Int)
  (0 : Int)))))))
 (cond (decide ((((List.length a0.2.2.2.2.2.2.2.1) : Nat) : Int) > (32 : Int)))
 (some (encRes ro_z0t rh_z0t ((false, ()), ())))
 (L_z0t_0 n
  (fun y15 => L_z0t_2 n
  (fun y16 => some (encRes ro_z0t rh_z0t ((y16, ()), ())))
  (fun _ => some (encRes ro_z0t rh_z0t ((true, ()), ())))
  y15
  a0
  n
  (0 : Int))
  a0
  n
  (1 : Int)
  (0 : Int))))))))
 (cond (a0.2.2.2.1 != (0 : Int))
 (cond (decide (a0.2.2.2.1 < (1 : Int)))
 (some (encRes ro_z0t rh_z0t ((false, ()), ())))
 (cond (decide (a0.2.2.2.1 > (16 : Int)))
 (some (encRes ro_z0t rh_z0t ((false, ()), ())))
 (cond (decide (a0.2.2.2.2.1 < (1 : Int)))
 (some (encRes ro_z0t rh_z0t ((false, ()), ())))
 (cond (decide (a0.2.2.2.2.1 > (256 : Int)))
 (some (encRes ro_z0t rh_z0t ((false, ()), ())))
 (cond (decide (a0.2.2.1 < (0 : Int)))
 (some (encRes ro_z0t rh_z0t ((false, ()), ())))
 (cond (decide (a0.2.2.1 > (2048 : Int)))
 (some (encRes ro_z0t rh_z0t ((false, ()), ())))
 (cond (a0.2.2.2.2.2.2.1 == (0 : Int))
 (cond (a0.2.2.2.2.2.1 != (0 : Int))
 (some (encRes ro_z0t rh_z0t ((false, ()), ())))
 (cond (decide ((((List.length a0.2.2.2.2.2.2.2.1) : Nat) : Int) > (0 : Int)))
 (some (encRes ro_z0t rh_z0t ((false, ()), ())))
 (cond (a0.2.2.2.2.2.2.1 != (0 : Int))
 (cond (decide (a0.2.2.2.2.2.2.1 < (1 : Int)))
 (some (encRes ro_z0t rh_z0t ((false, ()), ())))
 (cond (decide (a0.2.2.2.2.2.2.1 > (32 : Int)))
 (some (encRes ro_z0t rh_z0t ((false, ()), ())))
 (cond (decide (a0.2.2.2.2.2.1 < (0 : Int)))
 (some (encRes ro_z0t rh_z0t ((false, ()), ())))
 (cond (decide (a0.2.2.2.2.2.1 > (2048 : Int)))
 (some (encRes ro_z0t rh_z0t ((false, ()), ())))
 (cond (decide ((((List.length a0.2.2.2.2.2.2.2.1) : Nat) : Int) > (32 : Int)))
 (some (encRes ro_z0t rh_z0t ((false, ()), ())))
 (L_z0t_0 n
  (fun y17 => L_z0t_2 n
  (fun y18 => some (encRes ro_z0t rh_z0t ((y18, ()), ())))
  (fun _ => some (encRes ro_z0t rh_z0t ((true, ()), ())))
  y17
  a0
  n
  (0 : Int))
  a0
  n
  (1 : Int)
  (0 : Int)))))))
 (cond (decide ((((List.length a0.2.2.2.2.2.2.2.1) : Nat) : Int) > (32 : Int)))
 (some (encRes ro_z0t rh_z0t ((false, ()), ())))
 (L_z0t_0 n
  (fun y19 => L_z0t_2 n
  (fun y20 => some (encRes ro_z0t rh_z0t ((y20, ()), ())))
  (fun _ => some (encRes ro_z0t rh_z0t ((true, ()), ())))
  y19
  a0
  n
  (0 : Int))
  a0
  n
  (1 : Int)
  (0 : Int))))))
 (cond (a0.2.2.2.2.2.2.1 != (0 : Int))
 (cond (decide (a0.2.2.2.2.2.2.1 < (1 : Int)))
 (some (encRes ro_z0t rh_z0t ((false, ()), ())))
 (cond (decide (a0.2.2.2.2.2.2.1 > (32 : Int)))
 (some (encRes ro_z0t rh_z0t ((false, ()), ())))
 (cond (decide (a0.2.2.2.2.2.1 < (0 : Int)))
 (some (encRes ro_z0t rh_z0t ((false, ()), ())))
 (cond (decide (a0.2.2.2.2.2.1 > (2048 : Int)))
 (some (encRes ro_z0t rh_z0t ((false, ()), ())))
 (cond (decide ((((List.length a0.2.2.2.2.2.2.2.1) : Nat) : Int) > (32 : Int)))
 (some (encRes ro_z0t rh_z0t ((false, ()), ())))
 (L_z0t_0 n
  (fun y21 => L_z0t_2 n
  (fun y22 => some (encRes ro_z0t rh_z0t ((y22, ()), ())))
  (fun _ => some (encRes ro_z0t rh_z0t ((true, ()), ())))
  y21
  a0
  n
  (0 : Int))
  a0
  n
  (1 : Int)
  (0 : Int)))))))
 (cond (decide ((((List.length a0.2.2.2.2.2.2.2.1) : Nat) : Int) > (32 : Int)))
 (some (encRes ro_z0t rh_z0t ((false, ()), ())))
 (L_z0t_0 n
  (fun y23 => L_z0t_2 n
  (fun y24 => some (encRes ro_z0t rh_z0t ((y24, ()), ())))
  (fun _ => some (encRes ro_z0t rh_z0t ((true, ()), ())))
  y23
  a0
  n
  (0 : Int))
  a0
  n
  (1 : Int)
  (0 : Int)))))))))))
 (cond (a0.2.2.2.2.2.2.1 == (0 : Int))
 (cond (a0.2.2.2.2.2.1 != (0 : Int))
 (some (encRes ro_z0t rh_z0t ((false, ()), ())))
 (cond (decide ((((List.length a0.2.2.2.2.2.2.2.1) : Nat) : Int) > (0 : Int)))
 (some (encRes ro_z0t rh_z0t ((false, ()), ())))
 (cond (a0.2.2.2.2.2.2.1 != (0 : Int))
 (cond (decide (a0.2.2.2.2.2.2.1 < (1 : Int)))
 (some (encRes ro_z0t rh_z0t ((false, ()), ())))
 (cond (decide (a0.2.2.2.2.2.2.1 > (32 : Int)))
 (some (encRes ro_z0t rh_z0t ((false, ()), ())))
 (cond (decide (a0.2.2.2.2.2.1 < (0 : Int)))
 (some (encRes ro_z0t rh_z0t ((false, ()), ())))
 (cond (decide (a0.2.2.2.2.2.1 > (2048 : Int)))
 (some (encRes ro_z0t rh_z0t ((false, ()), ())))
 (cond (decide ((((List.length a0.2.2.2.2.2.2.2.1) : Nat) : Int) > (32 : Int)))
 (some (encRes ro_z0t rh_z0t ((false, ()), ())))
 (L_z0t_0 n
  (fun y25 => L_z0t_2 n
  (fun y26 => some (encRes ro_z0t rh_z0t ((y26, ()), ())))
  (fun _ => some (encRes ro_z0t rh_z0t ((true, ()), ())))
  y25
  a0
  n
  (0 : Int))
  a0
  n
  (1 : Int)
  (0 : Int)))))))
 (cond (decide ((((List.length a0.2.2.2.2.2.2.2.1) : Nat) : Int) > (32 : Int)))
 (some (encRes ro_z0t rh_z0t ((false, ()), ())))
 (L_z0t_0 n
  (fun y27 => L_z0t_2 n
  (fun y28 => some (encRes ro_z0t rh_z0t ((y28, ()), ())))
  (fun _ => some (encRes ro_z0t rh_z0t ((true, ()), ())))
  y27
  a0
  n
  (0 : Int))
  a0
  n
  (1 : Int)
  (0 : Int))))))
 (cond (a0.2.2.2.2.2.2.1 != (0 : Int))
 (cond (decide (a0.2.2.2.2.2.2.1 < (1 : Int)))
 (some (encRes ro_z0t rh_z0t ((false, ()), ())))
 (cond (decide (a0.2.2.2.2.2.2.1 > (32 : Int)))
 (some (encRes ro_z0t rh_z0t ((false, ()), ())))
 (cond (decide (a0.2.2.2.2.2.1 < (0 : Int)))
 (some (encRes ro_z0t rh_z0t ((false, ()), ())))
 (cond (decide (a0.2.2.2.2.2.1 > (2048 : Int)))
 (some (encRes ro_z0t rh_z0t ((false, ()), ())))
 (cond (decide ((((List.length a0.2.2.2.2.2.2.2.1) : Nat) : Int) > (32 : Int)))
 (some (encRes ro_z0t rh_z0t ((false, ()), ())))
 (L_z0t_0 n
  (fun y29 => L_z0t_2 n
  (fun y30 => some (encRes ro_z0t rh_z0t ((y30, ()), ())))
  (fun _ => some (encRes ro_z0t rh_z0t ((true, ()), ())))
  y29
  a0
  n
  (0 : Int))
  a0
  n
  (1 : Int)
  (0 : Int)))))))
 (cond (decide ((((List.length a0.2.2.2.2.2.2.2.1) : Nat) : Int) > (32 : Int)))
 (some (encRes ro_z0t rh_z0t ((false, ()), ())))
 (L_z0t_0 n
  (fun y31 => L_z0t_2 n
  (fun y32 => some (encRes ro_z0t rh_z0t ((y32, ()), ())))
  (fun _ => some (encRes ro_z0t rh_z0t ((true, ()), ())))
  y31
  a0
  n
  (0 : Int))
  a0
  n
  (1 : Int)
  (0 : Int))))))))))))
noncomputable def Q_z0t (a0 : NodeS) : Option (RS ro_z0t rh_z0t) := decRes ro_z0t rh_z0t (M_z0t FUEL a0)
noncomputable def ok_z0t (a0 : NodeS) : Bool := (Q_z0t a0).isSome
noncomputable def q_z0t (a0 : NodeS) : RS ro_z0t rh_z0t := RS.get (Q_z0t a0)
/-! z0u: turnoutref15_Goes -/
abbrev ro_z0u : List EK := [.hs 0 0]
abbrev rh_z0u : List HK := [.row (.int .i64)]
noncomputable def F_z0u_0 (n : Nat) (k_t0 : Nat → (List Int) → Option Res) (x0_2 : NodeS) (rec : Nat → Int → (List Int) → Option Res) (x0_0 : Nat) (x0_1 : Int) (x0_3 : (List Int)) : Option Res :=
 cond (decide (x0_1 < (((List.length x0_2.2.2.2.2.2.2.2.1) : Nat) : Int)))
 (cond (decide ((0 : Int) ≤ x0_1 ∧ x0_1 < (((List.length x0_2.2.2.2.2.2.2.2.1) : Nat) : Int)))
 (cond (decide (((List.length (cutL (0 : Int) x0_3 0 x0_0)) + 1) * 8 ≤ 2 ^ 46 ∧ ((List.length (cutL (0 : Int) x0_3 0 x0_0)) + 1) ≤ 2 ^ 46))
 (rec ((List.length (cutL (0 : Int) x0_3 0 x0_0)) + 1) (IntKind.wrap .i64 (x0_1 + (1 : Int))) ((cutL (0 : Int) x0_3 0 x0_0) ++ [(rdd zArmS x0_2.2.2.2.2.2.2.2.1 (Int.toNat x0_1)).2.1]))
 (none))
 (none))
 (k_t0 x0_0 x0_3)
noncomputable def L_z0u_0 (n : Nat) (k_t0 : Nat → (List Int) → Option Res) (x0_2 : NodeS) : Nat → Nat → Int → (List Int) → Option Res
  | 0, _, _, _ => none
  | m + 1, x0_0, x0_1, x0_3 => F_z0u_0 n k_t0 x0_2 (L_z0u_0 n k_t0 x0_2 m) x0_0 x0_1 x0_3
noncomputable def M_z0u (n : Nat) (a0 : NodeS) : Option Res :=
 L_z0u_0 n
  (fun y1 y2 => cond (decide (((List.length (cutL (0 : Int) y2 0 y1)) + 1) * 8 ≤ 2 ^ 46 ∧ ((List.length (cutL (0 : Int) y2 0 y1)) + 1) ≤ 2 ^ 46))
 (some (encRes ro_z0u rh_z0u ((((List.length (cutL (0 : Int) y2 0 y1)) + 1), ()), (((cutL (0 : Int) y2 0 y1) ++ [a0.2.2.2.2.2.2.2.2.1]), ()))))
 (none))
  a0
  n
  0
  (0 : Int)
  ([])
noncomputable def Q_z0u (a0 : NodeS) : Option (RS ro_z0u rh_z0u) := decRes ro_z0u rh_z0u (M_z0u FUEL a0)
noncomputable def ok_z0u (a0 : NodeS) : Bool := (Q_z0u a0).isSome
noncomputable def q_z0u (a0 : NodeS) : RS ro_z0u rh_z0u := RS.get (Q_z0u a0)
/-! z0v: turnoutlaw24_tower -/
abbrev ro_z0v : List EK := [.agg ConfigT]
abbrev rh_z0v : List HK := []
noncomputable def F_z0v_2 (n : Nat) (k_t2 : Nat → (List BucketS) → Option Res) (x2_0 : Int) (x2_3 : Int) (rec : Int → Nat → (List BucketS) → Option Res) (x2_4 : Int) (x2_30 : Nat) (x2_31 : (List BucketS)) : Option Res :=
 cond (decide (x2_4 < x2_0))
 (cond (decide (((List.length (cutL zBucketS x2_31 0 x2_30)) + 1) * 16 ≤ 2 ^ 46 ∧ ((List.length (cutL zBucketS x2_31 0 x2_30)) + 1) ≤ 2 ^ 46))
 (rec (IntKind.wrap .i64 (x2_4 + (1 : Int))) ((List.length (cutL zBucketS x2_31 0 x2_30)) + 1) ((cutL zBucketS x2_31 0 x2_30) ++ [((0 : Int), ((IntKind.wrap .i64 (x2_3 + (1 : Int))), ()))]))
 (none))
 (k_t2 x2_30 x2_31)
noncomputable def L_z0v_2 (n : Nat) (k_t2 : Nat → (List BucketS) → Option Res) (x2_0 : Int) (x2_3 : Int) : Nat → Int → Nat → (List BucketS) → Option Res
  | 0, _, _, _ => none
  | m + 1, x2_4, x2_30, x2_31 => F_z0v_2 n k_t2 x2_0 x2_3 (L_z0v_2 n k_t2 x2_0 x2_3 m) x2_4 x2_30 x2_31
noncomputable def F_z0v_0 (n : Nat) (k_t0 : Nat → Nat → (List BlockS) → (List GroupS) → Option Res) (x0_0 : Int) (x0_1 : Int) (rec : Int → Nat → Nat → (List BlockS) → (List GroupS) → Option Res) (x0_3 : Int) (x0_19 : Nat) (x0_20 : Nat) (x0_24 : (List BlockS)) (x0_25 : (List GroupS)) : Option Res :=
 cond (decide (x0_3 ≤ x0_1))
 (cond (decide (((List.length (cutL zBlockS x0_24 0 x0_19)) + 1) * 32 ≤ 2 ^ 46 ∧ ((List.length (cutL zBlockS x0_24 0 x0_19)) + 1) ≤ 2 ^ 46))
 (L_z0v_2 n
  (fun y1 y2 => cond (decide (((List.length (cutL zGroupS x0_25 0 x0_20)) + 1) * 48 ≤ 2 ^ 46 ∧ ((List.length (cutL zGroupS x0_25 0 x0_20)) + 1) ≤ 2 ^ 46))
 (rec (IntKind.wrap .i64 (x0_3 + (1 : Int))) ((List.length (cutL zBlockS x0_24 0 x0_19)) + 1) ((List.length (cutL zGroupS x0_25 0 x0_20)) + 1) ((cutL zBlockS x0_24 0 x0_19) ++ [(x0_3, ([((14 : Int), ((0 : Int), (((0 : Int), ((0 : Int), ())), (((0 : Int), ((0 : Int), ())), (x0_3, ())))))], ()))]) ((cutL zGroupS x0_25 0 x0_20) ++ [(x0_3, ((1 : Int), ((0 : Int), ((cutL zBucketS y2 0 y1), ()))))]))
 (none))
  x0_0
  x0_3
  n
  (0 : Int)
  0
  ([]))
 (none))
 (k_t0 x0_19 x0_20 x0_24 x0_25)
noncomputable def L_z0v_0 (n : Nat) (k_t0 : Nat → Nat → (List BlockS) → (List GroupS) → Option Res) (x0_0 : Int) (x0_1 : Int) : Nat → Int → Nat → Nat → (List BlockS) → (List GroupS) → Option Res
  | 0, _, _, _, _, _ => none
  | m + 1, x0_3, x0_19, x0_20, x0_24, x0_25 => F_z0v_0 n k_t0 x0_0 x0_1 (L_z0v_0 n k_t0 x0_0 x0_1 m) x0_3 x0_19 x0_20 x0_24 x0_25
noncomputable def M_z0v (n : Nat) (a0 : Int) (a1 : Int) (a2 : Int) : Option Res :=
 L_z0v_0 n
  (fun y3 y4 y5 y6 => cond (decide ((0 : Int) ≤ a2 ∧ a2 ≤ a2 ∧ (56 : Nat) * a2 ≤ (2 : Int) ^ 46))
 (cond (decide (((List.length (cutL zBlockS y5 0 y3)) + 1) * 32 ≤ 2 ^ 46 ∧ ((List.length (cutL zBlockS y5 0 y3)) + 1) ≤ 2 ^ 46))
 (some (encRes ro_z0v rh_z0v (((([]), (([]), (([((1 : Int), ((0 : Int), ([], ((0 : Int), ((1 : Int), ())))))]), (([]), ((cutL zBlockS ((cutL zBlockS y5 0 y3) ++ [((IntKind.wrap .i64 (a1 + (1 : Int))), ((mkL (Int.toNat a2) (fun i => ((0 : Int), ((0 : Int), (((0 : Int), ((0 : Int), ())), (((0 : Int), ((0 : Int), ())), ((0 : Int), ()))))))), ()))]) 0 ((List.length (cutL zBlockS y5 0 y3)) + 1)), ((cutL zGroupS y6 0 y4), (([]), (([]), (([]), ()))))))))), ()), ())))
 (none))
 (none))
  a0
  a1
  n
  (1 : Int)
  0
  0
  ([])
  ([])
noncomputable def Q_z0v (a0 : Int) (a1 : Int) (a2 : Int) : Option (RS ro_z0v rh_z0v) := decRes ro_z0v rh_z0v (M_z0v FUEL a0 a1 a2)
noncomputable def ok_z0v (a0 : Int) (a1 : Int) (a2 : Int) : Bool := (Q_z0v a0 a1 a2).isSome
noncomputable def q_z0v (a0 : Int) (a1 : Int) (a2 : Int) : RS ro_z0v rh_z0v := RS.get (Q_z0v a0 a1 a2)
/-! z0w: turnoutlaw24_BoundNames -/
abbrev ro_z0w : List EK := [.ty .bool]
abbrev rh_z0w : List HK := []
noncomputable def M_z0w (n : Nat) (qr_z0s : Option (RS ro_z0s rh_z0s)) (qr_z0r : ConfigS → Option (RS ro_z0r rh_z0r)) (qr_z01 : (List Int) → Option (RS ro_z01 rh_z01)) (qr_z0d : Int → Int → Int → Option (RS ro_z0d rh_z0d)) (qr_z0v : Int → Int → Int → Option (RS ro_z0v rh_z0v)) : Option Res :=
 let y1 : ((Bool × Unit) × Unit) := (RS.get (qr_z0s))
 cond (Option.isSome (qr_z0s))
 (cond (!y1.1.1)
 (some (encRes ro_z0w rh_z0w ((false, ()), ())))
 (let y2 : ((Int × (Int × Unit)) × Unit) := (RS.get (qr_z0r ([], ([], ([], ([], ([], ([], ([], ([], ([], ())))))))))))
 cond (Option.isSome (qr_z0r ([], ([], ([], ([], ([], ([], ([], ([], ([], ())))))))))))
 (let y3 : ((Int × (Int × Unit)) × Unit) := (RS.get (qr_z0r ([((1 : Int), ((0 : Int), ((0 : Int), ((0 : Int), ((0 : Int), ((0 : Int), ((0 : Int), ([], ((2 : Int), ()))))))))), ((2 : Int), ((0 : Int), ((0 : Int), ((0 : Int), ((0 : Int), ((0 : Int), ((0 : Int), ([], ((0 : Int), ()))))))))), ((3 : Int), ((0 : Int), ((0 : Int), ((0 : Int), ((0 : Int), ((0 : Int), ((0 : Int), ([], ((0 : Int), ())))))))))], ([], ([], ([], ([], ([], ([], ([], ([], ())))))))))))
 cond (Option.isSome (qr_z0r ([((1 : Int), ((0 : Int), ((0 : Int), ((0 : Int), ((0 : Int), ((0 : Int), ((0 : Int), ([], ((2 : Int), ()))))))))), ((2 : Int), ((0 : Int), ((0 : Int), ((0 : Int), ((0 : Int), ((0 : Int), ((0 : Int), ([], ((0 : Int), ()))))))))), ((3 : Int), ((0 : Int), ((0 : Int), ((0 : Int), ((0 : Int), ((0 : Int), ((0 : Int), ([], ((0 : Int), ())))))))))], ([], ([], ([], ([], ([], ([], ([], ([], ())))))))))))
 (let y4 : ((Int × (Int × Unit)) × Unit) := (RS.get (qr_z0r ([], ([], ([((2 : Int), ((0 : Int), ([], ((0 : Int), ((1 : Int), ()))))), ((1 : Int), ((0 : Int), ([], ((0 : Int), ((7 : Int), ())))))], ([], ([], ([], ([], ([], ([], ())))))))))))
 cond (Option.isSome (qr_z0r ([], ([], ([((2 : Int), ((0 : Int), ([], ((0 : Int), ((1 : Int), ()))))), ((1 : Int), ((0 : Int), ([], ((0 : Int), ((7 : Int), ())))))], ([], ([], ([], ([], ([], ([], ())))))))))))
 (let y5 : ((Nat × Unit) × ((List InstrS) × Unit)) := (RS.get (qr_z01 ([(23 : Int), (20 : Int), (20 : Int)])))
 cond (Option.isSome (qr_z01 ([(23 : Int), (20 : Int), (20 : Int)])))
 (let y6 : ((Nat × Unit) × ((List InstrS) × Unit)) := (RS.get (qr_z01 ([(12 : Int), (23 : Int), (20 : Int), (22 : Int), (20 : Int)])))
 cond (Option.isSome (qr_z01 ([(12 : Int), (23 : Int), (20 : Int), (22 : Int), (20 : Int)])))
 (cond (decide ((0 : Int) ≤ (9 : Int) ∧ (9 : Int) ≤ (9 : Int) ∧ (56 : Nat) * (9 : Int) ≤ (2 : Int) ^ 46))
 (let y7 : ((Int × (Int × Unit)) × Unit) := (RS.get (qr_z0r ([], ([], ([((1 : Int), ((0 : Int), ([], ((0 : Int), ((0 : Int), ())))))], ([((1 : Int), (ByteArray.empty, (ByteArray.empty, ((0 : Int), ((0 : Int), ((1 : Int), ([], ((0 : Int), ((0 : Int), ((0 : Int), (false, ()))))))))))), ((1 : Int), (ByteArray.empty, (ByteArray.empty, ((0 : Int), ((0 : Int), ((2 : Int), ([], ((0 : Int), ((0 : Int), ((0 : Int), (false, ()))))))))))), ((2 : Int), (ByteArray.empty, (ByteArray.empty, ((0 : Int), ((0 : Int), ((3 : Int), ([], ((0 : Int), ((0 : Int), ((0 : Int), (false, ())))))))))))], ([((1 : Int), ((cutL zInstrS y5.2.1 0 y5.1.1), ())), ((2 : Int), ((cutL zInstrS y6.2.1 0 y6.1.1), ())), ((3 : Int), ((mkL (Int.toNat (9 : Int)) (fun i => ((0 : Int), ((0 : Int), (((0 : Int), ((0 : Int), ())), (((0 : Int), ((0 : Int), ())), ((0 : Int), ()))))))), ()))], ([], ([], ([], ([], ())))))))))))
 cond (Option.isSome (qr_z0r ([], ([], ([((1 : Int), ((0 : Int), ([], ((0 : Int), ((0 : Int), ())))))], ([((1 : Int), (ByteArray.empty, (ByteArray.empty, ((0 : Int), ((0 : Int), ((1 : Int), ([], ((0 : Int), ((0 : Int), ((0 : Int), (false, ()))))))))))), ((1 : Int), (ByteArray.empty, (ByteArray.empty, ((0 : Int), ((0 : Int), ((2 : Int), ([], ((0 : Int), ((0 : Int), ((0 : Int), (false, ()))))))))))), ((2 : Int), (ByteArray.empty, (ByteArray.empty, ((0 : Int), ((0 : Int), ((3 : Int), ([], ((0 : Int), ((0 : Int), ((0 : Int), (false, ())))))))))))], ([((1 : Int), ((cutL zInstrS y5.2.1 0 y5.1.1), ())), ((2 : Int), ((cutL zInstrS y6.2.1 0 y6.1.1), ())), ((3 : Int), ((mkL (Int.toNat (9 : Int)) (fun i => ((0 : Int), ((0 : Int), (((0 : Int), ((0 : Int), ())), (((0 : Int), ((0 : Int), ())), ((0 : Int), ()))))))), ()))], ([], ([], ([], ([], ())))))))))))
 (let y8 : ((Bool × Unit) × Unit) := (RS.get (qr_z0d y2.1.1 y2.1.2.1 (0 : Int)))
 cond (Option.isSome (qr_z0d y2.1.1 y2.1.2.1 (0 : Int)))
 (cond (!y8.1.1)
 (some (encRes ro_z0w rh_z0w ((false, ()), ())))
 (let y9 : ((Bool × Unit) × Unit) := (RS.get (qr_z0d y3.1.1 y3.1.2.1 (2 : Int)))
 cond (Option.isSome (qr_z0d y3.1.1 y3.1.2.1 (2 : Int)))
 (cond (!y9.1.1)
 (some (encRes ro_z0w rh_z0w ((false, ()), ())))
 (let y10 : ((Bool × Unit) × Unit) := (RS.get (qr_z0d y4.1.1 y4.1.2.1 (1 : Int)))
 cond (Option.isSome (qr_z0d y4.1.1 y4.1.2.1 (1 : Int)))
 (cond (!y10.1.1)
 (some (encRes ro_z0w rh_z0w ((false, ()), ())))
 (let y11 : ((Bool × Unit) × Unit) := (RS.get (qr_z0d y7.1.1 y7.1.2.1 (4 : Int)))
 cond (Option.isSome (qr_z0d y7.1.1 y7.1.2.1 (4 : Int)))
 (cond (!y11.1.1)
 (some (encRes ro_z0w rh_z0w ((false, ()), ())))
 (let y12 : ((ConfigS × Unit) × Unit) := (RS.get (qr_z0v (2 : Int) (2 : Int) (3 : Int)))
 cond (Option.isSome (qr_z0v (2 : Int) (2 : Int) (3 : Int)))
 (let y13 : ((Int × (Int × Unit)) × Unit) := (RS.get (qr_z0r y12.1.1))
 cond (Option.isSome (qr_z0r y12.1.1))
 (let y14 : ((ConfigS × Unit) × Unit) := (RS.get (qr_z0v (16 : Int) (8 : Int) (5 : Int)))
 cond (Option.isSome (qr_z0v (16 : Int) (8 : Int) (5 : Int)))
 (let y15 : ((Int × (Int × Unit)) × Unit) := (RS.get (qr_z0r y14.1.1))
 cond (Option.isSome (qr_z0r y14.1.1))
 (let y16 : ((ConfigS × Unit) × Unit) := (RS.get (qr_z0v (2 : Int) (15 : Int) (0 : Int)))
 cond (Option.isSome (qr_z0v (2 : Int) (15 : Int) (0 : Int)))
 (let y17 : ((Int × (Int × Unit)) × Unit) := (RS.get (qr_z0r y16.1.1))
 cond (Option.isSome (qr_z0r y16.1.1))
 (let y18 : ((ConfigS × Unit) × Unit) := (RS.get (qr_z0v (256 : Int) (1 : Int) (255 : Int)))
 cond (Option.isSome (qr_z0v (256 : Int) (1 : Int) (255 : Int)))
 (let y19 : ((Int × (Int × Unit)) × Unit) := (RS.get (qr_z0r y18.1.1))
 cond (Option.isSome (qr_z0r y18.1.1))
 (let y20 : ((ConfigS × Unit) × Unit) := (RS.get (qr_z0v (256 : Int) (1 : Int) (256 : Int)))
 cond (Option.isSome (qr_z0v (256 : Int) (1 : Int) (256 : Int)))
 (let y21 : ((Int × (Int × Unit)) × Unit) := (RS.get (qr_z0r y20.1.1))
 cond (Option.isSome (qr_z0r y20.1.1))
 (let y22 : ((Bool × Unit) × Unit) := (RS.get (qr_z0d y13.1.1 y13.1.2.1 (16 : Int)))
 cond (Option.isSome (qr_z0d y13.1.1 y13.1.2.1 (16 : Int)))
 (cond y22.1.1
 (let y23 : ((Bool × Unit) × Unit) := (RS.get (qr_z0d y15.1.1 y15.1.2.1 (65537 : Int)))
 cond (Option.isSome (qr_z0d y15.1.1 y15.1.2.1 (65537 : Int)))
 (cond y23.1.1
 (let y24 : ((Bool × Unit) × Unit) := (RS.get (qr_z0d y17.1.1 y17.1.2.1 (32768 : Int)))
 cond (Option.isSome (qr_z0d y17.1.1 y17.1.2.1 (32768 : Int)))
 (cond y24.1.1
 (let y25 : ((Bool × Unit) × Unit) := (RS.get (qr_z0d y19.1.1 y19.1.2.1 (65282 : Int)))
 cond (Option.isSome (qr_z0d y19.1.1 y19.1.2.1 (65282 : Int)))
 (cond y25.1.1
 (let y26 : ((Bool × Unit) × Unit) := (RS.get (qr_z0d y21.1.1 y21.1.2.1 (65537 : Int)))
 cond (Option.isSome (qr_z0d y21.1.1 y21.1.2.1 (65537 : Int)))
 (some (encRes ro_z0w rh_z0w ((y26.1.1, ()), ())))
 (none))
 (some (encRes ro_z0w rh_z0w ((false, ()), ()))))
 (none))
 (some (encRes ro_z0w rh_z0w ((false, ()), ()))))
 (none))
 (some (encRes ro_z0w rh_z0w ((false, ()), ()))))
 (none))
 (some (encRes ro_z0w rh_z0w ((false, ()), ()))))
 (none))
 (none))
 (none))
 (none))
 (none))
 (none))
 (none))
 (none))
 (none))
 (none))
 (none)))
 (none)))
 (none)))
 (none)))
 (none))
 (none))
 (none))
 (none))
 (none))
 (none))
 (none))
 (none)))
 (none)
noncomputable def Q_z0w (qr_z0s : Option (RS ro_z0s rh_z0s)) (qr_z0r : ConfigS → Option (RS ro_z0r rh_z0r)) (qr_z01 : (List Int) → Option (RS ro_z01 rh_z01)) (qr_z0d : Int → Int → Int → Option (RS ro_z0d rh_z0d)) (qr_z0v : Int → Int → Int → Option (RS ro_z0v rh_z0v)) : Option (RS ro_z0w rh_z0w) := decRes ro_z0w rh_z0w (M_z0w FUEL qr_z0s qr_z0r qr_z01 qr_z0d qr_z0v)
noncomputable def ok_z0w (qr_z0s : Option (RS ro_z0s rh_z0s)) (qr_z0r : ConfigS → Option (RS ro_z0r rh_z0r)) (qr_z01 : (List Int) → Option (RS ro_z01 rh_z01)) (qr_z0d : Int → Int → Int → Option (RS ro_z0d rh_z0d)) (qr_z0v : Int → Int → Int → Option (RS ro_z0v rh_z0v)) : Bool := (Q_z0w qr_z0s qr_z0r qr_z01 qr_z0d qr_z0v).isSome
noncomputable def q_z0w (qr_z0s : Option (RS ro_z0s rh_z0s)) (qr_z0r : ConfigS → Option (RS ro_z0r rh_z0r)) (qr_z01 : (List Int) → Option (RS ro_z01 rh_z01)) (qr_z0d : Int → Int → Int → Option (RS ro_z0d rh_z0d)) (qr_z0v : Int → Int → Int → Option (RS ro_z0v rh_z0v)) : RS ro_z0w rh_z0w := RS.get (Q_z0w qr_z0s qr_z0r qr_z01 qr_z0d qr_z0v)
/-! z0x: turnoutlaw24_BoundParts -/
abbrev ro_z0x : List EK := [.ty .bool]
abbrev rh_z0x : List HK := []
noncomputable def F_z0x_0 (n : Nat) (k_t0 : Unit → Option Res) (k_r : Bool → Option Res) (x0_0 : Int) (x0_2 : ConfigS) (rec : Int → Option Res) (x0_1 : Int) : Option Res :=
 cond (decide (x0_1 < (((List.length x0_2.2.2.2.2.1) : Nat) : Int)))
 (cond (decide ((0 : Int) ≤ x0_1 ∧ x0_1 < (((List.length x0_2.2.2.2.2.1) : Nat) : Int)))
 (cond (decide ((0 : Int) ≤ x0_1 ∧ x0_1 < (((List.length x0_2.2.2.2.2.1) : Nat) : Int)))
 (cond ((rdd zBlockS x0_2.2.2.2.2.1 (Int.toNat x0_1)).1 != x0_0)
 (rec (IntKind.wrap .i64 (x0_1 + (1 : Int))))
 (cond ((((List.length (rdd zBlockS x0_2.2.2.2.2.1 (Int.toNat x0_1)).2.1) : Nat) : Int) == (0 : Int))
 (k_t0 ())
 (cond (decide ((0 : Int) ≤ (0 : Int) ∧ (0 : Int) < (((List.length (rdd zBlockS x0_2.2.2.2.2.1 (Int.toNat x0_1)).2.1) : Nat) : Int)))
 (cond ((rdd zInstrS (rdd zBlockS x0_2.2.2.2.2.1 (Int.toNat x0_1)).2.1 0).1 == (12 : Int))
 (k_t0 ())
 (let y7 : ((Int × (Int × Unit)) × Unit) := (q_z0a x0_2 x0_0)
 cond (ok_z0a x0_2 x0_0)
 (cond (decide ((0 : Int) ≤ (0 : Int) ∧ (0 : Int) < (((List.length (rdd zBlockS x0_2.2.2.2.2.1 (Int.toNat x0_1)).2.1) : Nat) : Int)))
 (cond ((rdd zInstrS (rdd zBlockS x0_2.2.2.2.2.1 (Int.toNat x0_1)).2.1 0).1 == (13 : Int))
 (cond (decide ((0 : Int) ≤ (0 : Int) ∧ (0 : Int) < (((List.length (rdd zBlockS x0_2.2.2.2.2.1 (Int.toNat x0_1)).2.1) : Nat) : Int)))
 (let y8 : ((Int × (Int × Unit)) × Unit) := (q_z0b x0_2 ((rdd zInstrS (rdd zBlockS x0_2.2.2.2.2.1 (Int.toNat x0_1)).2.1 0).2.2.2.2.1))
 cond (ok_z0b x0_2 ((rdd zInstrS (rdd zBlockS x0_2.2.2.2.2.1 (Int.toNat x0_1)).2.1 0).2.2.2.2.1))
 (let y9 : Int := (if (IntKind.wrap .i64 ((1 : Int) + y8.1.1)) < (65537 : Int) then (IntKind.wrap .i64 ((1 : Int) + y8.1.1)) else (65537 : Int))
 k_r (y7.1.1 == y9))
 (none))
 (none))
 (cond ((rdd zInstrS (rdd zBlockS x0_2.2.2.2.2.1 (Int.toNat x0_1)).2.1 0).1 == (14 : Int))
 (cond (decide ((0 : Int) ≤ (0 : Int) ∧ (0 : Int) < (((List.length (rdd zBlockS x0_2.2.2.2.2.1 (Int.toNat x0_1)).2.1) : Nat) : Int)))
 (let y10 : ((Int × (Int × Unit)) × Unit) := (q_z0c x0_2 ((rdd zInstrS (rdd zBlockS x0_2.2.2.2.2.1 (Int.toNat x0_1)).2.1 0).2.2.2.2.1))
 cond (ok_z0c x0_2 ((rdd zInstrS (rdd zBlockS x0_2.2.2.2.2.1 (Int.toNat x0_1)).2.1 0).2.2.2.2.1))
 (let y11 : Int := (if (IntKind.wrap .i64 ((1 : Int) + y10.1.1)) < (65537 : Int) then (IntKind.wrap .i64 ((1 : Int) + y10.1.1)) else (65537 : Int))
 k_r (y7.1.1 == y11))
 (none))
 (none))
 (cond ((rdd zInstrS (rdd zBlockS x0_2.2.2.2.2.1 (Int.toNat x0_1)).2.1 0).1 == (23 : Int))
 (let y12 : Int := (if (IntKind.wrap .i64 ((1 : Int) + (0 : Int))) < (65537 : Int) then (IntKind.wrap .i64 ((1 : Int) + (0 : Int))) else (65537 : Int))
 k_r (y7.1.1 == y12))
 (cond ((rdd zInstrS (rdd zBlockS x0_2.2.2.2.2.1 (Int.toNat x0_1)).2.1 0).1 == (22 : Int))
 (let y13 : Int := (if (IntKind.wrap .i64 ((1 : Int) + (0 : Int))) < (65537 : Int) then (IntKind.wrap .i64 ((1 : Int) + (0 : Int))) else (65537 : Int))
 k_r (y7.1.1 == y13))
 (cond (decide ((0 : Int) ≤ (1 : Int) ∧ (1 : Int) ≤ (((List.length (rdd zBlockS x0_2.2.2.2.2.1 (Int.toNat x0_1)).2.1) : Nat) : Int) ∧ (((List.length (rdd zBlockS x0_2.2.2.2.2.1 (Int.toNat x0_1)).2.1) : Nat) : Int) ≤ (((List.length (rdd zBlockS x0_2.2.2.2.2.1 (Int.toNat x0_1)).2.1) : Nat) : Int) ∧ (((List.length (rdd zBlockS x0_2.2.2.2.2.1 (Int.toNat x0_1)).2.1) : Nat) : Int) ≤ (((List.length (rdd zBlockS x0_2.2.2.2.2.1 (Int.toNat x0_1)).2.1) : Nat) : Int)))
 (cond ((List.length x0_2.2.2.2.2.1) == 0)
 (let y14 : ((Int × (Int × Unit)) × Unit) := (q_z0a (x0_2.1, (x0_2.2.1, (x0_2.2.2.1, (x0_2.2.2.2.1, ([(x0_0, ((cutL zInstrS (rdd zBlockS x0_2.2.2.2.2.1 (Int.toNat x0_1)).2.1 (Int.toNat (1 : Int)) (Int.toNat (((List.length (rdd zBlockS x0_2.2.2.2.2.1 (Int.toNat x0_1)).2.1) : Nat) : Int) - Int.toNat (1 : Int))), ()))], x0_2.2.2.2.2.2))))) x0_0)
 cond (ok_z0a (x0_2.1, (x0_2.2.1, (x0_2.2.2.1, (x0_2.2.2.2.1, ([(x0_0, ((cutL zInstrS (rdd zBlockS x0_2.2.2.2.2.1 (Int.toNat x0_1)).2.1 (Int.toNat (1 : Int)) (Int.toNat (((List.length (rdd zBlockS x0_2.2.2.2.2.1 (Int.toNat x0_1)).2.1) : Nat) : Int) - Int.toNat (1 : Int))), ()))], x0_2.2.2.2.2.2))))) x0_0)
 (let y15 : Int := (if (IntKind.wrap .i64 ((1 : Int) + y14.1.1)) < (65537 : Int) then (IntKind.wrap .i64 ((1 : Int) + y14.1.1)) else (65537 : Int))
 k_r (y7.1.1 == y15))
 (none))
 (cond (decide ((1 + (List.length x0_2.2.2.2.2.1)) * 32 ≤ 2 ^ 46 ∧ (1 + (List.length x0_2.2.2.2.2.1)) ≤ 2 ^ 46))
 (let y16 : ((Int × (Int × Unit)) × Unit) := (q_z0a (x0_2.1, (x0_2.2.1, (x0_2.2.2.1, (x0_2.2.2.2.1, ((mkL (1 + (List.length x0_2.2.2.2.2.1)) (fun i => (if i < 1 then (x0_0, ((cutL zInstrS (rdd zBlockS x0_2.2.2.2.2.1 (Int.toNat x0_1)).2.1 (Int.toNat (1 : Int)) (Int.toNat (((List.length (rdd zBlockS x0_2.2.2.2.2.1 (Int.toNat x0_1)).2.1) : Nat) : Int) - Int.toNat (1 : Int))), ())) else (rdd zBlockS x0_2.2.2.2.2.1 (i - 1))))), x0_2.2.2.2.2.2))))) x0_0)
 cond (ok_z0a (x0_2.1, (x0_2.2.1, (x0_2.2.2.1, (x0_2.2.2.2.1, ((mkL (1 + (List.length x0_2.2.2.2.2.1)) (fun i => (if i < 1 then (x0_0, ((cutL zInstrS (rdd zBlockS x0_2.2.2.2.2.1 (Int.toNat x0_1)).2.1 (Int.toNat (1 : Int)) (Int.toNat (((List.length (rdd zBlockS x0_2.2.2.2.2.1 (Int.toNat x0_1)).2.1) : Nat) : Int) - Int.toNat (1 : Int))), ())) else (rdd zBlockS x0_2.2.2.2.2.1 (i - 1))))), x0_2.2.2.2.2.2))))) x0_0)
 (let y17 : Int := (if (IntKind.wrap .i64 ((1 : Int) + y16.1.1)) < (65537 : Int) then (IntKind.wrap .i64 ((1 : Int) + y16.1.1)) else (65537 : Int))
 k_r (y7.1.1 == y17))
 (none))
 (none)))
 (none))))))
 (none))
 (none)))
 (none))))
 (none))
 (none))
 (k_t0 ())
noncomputable def L_z0x_0 (n : Nat) (k_t0 : Unit → Option Res) (k_r : Bool → Option Res) (x0_0 : Int) (x0_2 : ConfigS) : Nat → Int → Option Res
  | 0, _ => none
  | m + 1, x0_1 => F_z0x_0 n k_t0 k_r x0_0 x0_2 (L_z0x_0 n k_t0 k_r x0_0 x0_2 m) x0_1
noncomputable def F_z0x_5 (n : Nat) (k_t5 : Int → Option Res) (x5_0 : Int) (x5_4 : ConfigS) (rec : Int → Int → Option Res) (x5_2 : Int) (x5_3 : Int) : Option Res :=
 cond (decide (x5_3 < (((List.length x5_4.2.2.2.1) : Nat) : Int)))
 (cond (decide ((0 : Int) ≤ x5_3 ∧ x5_3 < (((List.length x5_4.2.2.2.1) : Nat) : Int)))
 (cond ((rdd zEntryS x5_4.2.2.2.1 (Int.toNat x5_3)).1 == x5_0)
 (cond (decide ((0 : Int) ≤ x5_3 ∧ x5_3 < (((List.length x5_4.2.2.2.1) : Nat) : Int)))
 (let y20 : ((Int × (Int × Unit)) × Unit) := (q_z0a x5_4 ((rdd zEntryS x5_4.2.2.2.1 (Int.toNat x5_3)).2.2.2.2.2.1))
 cond (ok_z0a x5_4 ((rdd zEntryS x5_4.2.2.2.1 (Int.toNat x5_3)).2.2.2.2.2.1))
 (rec (if y20.1.1 > x5_2 then y20.1.1 else x5_2) (IntKind.wrap .i64 (x5_3 + (1 : Int))))
 (none))
 (none))
 (rec x5_2 (IntKind.wrap .i64 (x5_3 + (1 : Int)))))
 (none))
 (k_t5 x5_2)
noncomputable def L_z0x_5 (n : Nat) (k_t5 : Int → Option Res) (x5_0 : Int) (x5_4 : ConfigS) : Nat → Int → Int → Option Res
  | 0, _, _ => none
  | m + 1, x5_2, x5_3 => F_z0x_5 n k_t5 x5_0 x5_4 (L_z0x_5 n k_t5 x5_0 x5_4 m) x5_2 x5_3
noncomputable def F_z0x_3 (n : Nat) (k_r : Bool → Option Res) (k_t3 : Unit → Option Res) (x3_0 : Int) (x3_2 : ConfigS) (rec : Int → Option Res) (x3_1 : Int) : Option Res :=
 cond (decide (x3_1 < (((List.length x3_2.2.2.1) : Nat) : Int)))
 (cond (decide ((0 : Int) ≤ x3_1 ∧ x3_1 < (((List.length x3_2.2.2.1) : Nat) : Int)))
 (cond ((rdd zTableS x3_2.2.2.1 (Int.toNat x3_1)).1 != x3_0)
 (rec (IntKind.wrap .i64 (x3_1 + (1 : Int))))
 (let y18 : ((Int × (Int × Unit)) × Unit) := (q_z0b x3_2 x3_0)
 cond (ok_z0b x3_2 x3_0)
 (cond (decide ((0 : Int) ≤ x3_1 ∧ x3_1 < (((List.length x3_2.2.2.1) : Nat) : Int)))
 (let y19 : ((Int × (Int × Unit)) × Unit) := (q_z0a x3_2 ((rdd zTableS x3_2.2.2.1 (Int.toNat x3_1)).2.2.2.2.1))
 cond (ok_z0a x3_2 ((rdd zTableS x3_2.2.2.1 (Int.toNat x3_1)).2.2.2.2.1))
 (L_z0x_5 n
  (fun y21 => let y22 : Int := (if (IntKind.wrap .i64 ((1 : Int) + y21)) < (65537 : Int) then (IntKind.wrap .i64 ((1 : Int) + y21)) else (65537 : Int))
 k_r (y18.1.1 == y22))
  x3_0
  x3_2
  n
  y19.1.1
  (0 : Int))
 (none))
 (none))
 (none)))
 (none))
 (k_t3 ())
noncomputable def L_z0x_3 (n : Nat) (k_r : Bool → Option Res) (k_t3 : Unit → Option Res) (x3_0 : Int) (x3_2 : ConfigS) : Nat → Int → Option Res
  | 0, _ => none
  | m + 1, x3_1 => F_z0x_3 n k_r k_t3 x3_0 x3_2 (L_z0x_3 n k_r k_t3 x3_0 x3_2 m) x3_1
noncomputable def M_z0x (n : Nat) (a0 : ConfigS) (a1 : Int) : Option Res :=
 let y1 : ((Bool × Unit) × Unit) := (q_z00 a0)
 cond (ok_z00 a0)
 (cond y1.1.1
 (let y2 : ((Bool × Unit) × Unit) := q_z0s
 cond ok_z0s
 (some (encRes ro_z0x rh_z0x ((y2.1.1, ()), ())))
 (none))
 (let y3 : ((Bool × Unit) × Unit) := (q_z0e a0)
 cond (ok_z0e a0)
 (cond y3.1.1
 (let y4 : ((Bool × Unit) × Unit) := q_z0s
 cond ok_z0s
 (some (encRes ro_z0x rh_z0x ((y4.1.1, ()), ())))
 (none))
 (let y5 : ((Bool × Unit) × Unit) := q_z0s
 cond ok_z0s
 (cond (!y5.1.1)
 (let y6 : ((Bool × Unit) × Unit) := q_z0s
 cond ok_z0s
 (some (encRes ro_z0x rh_z0x ((y6.1.1, ()), ())))
 (none))
 (L_z0x_0 n
  (fun _ => L_z0x_3 n
  (fun y23 => some (encRes ro_z0x rh_z0x ((y23, ()), ())))
  (fun _ => some (encRes ro_z0x rh_z0x ((true, ()), ())))
  a1
  a0
  n
  (0 : Int))
  (fun y24 => some (encRes ro_z0x rh_z0x ((y24, ()), ())))
  a1
  a0
  n
  (0 : Int)))
 (none)))
 (none)))
 (none)
noncomputable def Q_z0x (a0 : ConfigS) (a1 : Int) : Option (RS ro_z0x rh_z0x) := decRes ro_z0x rh_z0x (M_z0x FUEL a0 a1)
noncomputable def ok_z0x (a0 : ConfigS) (a1 : Int) : Bool := (Q_z0x a0 a1).isSome
noncomputable def q_z0x (a0 : ConfigS) (a1 : Int) : RS ro_z0x rh_z0x := RS.get (Q_z0x a0 a1)
/-! z0y: turnoutlaw24_BoundCycles -/
abbrev ro_z0y : List EK := [.ty .bool]
abbrev rh_z0y : List HK := []
noncomputable def F_z0y_2 (n : Nat) (k_r : Bool → Option Res) (k_t2 : Unit → Option Res) (x2_0 : Int) (x2_1 : Int) (x2_3 : ConfigS) (rec : Int → Option Res) (x2_2 : Int) : Option Res :=
 cond (decide ((0 : Int) ≤ x2_0 ∧ x2_0 < (((List.length x2_3.2.2.2.2.2.1) : Nat) : Int)))
 (cond (decide (x2_2 < (((List.length (rdd zGroupS x2_3.2.2.2.2.2.1 (Int.toNat x2_0)).2.2.2.1) : Nat) : Int)))
 (cond (decide ((0 : Int) ≤ x2_0 ∧ x2_0 < (((List.length x2_3.2.2.2.2.2.1) : Nat) : Int)))
 (cond (decide ((0 : Int) ≤ x2_2 ∧ x2_2 < (((List.length (rdd zGroupS x2_3.2.2.2.2.2.1 (Int.toNat x2_0)).2.2.2.1) : Nat) : Int)))
 (let y10 : Int := (rdd zBucketS (rdd zGroupS x2_3.2.2.2.2.2.1 (Int.toNat x2_0)).2.2.2.1 (Int.toNat x2_2)).2.1
 let y11 : ((Int × (Int × Unit)) × Unit) := (q_z0a x2_3 y10)
 cond (ok_z0a x2_3 y10)
 (cond (y11.1.2.1 != (0 : Int))
 (k_r false)
 (cond (decide (y11.1.1 > x2_1))
 (k_r false)
 (rec (IntKind.wrap .i64 (x2_2 + (1 : Int))))))
 (none))
 (none))
 (none))
 (k_t2 ()))
 (none)
noncomputable def L_z0y_2 (n : Nat) (k_r : Bool → Option Res) (k_t2 : Unit → Option Res) (x2_0 : Int) (x2_1 : Int) (x2_3 : ConfigS) : Nat → Int → Option Res
  | 0, _ => none
  | m + 1, x2_2 => F_z0y_2 n k_r k_t2 x2_0 x2_1 x2_3 (L_z0y_2 n k_r k_t2 x2_0 x2_1 x2_3 m) x2_2
noncomputable def F_z0y_0 (n : Nat) (k_r : Bool → Option Res) (k_t0 : Unit → Option Res) (x0_0 : Int) (x0_2 : ConfigS) (rec : Int → Option Res) (x0_1 : Int) : Option Res :=
 cond (decide (x0_1 < (((List.length x0_2.2.2.2.2.2.1) : Nat) : Int)))
 (cond (decide ((0 : Int) ≤ x0_1 ∧ x0_1 < (((List.length x0_2.2.2.2.2.2.1) : Nat) : Int)))
 (cond ((rdd zGroupS x0_2.2.2.2.2.2.1 (Int.toNat x0_1)).1 != x0_0)
 (rec (IntKind.wrap .i64 (x0_1 + (1 : Int))))
 (let y9 : ((Int × (Int × Unit)) × Unit) := (q_z0c x0_2 x0_0)
 cond (ok_z0c x0_2 x0_0)
 (L_z0y_2 n
  (fun y12 => k_r y12)
  (fun _ => k_t0 ())
  x0_1
  y9.1.1
  x0_2
  n
  (0 : Int))
 (none)))
 (none))
 (k_t0 ())
noncomputable def L_z0y_0 (n : Nat) (k_r : Bool → Option Res) (k_t0 : Unit → Option Res) (x0_0 : Int) (x0_2 : ConfigS) : Nat → Int → Option Res
  | 0, _ => none
  | m + 1, x0_1 => F_z0y_0 n k_r k_t0 x0_0 x0_2 (L_z0y_0 n k_r k_t0 x0_0 x0_2 m) x0_1
noncomputable def M_z0y (n : Nat) (a0 : ConfigS) (a1 : ConfigS) (a2 : Int) : Option Res :=
 let y1 : ((Bool × Unit) × Unit) := (q_z00 a0)
 cond (ok_z00 a0)
 (cond y1.1.1
 (let y2 : ((Bool × Unit) × Unit) := q_z0s
 cond ok_z0s
 (some (encRes ro_z0y rh_z0y ((y2.1.1, ()), ())))
 (none))
 (let y3 : ((Bool × Unit) × Unit) := (q_z00 a1)
 cond (ok_z00 a1)
 (cond y3.1.1
 (let y4 : ((Bool × Unit) × Unit) := q_z0s
 cond ok_z0s
 (some (encRes ro_z0y rh_z0y ((y4.1.1, ()), ())))
 (none))
 (let y5 : ((Bool × Unit) × Unit) := q_z0s
 cond ok_z0s
 (cond (!y5.1.1)
 (let y6 : ((Bool × Unit) × Unit) := q_z0s
 cond ok_z0s
 (some (encRes ro_z0y rh_z0y ((y6.1.1, ()), ())))
 (none))
 (cond (decide ((0 + (List.length a0.2.2.1)) * 56 ≤ 2 ^ 46 ∧ (0 + (List.length a0.2.2.1)) ≤ 2 ^ 46))
 (cond (decide (((List.length (cutL zTableS a0.2.2.1 0 (0 + (List.length a0.2.2.1)))) + (List.length a1.2.2.1)) * 56 ≤ 2 ^ 46 ∧ ((List.length (cutL zTableS a0.2.2.1 0 (0 + (List.length a0.2.2.1)))) + (List.length a1.2.2.1)) ≤ 2 ^ 46))
 (cond (decide ((0 + (List.length a0.2.2.2.1)) * 120 ≤ 2 ^ 46 ∧ (0 + (List.length a0.2.2.2.1)) ≤ 2 ^ 46))
 (cond (decide (((List.length (cutL zEntryS a0.2.2.2.1 0 (0 + (List.length a0.2.2.2.1)))) + (List.length a1.2.2.2.1)) * 120 ≤ 2 ^ 46 ∧ ((List.length (cutL zEntryS a0.2.2.2.1 0 (0 + (List.length a0.2.2.2.1)))) + (List.length a1.2.2.2.1)) ≤ 2 ^ 46))
 (cond (decide ((0 + (List.length a0.2.2.2.2.1)) * 32 ≤ 2 ^ 46 ∧ (0 + (List.length a0.2.2.2.2.1)) ≤ 2 ^ 46))
 (cond (decide (((List.length (cutL zBlockS a0.2.2.2.2.1 0 (0 + (List.length a0.2.2.2.2.1)))) + (List.length a1.2.2.2.2.1)) * 32 ≤ 2 ^ 46 ∧ ((List.length (cutL zBlockS a0.2.2.2.2.1 0 (0 + (List.length a0.2.2.2.2.1)))) + (List.length a1.2.2.2.2.1)) ≤ 2 ^ 46))
 (cond (decide ((0 + (List.length a0.2.2.2.2.2.1)) * 48 ≤ 2 ^ 46 ∧ (0 + (List.length a0.2.2.2.2.2.1)) ≤ 2 ^ 46))
 (cond (decide (((List.length (cutL zGroupS a0.2.2.2.2.2.1 0 (0 + (List.length a0.2.2.2.2.2.1)))) + (List.length a1.2.2.2.2.2.1)) * 48 ≤ 2 ^ 46 ∧ ((List.length (cutL zGroupS a0.2.2.2.2.2.1 0 (0 + (List.length a0.2.2.2.2.2.1)))) + (List.length a1.2.2.2.2.2.1)) ≤ 2 ^ 46))
 (let y7 : ((Bool × Unit) × Unit) := (q_z0e a0)
 cond (ok_z0e a0)
 (cond y7.1.1
 (let y8 : ((Bool × Unit) × Unit) := (q_z0e ([], ([], ((cutL zTableS ((cutL zTableS a0.2.2.1 0 (0 + (List.length a0.2.2.1))) ++ a1.2.2.1) 0 ((List.length (cutL zTableS a0.2.2.1 0 (0 + (List.length a0.2.2.1)))) + (List.length a1.2.2.1))), ((cutL zEntryS ((cutL zEntryS a0.2.2.2.1 0 (0 + (List.length a0.2.2.2.1))) ++ a1.2.2.2.1) 0 ((List.length (cutL zEntryS a0.2.2.2.1 0 (0 + (List.length a0.2.2.2.1)))) + (List.length a1.2.2.2.1))), ((cutL zBlockS ((cutL zBlockS a0.2.2.2.2.1 0 (0 + (List.length a0.2.2.2.2.1))) ++ a1.2.2.2.2.1) 0 ((List.length (cutL zBlockS a0.2.2.2.2.1 0 (0 + (List.length a0.2.2.2.2.1)))) + (List.length a1.2.2.2.2.1))), ((cutL zGroupS ((cutL zGroupS a0.2.2.2.2.2.1 0 (0 + (List.length a0.2.2.2.2.2.1))) ++ a1.2.2.2.2.2.1) 0 ((List.length (cutL zGroupS a0.2.2.2.2.2.1 0 (0 + (List.length a0.2.2.2.2.2.1)))) + (List.length a1.2.2.2.2.2.1))), ([], ([], ([], ()))))))))))
 cond (ok_z0e ([], ([], ((cutL zTableS ((cutL zTableS a0.2.2.1 0 (0 + (List.length a0.2.2.1))) ++ a1.2.2.1) 0 ((List.length (cutL zTableS a0.2.2.1 0 (0 + (List.length a0.2.2.1)))) + (List.length a1.2.2.1))), ((cutL zEntryS ((cutL zEntryS a0.2.2.2.1 0 (0 + (List.length a0.2.2.2.1))) ++ a1.2.2.2.1) 0 ((List.length (cutL zEntryS a0.2.2.2.1 0 (0 + (List.length a0.2.2.2.1)))) + (List.length a1.2.2.2.1))), ((cutL zBlockS ((cutL zBlockS a0.2.2.2.2.1 0 (0 + (List.length a0.2.2.2.2.1))) ++ a1.2.2.2.2.1) 0 ((List.length (cutL zBlockS a0.2.2.2.2.1 0 (0 + (List.length a0.2.2.2.2.1)))) + (List.length a1.2.2.2.2.1))), ((cutL zGroupS ((cutL zGroupS a0.2.2.2.2.2.1 0 (0 + (List.length a0.2.2.2.2.2.1))) ++ a1.2.2.2.2.2.1) 0 ((List.length (cutL zGroupS a0.2.2.2.2.2.1 0 (0 + (List.length a0.2.2.2.2.2.1)))) + (List.length a1.2.2.2.2.2.1))), ([], ([], ([], ()))))))))))
 (some (encRes ro_z0y rh_z0y ((y8.1.1, ()), ())))
 (none))
 (L_z0y_0 n
  (fun y13 => some (encRes ro_z0y rh_z0y ((y13, ()), ())))
  (fun _ => let y14 : ((Int × (Int × Unit)) × Unit) := (q_z0r a0)
 cond (ok_z0r a0)
 (cond (y14.1.2.1 == (0 : Int))
 (cond (decide (y14.1.1 ≥ (0 : Int)))
 (some (encRes ro_z0y rh_z0y (((decide (y14.1.1 ≤ (65537 : Int))), ()), ())))
 (some (encRes ro_z0y rh_z0y ((false, ()), ()))))
 (some (encRes ro_z0y rh_z0y ((false, ()), ()))))
 (none))
  a2
  a0
  n
  (0 : Int)))
 (none))
 (none))
 (none))
 (none))
 (none))
 (none))
 (none))
 (none))
 (none)))
 (none)))
 (none)))
 (none)
noncomputable def Q_z0y (a0 : ConfigS) (a1 : ConfigS) (a2 : Int) : Option (RS ro_z0y rh_z0y) := decRes ro_z0y rh_z0y (M_z0y FUEL a0 a1 a2)
noncomputable def ok_z0y (a0 : ConfigS) (a1 : ConfigS) (a2 : Int) : Bool := (Q_z0y a0 a1 a2).isSome
noncomputable def q_z0y (a0 : ConfigS) (a1 : ConfigS) (a2 : Int) : RS ro_z0y rh_z0y := RS.get (Q_z0y a0 a1 a2)
/-! z0z: turnoutlaw24_BoundTower -/
abbrev ro_z0z : List EK := [.ty .bool]
abbrev rh_z0z : List HK := []
noncomputable def F_z0z_0 (n : Nat) (k_t0 : Int → Option Res) (x0_0 : Int) (x0_1 : Int) (rec : Int → Int → Option Res) (x0_4 : Int) (x0_5 : Int) : Option Res :=
 cond (decide (x0_5 < x0_1))
 (let y3 : Int := (if (IntKind.wrap .i64 ((1 : Int) + (IntKind.wrap .i64 (x0_0 * x0_4)))) < (65537 : Int) then (IntKind.wrap .i64 ((1 : Int) + (IntKind.wrap .i64 (x0_0 * x0_4)))) else (65537 : Int))
 rec y3 (IntKind.wrap .i64 (x0_5 + (1 : Int))))
 (k_t0 x0_4)
noncomputable def L_z0z_0 (n : Nat) (k_t0 : Int → Option Res) (x0_0 : Int) (x0_1 : Int) : Nat → Int → Int → Option Res
  | 0, _, _ => none
  | m + 1, x0_4, x0_5 => F_z0z_0 n k_t0 x0_0 x0_1 (L_z0z_0 n k_t0 x0_0 x0_1 m) x0_4 x0_5
noncomputable def M_z0z (n : Nat) (a0 : Int) (a1 : Int) (a2 : Int) : Option Res :=
 cond ((17 : Int) != 0)
 (cond ((33 : Int) != 0)
 (cond ((33 : Int) != 0)
 (let y1 : ((ConfigS × Unit) × Unit) := (q_z0v (IntKind.wrap .i64 (Int.tmod a0 (17 : Int))) (IntKind.wrap .i64 (Int.tmod a1 (33 : Int))) (IntKind.wrap .i64 (Int.tmod a2 (33 : Int))))
 cond (ok_z0v (IntKind.wrap .i64 (Int.tmod a0 (17 : Int))) (IntKind.wrap .i64 (Int.tmod a1 (33 : Int))) (IntKind.wrap .i64 (Int.tmod a2 (33 : Int))))
 (let y2 : ((Int × (Int × Unit)) × Unit) := (q_z0r y1.1.1)
 cond (ok_z0r y1.1.1)
 (L_z0z_0 n
  (fun y4 => cond (y2.1.2.1 == (0 : Int))
 (let y5 : Int := (if (IntKind.wrap .i64 ((1 : Int) + y4)) < (65537 : Int) then (IntKind.wrap .i64 ((1 : Int) + y4)) else (65537 : Int))
 cond (y2.1.1 == y5)
 (let y6 : ((Bool × Unit) × Unit) := q_z0s
 cond ok_z0s
 (some (encRes ro_z0z rh_z0z ((y6.1.1, ()), ())))
 (none))
 (some (encRes ro_z0z rh_z0z ((false, ()), ()))))
 (some (encRes ro_z0z rh_z0z ((false, ()), ()))))
  (IntKind.wrap .i64 (Int.tmod a0 (17 : Int)))
  (IntKind.wrap .i64 (Int.tmod a1 (33 : Int)))
  n
  (IntKind.wrap .i64 (Int.tmod a2 (33 : Int)))
  (0 : Int))
 (none))
 (none))
 (none))
 (none))
 (none)
noncomputable def Q_z0z (a0 : Int) (a1 : Int) (a2 : Int) : Option (RS ro_z0z rh_z0z) := decRes ro_z0z rh_z0z (M_z0z FUEL a0 a1 a2)
noncomputable def ok_z0z (a0 : Int) (a1 : Int) (a2 : Int) : Bool := (Q_z0z a0 a1 a2).isSome
noncomputable def q_z0z (a0 : Int) (a1 : Int) (a2 : Int) : RS ro_z0z rh_z0z := RS.get (Q_z0z a0 a1 a2)
end Go.AMach
