/- A part of the walk. -/
import Derived.Test.YtfmjdojndbpkhaaAm21
namespace Go.AMach
set_option linter.unusedVariables false
set_option linter.unusedSimpArgs false
set_option linter.unnecessarySimpa false
noncomputable section
set_option linter.unusedVariables false
abbrev ArgT : Ty := (.pair (.int .u8) (.pair (.int .u64) .unit))
abbrev ArgS : Type := (Int × (Int × Unit))
abbrev zArgS : ArgS := ((0 : Int), ((0 : Int), ()))
abbrev ObjT : Ty := (.pair (.int .i64) (.pair (.int .i64) .unit))
abbrev ObjS : Type := (Int × (Int × Unit))
abbrev jbN : ObjS := ((0 : Int), ((0 : Int), ()))
abbrev ArmT : Ty := (.pair (.int .u32) (.pair (.int .i64) .unit))
abbrev ArmS : Type := (Int × (Int × Unit))
abbrev jcd : ArmS := ((0 : Int), ((0 : Int), ()))
abbrev jou : Ty := (.pair (.int .u64) (.pair (.int .i64) .unit))
abbrev jbt : Type := (Int × (Int × Unit))
abbrev jba : jbt := ((0 : Int), ((0 : Int), ()))
abbrev jaG : Ty := (.pair (.int .i64) ObjT)
abbrev jao : Type := (Int × ObjS)
abbrev jaz : jao := ((0 : Int), jbN)
abbrev FieldT : Ty := (.pair (.int .i64) (.pair (.int .u8) jaG))
abbrev jGR : Type := (Int × (Int × jao))
abbrev zFieldS : jGR := ((0 : Int), ((0 : Int), jaz))
abbrev jke : Ty := (.pair (.int .i64) (.pair (.int .u8) (.pair (.slice (.int .i64)) ObjT)))
abbrev jbl : Type := (Int × (Int × ((List Int) × ObjS)))
abbrev jaD : jbl := ((0 : Int), ((0 : Int), ([], jbN)))
abbrev jaW : Ty := (.pair (.int .i64) (.pair (.int .u8) (.pair (.int .i64) (.pair (.slice jou) .unit))))
abbrev jal : Type := (Int × (Int × (Int × ((List jbt) × Unit))))
abbrev jak : jal := ((0 : Int), ((0 : Int), ((0 : Int), ([], ()))))
abbrev jaV : Ty := (.pair (.int .u8) (.pair (.int .i64) (.pair ArgT (.pair ArgT (.pair (.int .i64) .unit)))))
abbrev jaj : Type := (Int × (Int × (ArgS × (ArgS × (Int × Unit)))))
abbrev jae : jaj := ((0 : Int), ((0 : Int), (zArgS, (zArgS, ((0 : Int), ())))))
abbrev jvN : Ty := (.pair (.int .i64) (.pair (.slice jaV) .unit))
abbrev jbB : Type := (Int × ((List jaj) × Unit))
abbrev jap : jbB := ((0 : Int), ([], ()))
abbrev jvL : Ty := (.pair (.int .i64) (.pair .str (.pair .str (.pair (.int .i64) (.pair (.int .i64) (.pair (.int .i64) (.pair (.slice (.int .u64)) (.pair (.int .i64) (.pair (.int .i64) (.pair (.int .u64) (.pair .bool .unit)))))))))))
abbrev jgm : Type := (Int × (ByteArray × (ByteArray × (Int × (Int × (Int × ((List Int) × (Int × (Int × (Int × (Bool × Unit)))))))))))
abbrev jaT : jgm := ((0 : Int), (ByteArray.empty, (ByteArray.empty, ((0 : Int), ((0 : Int), ((0 : Int), ([], ((0 : Int), ((0 : Int), ((0 : Int), (false, ())))))))))))
abbrev jaM : Ty := (.pair (.int .i64) (.pair (.int .i64) (.pair (.int .i64) (.pair (.int .i64) (.pair (.int .i64) (.pair (.int .i64) (.pair (.int .i64) (.pair (.slice ArmT) (.pair (.int .i64) .unit)))))))))
abbrev jah : Type := (Int × (Int × (Int × (Int × (Int × (Int × (Int × ((List ArmS) × (Int × Unit)))))))))
abbrev jaH : jah := ((0 : Int), ((0 : Int), ((0 : Int), ((0 : Int), ((0 : Int), ((0 : Int), ((0 : Int), ([], ((0 : Int), ())))))))))
abbrev jag : Ty := (.pair (.slice jaM) (.pair (.slice FieldT) (.pair (.slice jke) (.pair (.slice jvL) (.pair (.slice jvN) (.pair (.slice jaW) (.pair (.slice jaG) (.pair (.slice ObjT) (.pair (.slice (.int .i64)) .unit)))))))))
abbrev jaa : Type := ((List jah) × ((List jGR) × ((List jbl) × ((List jgm) × ((List jbB) × ((List jal) × ((List jao) × ((List ObjS) × ((List Int) × Unit)))))))))
abbrev jCN : jaa := ([], ([], ([], ([], ([], ([], ([], ([], ([], ())))))))))
abbrev WalkerT : Ty := (.pair jag (.pair (.slice (.int .u8)) (.pair (.int .i64) .unit)))
abbrev WalkerS : Type := (jaa × ((List Int) × (Int × Unit)))
abbrev zWalkerS : WalkerS := (jCN, ([], ((0 : Int), ())))
/-! z00: turnoutlaw24_large -/
abbrev joW : List EK := [.ty .bool]
abbrev jpk : List HK := []
def jtB (n : Nat) (k_t0 : Int → Option Res) (x0_2 : jaa) (rec : Int → Int → Option Res) (x0_0 : Int) (x0_1 : Int) : Option Res :=
 cond (decide (x0_1 < (((List.length x0_2.1) : Nat) : Int)))
 (cond (decide (x0_0 < (600 : Int)))
 (cond (decide ((0 : Int) ≤ x0_1 ∧ x0_1 < (((List.length x0_2.1) : Nat) : Int)))
 (let y3 : Int := (if (((List.length (rdd jaH x0_2.1 (Int.toNat x0_1)).2.2.2.2.2.2.2.1) : Nat) : Int) < (600 : Int) then (((List.length (rdd jaH x0_2.1 (Int.toNat x0_1)).2.2.2.2.2.2.2.1) : Nat) : Int) else (600 : Int))
 rec (IntKind.wrap .i64 (x0_0 + y3)) (IntKind.wrap .i64 (x0_1 + (1 : Int))))
 (none))
 (k_t0 x0_0))
 (k_t0 x0_0)
def jjy (n : Nat) (k_t0 : Int → Option Res) (x0_2 : jaa) : Nat → Int → Int → Option Res
  | 0, _, _ => none
  | m + 1, x0_0, x0_1 => jtB n k_t0 x0_2 (jjy n k_t0 x0_2 m) x0_0 x0_1
def jtA (n : Nat) (k_t2 : Int → Option Res) (x2_2 : jaa) (rec : Int → Int → Option Res) (x2_0 : Int) (x2_1 : Int) : Option Res :=
 cond (decide (x2_1 < (((List.length x2_2.2.2.2.2.1) : Nat) : Int)))
 (cond (decide (x2_0 < (600 : Int)))
 (cond (decide ((0 : Int) ≤ x2_1 ∧ x2_1 < (((List.length x2_2.2.2.2.2.1) : Nat) : Int)))
 (let y5 : Int := (if (((List.length (rdd jap x2_2.2.2.2.2.1 (Int.toNat x2_1)).2.1) : Nat) : Int) < (600 : Int) then (((List.length (rdd jap x2_2.2.2.2.2.1 (Int.toNat x2_1)).2.1) : Nat) : Int) else (600 : Int))
 rec (IntKind.wrap .i64 (x2_0 + y5)) (IntKind.wrap .i64 (x2_1 + (1 : Int))))
 (none))
 (k_t2 x2_0))
 (k_t2 x2_0)
def jjx (n : Nat) (k_t2 : Int → Option Res) (x2_2 : jaa) : Nat → Int → Int → Option Res
  | 0, _, _ => none
  | m + 1, x2_0, x2_1 => jtA n k_t2 x2_2 (jjx n k_t2 x2_2 m) x2_0 x2_1
def jtz (n : Nat) (k_t4 : Int → Option Res) (x4_2 : jaa) (rec : Int → Int → Option Res) (x4_0 : Int) (x4_1 : Int) : Option Res :=
 cond (decide (x4_1 < (((List.length x4_2.2.2.2.2.2.1) : Nat) : Int)))
 (cond (decide (x4_0 < (600 : Int)))
 (cond (decide ((0 : Int) ≤ x4_1 ∧ x4_1 < (((List.length x4_2.2.2.2.2.2.1) : Nat) : Int)))
 (let y7 : Int := (if (((List.length (rdd jak x4_2.2.2.2.2.2.1 (Int.toNat x4_1)).2.2.2.1) : Nat) : Int) < (600 : Int) then (((List.length (rdd jak x4_2.2.2.2.2.2.1 (Int.toNat x4_1)).2.2.2.1) : Nat) : Int) else (600 : Int))
 rec (IntKind.wrap .i64 (x4_0 + y7)) (IntKind.wrap .i64 (x4_1 + (1 : Int))))
 (none))
 (k_t4 x4_0))
 (k_t4 x4_0)
def jjw (n : Nat) (k_t4 : Int → Option Res) (x4_2 : jaa) : Nat → Int → Int → Option Res
  | 0, _, _ => none
  | m + 1, x4_0, x4_1 => jtz n k_t4 x4_2 (jjw n k_t4 x4_2 m) x4_0 x4_1
def jFK (n : Nat) (a0 : jaa) : Option Res :=
 let y1 : Int := (IntKind.wrap .i64 ((((List.length a0.1) : Nat) : Int) + (((List.length a0.2.2.1) : Nat) : Int)))
 let y2 : Int := (IntKind.wrap .i64 ((IntKind.wrap .i64 (y1 + (((List.length a0.2.2.2.1) : Nat) : Int))) + (((List.length a0.2.2.2.2.1) : Nat) : Int)))
 cond (decide ((IntKind.wrap .i64 (y2 + (((List.length a0.2.2.2.2.2.1) : Nat) : Int))) > (60 : Int)))
 (some (jac joW jpk ((true, ()), ())))
 (jjy n
  (fun y4 => jjx n
  (fun y6 => jjw n
  (fun y8 => some (jac joW jpk (((decide (y8 ≥ (600 : Int))), ()), ())))
  a0
  n
  y6
  (0 : Int))
  a0
  n
  y4
  (0 : Int))
  a0
  n
  (IntKind.wrap .i64 (y2 + (((List.length a0.2.2.2.2.2.1) : Nat) : Int)))
  (0 : Int))
def jET (a0 : jaa) : Option (RS joW jpk) := jaR joW jpk (jFK FUEL a0)
def jyv (a0 : jaa) : Bool := (jET a0).isSome
def jDd (a0 : jaa) : RS joW jpk := RS.get (jET a0)
/-! z01: turnoutlaw24_code -/
abbrev jud : List EK := [.hs 0 0]
abbrev jut : List HK := [.row jaV]
def jCJ (n : Nat) (k_t0 : Nat → (List jaj) → Option Res) (x0_0 : (List Int)) (rec : Nat → Int → (List jaj) → Option Res) (x0_1 : Nat) (x0_2 : Int) (x0_3 : (List jaj)) : Option Res :=
 cond (decide (x0_2 < (((List.length x0_0) : Nat) : Int)))
 (cond (decide ((0 : Int) ≤ x0_2 ∧ x0_2 < (((List.length x0_0) : Nat) : Int)))
 (cond (decide ((0 : Int) ≤ x0_2 ∧ x0_2 < (((List.length x0_0) : Nat) : Int)))
 (cond ((rdd (0 : Int) x0_0 (Int.toNat x0_2)) == (12 : Int))
 (cond (decide (((List.length (cutL jae x0_3 0 x0_1)) + 1) * 56 ≤ 2 ^ 46 ∧ ((List.length (cutL jae x0_3 0 x0_1)) + 1) ≤ 2 ^ 46))
 (rec ((List.length (cutL jae x0_3 0 x0_1)) + 1) (IntKind.wrap .i64 (x0_2 + (1 : Int))) ((cutL jae x0_3 0 x0_1) ++ [((rdd (0 : Int) x0_0 (Int.toNat x0_2)), ((0 : Int), (((0 : Int), ((0 : Int), ())), (((0 : Int), ((0 : Int), ())), ((1 : Int), ())))))]))
 (none))
 (cond (decide ((0 : Int) ≤ x0_2 ∧ x0_2 < (((List.length x0_0) : Nat) : Int)))
 (cond ((rdd (0 : Int) x0_0 (Int.toNat x0_2)) == (13 : Int))
 (cond (decide (((List.length (cutL jae x0_3 0 x0_1)) + 1) * 56 ≤ 2 ^ 46 ∧ ((List.length (cutL jae x0_3 0 x0_1)) + 1) ≤ 2 ^ 46))
 (rec ((List.length (cutL jae x0_3 0 x0_1)) + 1) (IntKind.wrap .i64 (x0_2 + (1 : Int))) ((cutL jae x0_3 0 x0_1) ++ [((rdd (0 : Int) x0_0 (Int.toNat x0_2)), ((0 : Int), (((0 : Int), ((0 : Int), ())), (((0 : Int), ((0 : Int), ())), ((1 : Int), ())))))]))
 (none))
 (cond (decide ((0 : Int) ≤ x0_2 ∧ x0_2 < (((List.length x0_0) : Nat) : Int)))
 (cond ((rdd (0 : Int) x0_0 (Int.toNat x0_2)) == (14 : Int))
 (cond (decide (((List.length (cutL jae x0_3 0 x0_1)) + 1) * 56 ≤ 2 ^ 46 ∧ ((List.length (cutL jae x0_3 0 x0_1)) + 1) ≤ 2 ^ 46))
 (rec ((List.length (cutL jae x0_3 0 x0_1)) + 1) (IntKind.wrap .i64 (x0_2 + (1 : Int))) ((cutL jae x0_3 0 x0_1) ++ [((rdd (0 : Int) x0_0 (Int.toNat x0_2)), ((0 : Int), (((0 : Int), ((0 : Int), ())), (((0 : Int), ((0 : Int), ())), ((1 : Int), ())))))]))
 (none))
 (cond (decide (((List.length (cutL jae x0_3 0 x0_1)) + 1) * 56 ≤ 2 ^ 46 ∧ ((List.length (cutL jae x0_3 0 x0_1)) + 1) ≤ 2 ^ 46))
 (rec ((List.length (cutL jae x0_3 0 x0_1)) + 1) (IntKind.wrap .i64 (x0_2 + (1 : Int))) ((cutL jae x0_3 0 x0_1) ++ [((rdd (0 : Int) x0_0 (Int.toNat x0_2)), ((0 : Int), (((0 : Int), ((0 : Int), ())), (((0 : Int), ((0 : Int), ())), ((0 : Int), ())))))]))
 (none)))
 (none)))
 (none)))
 (none))
 (none))
 (k_t0 x0_1 x0_3)
def jsE (n : Nat) (k_t0 : Nat → (List jaj) → Option Res) (x0_0 : (List Int)) : Nat → Nat → Int → (List jaj) → Option Res
  | 0, _, _, _ => none
  | m + 1, x0_1, x0_2, x0_3 => jCJ n k_t0 x0_0 (jsE n k_t0 x0_0 m) x0_1 x0_2 x0_3
def M_z01 (n : Nat) (a0 : (List Int)) : Option Res :=
 jsE n
  (fun y1 y2 => some (jac jud jut ((y1, ()), (y2, ()))))
  a0
  n
  0
  (0 : Int)
  ([])
def Q_z01 (a0 : (List Int)) : Option (RS jud jut) := jaR jud jut (M_z01 FUEL a0)
def jBl (a0 : (List Int)) : Bool := (Q_z01 a0).isSome
def q_z01 (a0 : (List Int)) : RS jud jut := RS.get (Q_z01 a0)
/-! z02: bound_solve -/
def putI {α : Type} (k : Int) (v : α) (g : Int → Option α) : Int → Option α := fun i => cond (decide (i = k)) (some v) (g i)
def jci : List jbl → (Int → Option (List Int)) → List ObjS → (Int → Option (List Int)) × List ObjS
  | [], g, l => (g, l)
  | t :: r, g, l => match g t.1 with
    | some _ => jci r g l
    | none => jci r (putI t.1 [t.2.2.2.2.1] g) (l ++ [(0, (t.1, ()))])
def jff : List jgm → (Int → Option (List Int)) → (Int → Option (List Int))
  | [], g => g
  | x :: r, g => match g x.1 with
    | some l => jff r (putI x.1 (l ++ [x.2.2.2.2.2.1]) g)
    | none => jff r g
def jcp : List jbB → (Int → Option (List jaj)) → List ObjS → (Int → Option (List jaj)) × List ObjS
  | [], g, l => (g, l)
  | b :: r, g, l => match g b.1 with
    | some _ => jcp r g l
    | none => jcp r (putI b.1 b.2.1 g) (l ++ [(1, (b.1, ()))])
def jcB : List jal → (Int → Option jal) → List ObjS → (Int → Option jal) × List ObjS
  | [], g, l => (g, l)
  | b :: r, g, l => match g b.1 with
    | some _ => jcB r g l
    | none => jcB r (putI b.1 b g) (l ++ [(2, (b.1, ()))])
def jlI (c : jaa) := jci c.2.2.1 (fun _ => none) []
def jjD (c : jaa) := jcp c.2.2.2.2.1 (fun _ => none) (jlI c).2
def joH (c : jaa) := jcB c.2.2.2.2.2.1 (fun _ => none) (jjD c).2
def jAK (c : jaa) : Option (RS [.ptr 0 0 0] [.one false [.mp 1, .mp 2, .mp 3, .ty (.slice ObjT)], .mf (.int .i64) (.slice (.int .i64)), .mf (.int .i64) (.slice jaV), .mf (.int .i64) jaW]) :=
  cond (decide (c.2.2.1.length ≤ 1000 ∧ c.2.2.2.1.length ≤ 1000 ∧ c.2.2.2.2.1.length ≤ 1000 ∧ c.2.2.2.2.2.1.length ≤ 1000))
    (some (((), ()), (((), ((), ((), ((joH c).2, ())))), (jff c.2.2.2.1 (jlI c).1, ((jjD c).1, ((joH c).1, ()))))))
    none
abbrev juc : List EK := [.ptr 0 0 0]
abbrev jlL : List HK := [.one false [.mp 1, .mp 2, .mp 3, .ty (.slice ObjT)], .mf (.int .i64) (.slice (.int .i64)), .mf (.int .i64) (.slice jaV), .mf (.int .i64) jaW]
def jvz (c : jaa) : Option (RS juc jlL) := jAK c
def jFY (c : jaa) : Bool := (jvz c).isSome
def q_z02 (c : jaa) : RS juc jlL := RS.get (jvz c)
abbrev jbF : List EK := [.ty .bool]
abbrev jbG : List HK := [.one false [.mp 1], .mf ObjT (.int .i64), .one false [.ptr 3 0 0], .one false [.mp 4, .mp 5, .mp 6, .ty (.slice ObjT)], .mf (.int .i64) (.slice (.int .i64)), .mf (.int .i64) (.slice jaV), .mf (.int .i64) jaW, .one false [.fn 42 [(0, 0, 0), (2, 0, 0), (7, 0, 0)]]]
/-! z03: bound_solver_leads -/
abbrev jmT : List EK := [.hs 4 0]
abbrev jna : List HK := [.one false [.mp 1, .mp 2, .mp 3, .ty (.slice ObjT)], .mf (.int .i64) (.slice (.int .i64)), .mf (.int .i64) (.slice jaV), .mf (.int .i64) jaW, .row ObjT]
def jtx (n : Nat) (k_t3 : Nat → (List ObjS) → Option Res) (x3_1 : (List Int)) (x3_2 : Int) (rec : Nat → Int → (List ObjS) → Option Res) (x3_0 : Nat) (x3_3 : Int) (x3_8 : (List ObjS)) : Option Res :=
 cond (decide (x3_3 < x3_2))
 (cond (decide ((0 : Int) ≤ x3_3 ∧ x3_3 < (((List.length x3_1) : Nat) : Int)))
 (cond (decide (((List.length (cutL jbN x3_8 0 x3_0)) + 1) * 16 ≤ 2 ^ 46 ∧ ((List.length (cutL jbN x3_8 0 x3_0)) + 1) ≤ 2 ^ 46))
 (rec ((List.length (cutL jbN x3_8 0 x3_0)) + 1) (IntKind.wrap .i64 (x3_3 + (1 : Int))) ((cutL jbN x3_8 0 x3_0) ++ [((1 : Int), ((rdd (0 : Int) x3_1 (Int.toNat x3_3)), ()))]))
 (none))
 (none))
 (k_t3 x3_0 x3_8)
def jlD (n : Nat) (k_t3 : Nat → (List ObjS) → Option Res) (x3_1 : (List Int)) (x3_2 : Int) : Nat → Nat → Int → (List ObjS) → Option Res
  | 0, _, _, _ => none
  | m + 1, x3_0, x3_3, x3_8 => jtx n k_t3 x3_1 x3_2 (jlD n k_t3 x3_1 x3_2 m) x3_0 x3_3 x3_8
def jtw (n : Nat) (k_t5 : Nat → (List ObjS) → Option Res) (x5_1 : (List jaj)) (x5_2 : Int) (rec : Nat → Int → (List ObjS) → Option Res) (x5_0 : Nat) (x5_3 : Int) (x5_8 : (List ObjS)) : Option Res :=
 cond (decide (x5_3 < x5_2))
 (cond (decide ((0 : Int) ≤ x5_3 ∧ x5_3 < (((List.length x5_1) : Nat) : Int)))
 (cond ((rdd jae x5_1 (Int.toNat x5_3)).1 == (13 : Int))
 (cond (decide (((List.length (cutL jbN x5_8 0 x5_0)) + 1) * 16 ≤ 2 ^ 46 ∧ ((List.length (cutL jbN x5_8 0 x5_0)) + 1) ≤ 2 ^ 46))
 (rec ((List.length (cutL jbN x5_8 0 x5_0)) + 1) (IntKind.wrap .i64 (x5_3 + (1 : Int))) ((cutL jbN x5_8 0 x5_0) ++ [((0 : Int), (rdd jae x5_1 (Int.toNat x5_3)).2.2.2.2)]))
 (none))
 (cond ((rdd jae x5_1 (Int.toNat x5_3)).1 == (14 : Int))
 (cond (decide (((List.length (cutL jbN x5_8 0 x5_0)) + 1) * 16 ≤ 2 ^ 46 ∧ ((List.length (cutL jbN x5_8 0 x5_0)) + 1) ≤ 2 ^ 46))
 (rec ((List.length (cutL jbN x5_8 0 x5_0)) + 1) (IntKind.wrap .i64 (x5_3 + (1 : Int))) ((cutL jbN x5_8 0 x5_0) ++ [((2 : Int), (rdd jae x5_1 (Int.toNat x5_3)).2.2.2.2)]))
 (none))
 (rec x5_0 (IntKind.wrap .i64 (x5_3 + (1 : Int))) x5_8)))
 (none))
 (k_t5 x5_0 x5_8)
def jlC (n : Nat) (k_t5 : Nat → (List ObjS) → Option Res) (x5_1 : (List jaj)) (x5_2 : Int) : Nat → Nat → Int → (List ObjS) → Option Res
  | 0, _, _, _ => none
  | m + 1, x5_0, x5_3, x5_8 => jtw n k_t5 x5_1 x5_2 (jlC n k_t5 x5_1 x5_2 m) x5_0 x5_3 x5_8
def jty (n : Nat) (k_t1 : Nat → (List ObjS) → Option Res) (x1_1 : (List jbt)) (x1_2 : Int) (rec : Nat → Int → (List ObjS) → Option Res) (x1_0 : Nat) (x1_3 : Int) (x1_8 : (List ObjS)) : Option Res :=
 cond (decide (x1_3 < x1_2))
 (cond (decide ((0 : Int) ≤ x1_3 ∧ x1_3 < (((List.length x1_1) : Nat) : Int)))
 (cond (decide (((List.length (cutL jbN x1_8 0 x1_0)) + 1) * 16 ≤ 2 ^ 46 ∧ ((List.length (cutL jbN x1_8 0 x1_0)) + 1) ≤ 2 ^ 46))
 (rec ((List.length (cutL jbN x1_8 0 x1_0)) + 1) (IntKind.wrap .i64 (x1_3 + (1 : Int))) ((cutL jbN x1_8 0 x1_0) ++ [((1 : Int), (rdd jba x1_1 (Int.toNat x1_3)).2)]))
 (none))
 (none))
 (k_t1 x1_0 x1_8)
def jlE (n : Nat) (k_t1 : Nat → (List ObjS) → Option Res) (x1_1 : (List jbt)) (x1_2 : Int) : Nat → Nat → Int → (List ObjS) → Option Res
  | 0, _, _, _ => none
  | m + 1, x1_0, x1_3, x1_8 => jty n k_t1 x1_1 x1_2 (jlE n k_t1 x1_1 x1_2 m) x1_0 x1_3 x1_8
def jFJ (n : Nat) (a0 : ObjS) (a1 : (List ObjS)) (a2 : (Int → Option ((List Int)))) (a3 : (Int → Option ((List jaj)))) (a4 : (Int → Option (jal))) : Option Res :=
 cond (a0.1 == (0 : Int))
 (jlD n
  (fun y1 y2 => some (jac jmT jna ((y1, ()), (((), ((), ((), (a1, ())))), (a2, (a3, (a4, (y2, ()))))))))
  (Option.getD (a2 a0.2.1) [])
  (((List.length (Option.getD (a2 a0.2.1) [])) : Nat) : Int)
  n
  0
  (0 : Int)
  ([]))
 (cond (a0.1 == (1 : Int))
 (jlC n
  (fun y3 y4 => some (jac jmT jna ((y3, ()), (((), ((), ((), (a1, ())))), (a2, (a3, (a4, (y4, ()))))))))
  (Option.getD (a3 a0.2.1) [])
  (((List.length (Option.getD (a3 a0.2.1) [])) : Nat) : Int)
  n
  0
  (0 : Int)
  ([]))
 (jlE n
  (fun y5 y6 => some (jac jmT jna ((y5, ()), (((), ((), ((), (a1, ())))), (a2, (a3, (a4, (y6, ()))))))))
  ((Option.getD (a4 a0.2.1) jak).2.2.2.1)
  (((List.length (Option.getD (a4 a0.2.1) jak).2.2.2.1) : Nat) : Int)
  n
  0
  (0 : Int)
  ([])))
def jES (a0 : ObjS) (a1 : (List ObjS)) (a2 : (Int → Option ((List Int)))) (a3 : (Int → Option ((List jaj)))) (a4 : (Int → Option (jal))) : Option (RS jmT jna) := jaR jmT jna (jFJ FUEL a0 a1 a2 a3 a4)
def ok_z03 (a0 : ObjS) (a1 : (List ObjS)) (a2 : (Int → Option ((List Int)))) (a3 : (Int → Option ((List jaj)))) (a4 : (Int → Option (jal))) : Bool := (jES a0 a1 a2 a3 a4).isSome
def q_z03 (a0 : ObjS) (a1 : (List ObjS)) (a2 : (Int → Option ((List Int)))) (a3 : (Int → Option ((List jaj)))) (a4 : (Int → Option (jal))) : RS jmT jna := RS.get (jES a0 a1 a2 a3 a4)
/-! z04: bound_solver_cycle_1 -/
def jos (n : Nat) (qr_z04 : ObjS → (ObjS → Option (Int)) → (List ObjS) → (Int → Option ((List Int))) → (Int → Option ((List jaj))) → (Int → Option (jal)) → Option (RS jbF jbG)) (k_r : Bool → (ObjS → Option (Int)) → (List ObjS) → (Int → Option ((List Int))) → (Int → Option ((List jaj))) → (Int → Option (jal)) → Option Res) (k_t0 : (ObjS → Option (Int)) → (List ObjS) → (Int → Option ((List Int))) → (Int → Option ((List jaj))) → (Int → Option (jal)) → Option Res) (x0_0 : Nat) (x0_1 : Int) (x0_9 : (List ObjS)) (rec : Int → (ObjS → Option (Int)) → (List ObjS) → (Int → Option ((List Int))) → (Int → Option ((List jaj))) → (Int → Option (jal)) → Option Res) (x0_2 : Int) (x0_3 : (ObjS → Option (Int))) (x0_4 : (List ObjS)) (x0_5 : (Int → Option ((List Int)))) (x0_6 : (Int → Option ((List jaj)))) (x0_7 : (Int → Option (jal))) : Option Res :=
 cond (decide (x0_2 < x0_1))
 (cond (decide ((0 : Int) ≤ x0_2 ∧ x0_2 < ((x0_0 : Nat) : Int)))
 (let y2 : ((Bool × Unit) × ((Unit × Unit) × ((ObjS → Option (Int)) × ((Unit × Unit) × ((Unit × (Unit × (Unit × ((List ObjS) × Unit)))) × ((Int → Option ((List Int))) × ((Int → Option ((List jaj))) × ((Int → Option (jal)) × ((Unit × Unit) × Unit))))))))) := (RS.get (qr_z04 (rdd jbN x0_9 (Int.toNat x0_2)) x0_3 x0_4 x0_5 x0_6 x0_7))
 cond (Option.isSome (qr_z04 (rdd jbN x0_9 (Int.toNat x0_2)) x0_3 x0_4 x0_5 x0_6 x0_7))
 (cond y2.1.1
 (k_r true y2.2.2.1 y2.2.2.2.2.1.2.2.2.1 y2.2.2.2.2.2.1 y2.2.2.2.2.2.2.1 y2.2.2.2.2.2.2.2.1)
 (rec (IntKind.wrap .i64 (x0_2 + (1 : Int))) y2.2.2.1 y2.2.2.2.2.1.2.2.2.1 y2.2.2.2.2.2.1 y2.2.2.2.2.2.2.1 y2.2.2.2.2.2.2.2.1))
 (none))
 (none))
 (k_t0 x0_3 x0_4 x0_5 x0_6 x0_7)
def jgj (n : Nat) (qr_z04 : ObjS → (ObjS → Option (Int)) → (List ObjS) → (Int → Option ((List Int))) → (Int → Option ((List jaj))) → (Int → Option (jal)) → Option (RS jbF jbG)) (k_r : Bool → (ObjS → Option (Int)) → (List ObjS) → (Int → Option ((List Int))) → (Int → Option ((List jaj))) → (Int → Option (jal)) → Option Res) (k_t0 : (ObjS → Option (Int)) → (List ObjS) → (Int → Option ((List Int))) → (Int → Option ((List jaj))) → (Int → Option (jal)) → Option Res) (x0_0 : Nat) (x0_1 : Int) (x0_9 : (List ObjS)) : Nat → Int → (ObjS → Option (Int)) → (List ObjS) → (Int → Option ((List Int))) → (Int → Option ((List jaj))) → (Int → Option (jal)) → Option Res
  | 0, _, _, _, _, _, _ => none
  | m + 1, x0_2, x0_3, x0_4, x0_5, x0_6, x0_7 => jos n qr_z04 k_r k_t0 x0_0 x0_1 x0_9 (jgj n qr_z04 k_r k_t0 x0_0 x0_1 x0_9 m) x0_2 x0_3 x0_4 x0_5 x0_6 x0_7
def jvE (n : Nat) (qr_z04 : ObjS → (ObjS → Option (Int)) → (List ObjS) → (Int → Option ((List Int))) → (Int → Option ((List jaj))) → (Int → Option (jal)) → Option (RS jbF jbG)) (a0 : ObjS) (a1 : (ObjS → Option (Int))) (a2 : (List ObjS)) (a3 : (Int → Option ((List Int)))) (a4 : (Int → Option ((List jaj)))) (a5 : (Int → Option (jal))) : Option Res :=
 cond ((Option.getD (a1 a0) (0 : Int)) != (0 : Int))
 (some (jac jbF jbG ((((Option.getD (a1 a0) (0 : Int)) == (1 : Int)), ()), (((), ()), (a1, (((), ()), (((), ((), ((), (a2, ())))), (a3, (a4, (a5, (((), ()), ())))))))))))
 (let y1 : ((Nat × Unit) × ((Unit × (Unit × (Unit × ((List ObjS) × Unit)))) × ((Int → Option ((List Int))) × ((Int → Option ((List jaj))) × ((Int → Option (jal)) × ((List ObjS) × Unit)))))) := (q_z03 a0 a2 a3 a4 a5)
 cond (ok_z03 a0 a2 a3 a4 a5)
 (jgj n qr_z04
  (fun y3 y4 y5 y6 y7 y8 => some (jac jbF jbG ((y3, ()), (((), ()), (y4, (((), ()), (((), ((), ((), (y5, ())))), (y6, (y7, (y8, (((), ()), ())))))))))))
  (fun y9 y10 y11 y12 y13 => some (jac jbF jbG ((false, ()), (((), ()), ((fun i => cond (Ty.keq ObjT i a0) (some (2 : Int)) (y9 i)), (((), ()), (((), ((), ((), (y10, ())))), (y11, (y12, (y13, (((), ()), ())))))))))))
  y1.1.1
  ((y1.1.1 : Nat) : Int)
  y1.2.2.2.2.2.1
  n
  (0 : Int)
  (fun i => cond (Ty.keq ObjT i a0) (some (1 : Int)) (a1 i))
  y1.2.1.2.2.2.1
  y1.2.2.1
  y1.2.2.2.1
  y1.2.2.2.2.1)
 (none))
def jkf : Nat → ObjS → (ObjS → Option (Int)) → (List ObjS) → (Int → Option ((List Int))) → (Int → Option ((List jaj))) → (Int → Option (jal)) → Option (RS jbF jbG)
  | 0, _, _, _, _, _, _ => none
  | dp + 1, a0, a1, a2, a3, a4, a5 => jaR jbF jbG (jvE FUEL (jkf dp) a0 a1 a2 a3 a4 a5)
def jER (a0 : ObjS) (a1 : (ObjS → Option (Int))) (a2 : (List ObjS)) (a3 : (Int → Option ((List Int)))) (a4 : (Int → Option ((List jaj)))) (a5 : (Int → Option (jal))) : Option (RS jbF jbG) := jkf FUEL a0 a1 a2 a3 a4 a5
def jpt (a0 : ObjS) (a1 : (ObjS → Option (Int))) (a2 : (List ObjS)) (a3 : (Int → Option ((List Int)))) (a4 : (Int → Option ((List jaj)))) (a5 : (Int → Option (jal))) : Bool := (jER a0 a1 a2 a3 a4 a5).isSome
def jkB (a0 : ObjS) (a1 : (ObjS → Option (Int))) (a2 : (List ObjS)) (a3 : (Int → Option ((List Int)))) (a4 : (Int → Option ((List jaj)))) (a5 : (Int → Option (jal))) : RS jbF jbG := RS.get (jER a0 a1 a2 a3 a4 a5)
/-! z05: bound_solver_cycle -/
abbrev jlK : List EK := [.ty .bool]
abbrev jjL : List HK := [.one false [.mp 1, .mp 2, .mp 3, .ty (.slice ObjT)], .mf (.int .i64) (.slice (.int .i64)), .mf (.int .i64) (.slice jaV), .mf (.int .i64) jaW]
def jjz (n : Nat) (k_r : Bool → (List ObjS) → (Int → Option ((List Int))) → (Int → Option ((List jaj))) → (Int → Option (jal)) → Option Res) (k_t0 : (List ObjS) → (Int → Option ((List Int))) → (Int → Option ((List jaj))) → (Int → Option (jal)) → Option Res) (x0_0 : (List ObjS)) (x0_1 : Int) (rec : Int → (List ObjS) → (Int → Option ((List Int))) → (Int → Option ((List jaj))) → (Int → Option (jal)) → (ObjS → Option (Int)) → Option Res) (x0_2 : Int) (x0_3 : (List ObjS)) (x0_4 : (Int → Option ((List Int)))) (x0_5 : (Int → Option ((List jaj)))) (x0_6 : (Int → Option (jal))) (x0_7 : (ObjS → Option (Int))) : Option Res :=
 cond (decide (x0_2 < x0_1))
 (cond (decide ((0 : Int) ≤ x0_2 ∧ x0_2 < (((List.length x0_0) : Nat) : Int)))
 (let y1 : ((Bool × Unit) × ((Unit × Unit) × ((ObjS → Option (Int)) × ((Unit × Unit) × ((Unit × (Unit × (Unit × ((List ObjS) × Unit)))) × ((Int → Option ((List Int))) × ((Int → Option ((List jaj))) × ((Int → Option (jal)) × ((Unit × Unit) × Unit))))))))) := (jkB (rdd jbN x0_0 (Int.toNat x0_2)) x0_7 x0_3 x0_4 x0_5 x0_6)
 cond (jpt (rdd jbN x0_0 (Int.toNat x0_2)) x0_7 x0_3 x0_4 x0_5 x0_6)
 (cond y1.1.1
 (k_r true y1.2.2.2.2.1.2.2.2.1 y1.2.2.2.2.2.1 y1.2.2.2.2.2.2.1 y1.2.2.2.2.2.2.2.1)
 (rec (IntKind.wrap .i64 (x0_2 + (1 : Int))) y1.2.2.2.2.1.2.2.2.1 y1.2.2.2.2.2.1 y1.2.2.2.2.2.2.1 y1.2.2.2.2.2.2.2.1 y1.2.2.1))
 (none))
 (none))
 (k_t0 x0_3 x0_4 x0_5 x0_6)
def jft (n : Nat) (k_r : Bool → (List ObjS) → (Int → Option ((List Int))) → (Int → Option ((List jaj))) → (Int → Option (jal)) → Option Res) (k_t0 : (List ObjS) → (Int → Option ((List Int))) → (Int → Option ((List jaj))) → (Int → Option (jal)) → Option Res) (x0_0 : (List ObjS)) (x0_1 : Int) : Nat → Int → (List ObjS) → (Int → Option ((List Int))) → (Int → Option ((List jaj))) → (Int → Option (jal)) → (ObjS → Option (Int)) → Option Res
  | 0, _, _, _, _, _, _ => none
  | m + 1, x0_2, x0_3, x0_4, x0_5, x0_6, x0_7 => jjz n k_r k_t0 x0_0 x0_1 (jft n k_r k_t0 x0_0 x0_1 m) x0_2 x0_3 x0_4 x0_5 x0_6 x0_7
def jFI (n : Nat) (a0 : (List ObjS)) (a1 : (Int → Option ((List Int)))) (a2 : (Int → Option ((List jaj)))) (a3 : (Int → Option (jal))) : Option Res :=
 jft n
  (fun y2 y3 y4 y5 y6 => some (jac jlK jjL ((y2, ()), (((), ((), ((), (y3, ())))), (y4, (y5, (y6, ())))))))
  (fun y7 y8 y9 y10 => some (jac jlK jjL ((false, ()), (((), ((), ((), (y7, ())))), (y8, (y9, (y10, ())))))))
  a0
  (((List.length a0) : Nat) : Int)
  n
  (0 : Int)
  a0
  a1
  a2
  a3
  (fun _ => none)
def jEQ (a0 : (List ObjS)) (a1 : (Int → Option ((List Int)))) (a2 : (Int → Option ((List jaj)))) (a3 : (Int → Option (jal))) : Option (RS jlK jjL) := jaR jlK jjL (jFI FUEL a0 a1 a2 a3)
def jFX (a0 : (List ObjS)) (a1 : (Int → Option ((List Int)))) (a2 : (Int → Option ((List jaj)))) (a3 : (Int → Option (jal))) : Bool := (jEQ a0 a1 a2 a3).isSome
def q_z05 (a0 : (List ObjS)) (a1 : (Int → Option ((List Int)))) (a2 : (Int → Option ((List jaj)))) (a3 : (Int → Option (jal))) : RS jlK jjL := RS.get (jEQ a0 a1 a2 a3)
abbrev jaP : List EK := [.ty (.int .i64)]
abbrev jaQ : List HK := [.one false [.mp 1], .mf ObjT (.int .i64), .one false [.ptr 3 0 0], .one false [.mp 4, .mp 5, .mp 6, .ty (.slice ObjT)], .mf (.int .i64) (.slice (.int .i64)), .mf (.int .i64) (.slice jaV), .mf (.int .i64) jaW, .one false [.fn 57 [(0, 0, 0), (2, 0, 0), (7, 0, 0), (8, 0, 0)]], .one false [.fn 56 [(7, 0, 0)]]]
/-! z06: bound_solver_most_1 -/
abbrev jmS : List EK := [.ty (.int .i64)]
abbrev jmZ : List HK := [.one false [.fn 57 [(1, 0, 0), (3, 0, 0), (0, 0, 0), (8, 0, 0)]], .one false [.mp 2], .mf ObjT (.int .i64), .one false [.ptr 4 0 0], .one false [.mp 5, .mp 6, .mp 7, .ty (.slice ObjT)], .mf (.int .i64) (.slice (.int .i64)), .mf (.int .i64) (.slice jaV), .mf (.int .i64) jaW, .one false [.fn 56 [(0, 0, 0)]]]
def jor (n : Nat) (qr_z07 : ObjS → (ObjS → Option (Int)) → (List ObjS) → (Int → Option ((List Int))) → (Int → Option ((List jaj))) → (Int → Option (jal)) → Option (RS jaP jaQ)) (k_t0 : (ObjS → Option (Int)) → (List ObjS) → (Int → Option ((List Int))) → (Int → Option ((List jaj))) → (Int → Option (jal)) → (List Int) → Option Res) (x0_0 : (List jaj)) (x0_1 : Nat) (rec : Int → (ObjS → Option (Int)) → (List ObjS) → (Int → Option ((List Int))) → (Int → Option ((List jaj))) → (Int → Option (jal)) → (List Int) → Option Res) (x0_2 : Int) (x0_3 : (ObjS → Option (Int))) (x0_4 : (List ObjS)) (x0_5 : (Int → Option ((List Int)))) (x0_6 : (Int → Option ((List jaj)))) (x0_7 : (Int → Option (jal))) (x0_8 : (List Int)) : Option Res :=
 cond (decide (x0_2 ≥ (0 : Int)))
 (cond (decide ((0 : Int) ≤ (IntKind.wrap .i64 (x0_2 + (1 : Int))) ∧ (IntKind.wrap .i64 (x0_2 + (1 : Int))) < ((x0_1 : Nat) : Int)))
 (cond (decide ((0 : Int) ≤ x0_2 ∧ x0_2 < (((List.length x0_0) : Nat) : Int)))
 (cond ((rdd jae x0_0 (Int.toNat x0_2)).1 == (23 : Int))
 (let y1 : Int := (if (IntKind.wrap .i64 ((1 : Int) + (0 : Int))) < (65537 : Int) then (IntKind.wrap .i64 ((1 : Int) + (0 : Int))) else (65537 : Int))
 cond (decide ((0 : Int) ≤ x0_2 ∧ x0_2 < ((x0_1 : Nat) : Int)))
 (rec (IntKind.wrap .i64 (x0_2 - (1 : Int))) x0_3 x0_4 x0_5 x0_6 x0_7 (List.set x0_8 (Int.toNat x0_2) y1))
 (none))
 (cond ((rdd jae x0_0 (Int.toNat x0_2)).1 == (22 : Int))
 (let y2 : Int := (if (IntKind.wrap .i64 ((1 : Int) + (0 : Int))) < (65537 : Int) then (IntKind.wrap .i64 ((1 : Int) + (0 : Int))) else (65537 : Int))
 cond (decide ((0 : Int) ≤ x0_2 ∧ x0_2 < ((x0_1 : Nat) : Int)))
 (rec (IntKind.wrap .i64 (x0_2 - (1 : Int))) x0_3 x0_4 x0_5 x0_6 x0_7 (List.set x0_8 (Int.toNat x0_2) y2))
 (none))
 (cond ((rdd jae x0_0 (Int.toNat x0_2)).1 == (13 : Int))
 (cond (decide ((0 : Int) ≤ x0_2 ∧ x0_2 < (((List.length x0_0) : Nat) : Int)))
 (let y3 : ((Int × Unit) × ((Unit × Unit) × ((ObjS → Option (Int)) × ((Unit × Unit) × ((Unit × (Unit × (Unit × ((List ObjS) × Unit)))) × ((Int → Option ((List Int))) × ((Int → Option ((List jaj))) × ((Int → Option (jal)) × ((Unit × Unit) × ((Unit × Unit) × Unit)))))))))) := (RS.get (qr_z07 ((0 : Int), (rdd jae x0_0 (Int.toNat x0_2)).2.2.2.2) x0_3 x0_4 x0_5 x0_6 x0_7))
 cond (Option.isSome (qr_z07 ((0 : Int), (rdd jae x0_0 (Int.toNat x0_2)).2.2.2.2) x0_3 x0_4 x0_5 x0_6 x0_7))
 (let y4 : Int := (if (IntKind.wrap .i64 ((1 : Int) + y3.1.1)) < (65537 : Int) then (IntKind.wrap .i64 ((1 : Int) + y3.1.1)) else (65537 : Int))
 cond (decide ((0 : Int) ≤ x0_2 ∧ x0_2 < ((x0_1 : Nat) : Int)))
 (rec (IntKind.wrap .i64 (x0_2 - (1 : Int))) y3.2.2.1 y3.2.2.2.2.1.2.2.2.1 y3.2.2.2.2.2.1 y3.2.2.2.2.2.2.1 y3.2.2.2.2.2.2.2.1 (List.set x0_8 (Int.toNat x0_2) y4))
 (none))
 (none))
 (none))
 (cond ((rdd jae x0_0 (Int.toNat x0_2)).1 == (14 : Int))
 (cond (decide ((0 : Int) ≤ x0_2 ∧ x0_2 < (((List.length x0_0) : Nat) : Int)))
 (let y5 : ((Int × Unit) × ((Unit × Unit) × ((ObjS → Option (Int)) × ((Unit × Unit) × ((Unit × (Unit × (Unit × ((List ObjS) × Unit)))) × ((Int → Option ((List Int))) × ((Int → Option ((List jaj))) × ((Int → Option (jal)) × ((Unit × Unit) × ((Unit × Unit) × Unit)))))))))) := (RS.get (qr_z07 ((2 : Int), (rdd jae x0_0 (Int.toNat x0_2)).2.2.2.2) x0_3 x0_4 x0_5 x0_6 x0_7))
 cond (Option.isSome (qr_z07 ((2 : Int), (rdd jae x0_0 (Int.toNat x0_2)).2.2.2.2) x0_3 x0_4 x0_5 x0_6 x0_7))
 (let y6 : Int := (if (IntKind.wrap .i64 ((1 : Int) + y5.1.1)) < (65537 : Int) then (IntKind.wrap .i64 ((1 : Int) + y5.1.1)) else (65537 : Int))
 cond (decide ((0 : Int) ≤ x0_2 ∧ x0_2 < ((x0_1 : Nat) : Int)))
 (rec (IntKind.wrap .i64 (x0_2 - (1 : Int))) y5.2.2.1 y5.2.2.2.2.1.2.2.2.1 y5.2.2.2.2.2.1 y5.2.2.2.2.2.2.1 y5.2.2.2.2.2.2.2.1 (List.set x0_8 (Int.toNat x0_2) y6))
 (none))
 (none))
 (none))
 (cond ((rdd jae x0_0 (Int.toNat x0_2)).1 == (12 : Int))
 (cond (decide ((0 : Int) ≤ x0_2 ∧ x0_2 < (((List.length x0_0) : Nat) : Int)))
 (cond (decide ((rdd jae x0_0 (Int.toNat x0_2)).2.2.2.2.1 ≥ (0 : Int)))
 (let y7 : Int := (IntKind.wrap .i64 ((IntKind.wrap .i64 ((((List.length x0_0) : Nat) : Int) - (1 : Int))) - x0_2))
 cond (decide ((rdd jae x0_0 (Int.toNat x0_2)).2.2.2.2.1 < y7))
 (let y8 : Int := (IntKind.wrap .i64 ((IntKind.wrap .i64 (x0_2 + (1 : Int))) + (rdd jae x0_0 (Int.toNat x0_2)).2.2.2.2.1))
 cond (decide ((0 : Int) ≤ y8 ∧ y8 < ((x0_1 : Nat) : Int)))
 (let y9 : Int := (if (rdd (0 : Int) x0_8 (Int.toNat y8)) > (rdd (0 : Int) x0_8 (Int.toNat (IntKind.wrap .i64 (x0_2 + (1 : Int))))) then (rdd (0 : Int) x0_8 (Int.toNat y8)) else (rdd (0 : Int) x0_8 (Int.toNat (IntKind.wrap .i64 (x0_2 + (1 : Int))))))
 let y10 : Int := (if (IntKind.wrap .i64 ((1 : Int) + y9)) < (65537 : Int) then (IntKind.wrap .i64 ((1 : Int) + y9)) else (65537 : Int))
 cond (decide ((0 : Int) ≤ x0_2 ∧ x0_2 < ((x0_1 : Nat) : Int)))
 (rec (IntKind.wrap .i64 (x0_2 - (1 : Int))) x0_3 x0_4 x0_5 x0_6 x0_7 (List.set x0_8 (Int.toNat x0_2) y10))
 (none))
 (none))
 (let y11 : Int := (IntKind.wrap .i64 ((1 : Int) + (rdd (0 : Int) x0_8 (Int.toNat (IntKind.wrap .i64 (x0_2 + (1 : Int)))))))
 cond (decide ((0 : Int) ≤ x0_2 ∧ x0_2 < ((x0_1 : Nat) : Int)))
 (rec (IntKind.wrap .i64 (x0_2 - (1 : Int))) x0_3 x0_4 x0_5 x0_6 x0_7 (List.set x0_8 (Int.toNat x0_2) (if y11 < (65537 : Int) then y11 else (65537 : Int))))
 (none)))
 (let y12 : Int := (IntKind.wrap .i64 ((1 : Int) + (rdd (0 : Int) x0_8 (Int.toNat (IntKind.wrap .i64 (x0_2 + (1 : Int)))))))
 cond (decide ((0 : Int) ≤ x0_2 ∧ x0_2 < ((x0_1 : Nat) : Int)))
 (rec (IntKind.wrap .i64 (x0_2 - (1 : Int))) x0_3 x0_4 x0_5 x0_6 x0_7 (List.set x0_8 (Int.toNat x0_2) (if y12 < (65537 : Int) then y12 else (65537 : Int))))
 (none)))
 (none))
 (let y13 : Int := (IntKind.wrap .i64 ((1 : Int) + (rdd (0 : Int) x0_8 (Int.toNat (IntKind.wrap .i64 (x0_2 + (1 : Int)))))))
 cond (decide ((0 : Int) ≤ x0_2 ∧ x0_2 < ((x0_1 : Nat) : Int)))
 (rec (IntKind.wrap .i64 (x0_2 - (1 : Int))) x0_3 x0_4 x0_5 x0_6 x0_7 (List.set x0_8 (Int.toNat x0_2) (if y13 < (65537 : Int) then y13 else (65537 : Int))))
 (none)))))))
 (none))
 (none))
 (k_t0 x0_3 x0_4 x0_5 x0_6 x0_7 x0_8)
def jjv (n : Nat) (qr_z07 : ObjS → (ObjS → Option (Int)) → (List ObjS) → (Int → Option ((List Int))) → (Int → Option ((List jaj))) → (Int → Option (jal)) → Option (RS jaP jaQ)) (k_t0 : (ObjS → Option (Int)) → (List ObjS) → (Int → Option ((List Int))) → (Int → Option ((List jaj))) → (Int → Option (jal)) → (List Int) → Option Res) (x0_0 : (List jaj)) (x0_1 : Nat) : Nat → Int → (ObjS → Option (Int)) → (List ObjS) → (Int → Option ((List Int))) → (Int → Option ((List jaj))) → (Int → Option (jal)) → (List Int) → Option Res
  | 0, _, _, _, _, _, _, _ => none
  | m + 1, x0_2, x0_3, x0_4, x0_5, x0_6, x0_7, x0_8 => jor n qr_z07 k_t0 x0_0 x0_1 (jjv n qr_z07 k_t0 x0_0 x0_1 m) x0_2 x0_3 x0_4 x0_5 x0_6 x0_7 x0_8
def jFH (n : Nat) (qr_z07 : ObjS → (ObjS → Option (Int)) → (List ObjS) → (Int → Option ((List Int))) → (Int → Option ((List jaj))) → (Int → Option (jal)) → Option (RS jaP jaQ)) (a0 : (List jaj)) (a1 : (ObjS → Option (Int))) (a2 : (List ObjS)) (a3 : (Int → Option ((List Int)))) (a4 : (Int → Option ((List jaj)))) (a5 : (Int → Option (jal))) : Option Res :=
 cond (decide ((0 : Int) ≤ (IntKind.wrap .i64 ((((List.length a0) : Nat) : Int) + (1 : Int))) ∧ (IntKind.wrap .i64 ((((List.length a0) : Nat) : Int) + (1 : Int))) ≤ (IntKind.wrap .i64 ((((List.length a0) : Nat) : Int) + (1 : Int))) ∧ (8 : Nat) * (IntKind.wrap .i64 ((((List.length a0) : Nat) : Int) + (1 : Int))) ≤ (2 : Int) ^ 46))
 (jjv n qr_z07
  (fun y14 y15 y16 y17 y18 y19 => cond (decide ((0 : Int) ≤ (0 : Int) ∧ (0 : Int) < (((Int.toNat (IntKind.wrap .i64 ((((List.length a0) : Nat) : Int) + (1 : Int)))) : Nat) : Int)))
 (some (jac jmS jmZ (((rdd (0 : Int) y19 0), ()), (((), ()), (((), ()), (y14, (((), ()), (((), ((), ((), (y15, ())))), (y16, (y17, (y18, (((), ()), ()))))))))))))
 (none))
  a0
  (Int.toNat (IntKind.wrap .i64 ((((List.length a0) : Nat) : Int) + (1 : Int))))
  n
  (IntKind.wrap .i64 ((((List.length a0) : Nat) : Int) - (1 : Int)))
  a1
  a2
  a3
  a4
  a5
  (List.replicate (Int.toNat (IntKind.wrap .i64 ((((List.length a0) : Nat) : Int) + (1 : Int)))) (0 : Int)))
 (none)
def jEP (qr_z07 : ObjS → (ObjS → Option (Int)) → (List ObjS) → (Int → Option ((List Int))) → (Int → Option ((List jaj))) → (Int → Option (jal)) → Option (RS jaP jaQ)) (a0 : (List jaj)) (a1 : (ObjS → Option (Int))) (a2 : (List ObjS)) (a3 : (Int → Option ((List Int)))) (a4 : (Int → Option ((List jaj)))) (a5 : (Int → Option (jal))) : Option (RS jmS jmZ) := jaR jmS jmZ (jFH FUEL qr_z07 a0 a1 a2 a3 a4 a5)
def ok_z06 (qr_z07 : ObjS → (ObjS → Option (Int)) → (List ObjS) → (Int → Option ((List Int))) → (Int → Option ((List jaj))) → (Int → Option (jal)) → Option (RS jaP jaQ)) (a0 : (List jaj)) (a1 : (ObjS → Option (Int))) (a2 : (List ObjS)) (a3 : (Int → Option ((List Int)))) (a4 : (Int → Option ((List jaj)))) (a5 : (Int → Option (jal))) : Bool := (jEP qr_z07 a0 a1 a2 a3 a4 a5).isSome
def q_z06 (qr_z07 : ObjS → (ObjS → Option (Int)) → (List ObjS) → (Int → Option ((List Int))) → (Int → Option ((List jaj))) → (Int → Option (jal)) → Option (RS jaP jaQ)) (a0 : (List jaj)) (a1 : (ObjS → Option (Int))) (a2 : (List ObjS)) (a3 : (Int → Option ((List Int)))) (a4 : (Int → Option ((List jaj)))) (a5 : (Int → Option (jal))) : RS jmS jmZ := RS.get (jEP qr_z07 a0 a1 a2 a3 a4 a5)
/-! z07: bound_solver_most_2 -/
def joq (n : Nat) (qr_z07 : ObjS → (ObjS → Option (Int)) → (List ObjS) → (Int → Option ((List Int))) → (Int → Option ((List jaj))) → (Int → Option (jal)) → Option (RS jaP jaQ)) (k_t3 : Int → (ObjS → Option (Int)) → (List ObjS) → (Int → Option ((List Int))) → (Int → Option ((List jaj))) → (Int → Option (jal)) → Option Res) (x3_2 : (List Int)) (x3_3 : Int) (rec : Int → Int → (ObjS → Option (Int)) → (List ObjS) → (Int → Option ((List Int))) → (Int → Option ((List jaj))) → (Int → Option (jal)) → Option Res) (x3_0 : Int) (x3_4 : Int) (x3_5 : (ObjS → Option (Int))) (x3_6 : (List ObjS)) (x3_7 : (Int → Option ((List Int)))) (x3_8 : (Int → Option ((List jaj)))) (x3_9 : (Int → Option (jal))) : Option Res :=
 cond (decide (x3_4 < x3_3))
 (cond (decide ((0 : Int) ≤ x3_4 ∧ x3_4 < (((List.length x3_2) : Nat) : Int)))
 (let y1 : ((Int × Unit) × ((Unit × Unit) × ((ObjS → Option (Int)) × ((Unit × Unit) × ((Unit × (Unit × (Unit × ((List ObjS) × Unit)))) × ((Int → Option ((List Int))) × ((Int → Option ((List jaj))) × ((Int → Option (jal)) × ((Unit × Unit) × ((Unit × Unit) × Unit)))))))))) := (RS.get (qr_z07 ((1 : Int), ((rdd (0 : Int) x3_2 (Int.toNat x3_4)), ())) x3_5 x3_6 x3_7 x3_8 x3_9))
 cond (Option.isSome (qr_z07 ((1 : Int), ((rdd (0 : Int) x3_2 (Int.toNat x3_4)), ())) x3_5 x3_6 x3_7 x3_8 x3_9))
 (rec (if y1.1.1 > x3_0 then y1.1.1 else x3_0) (IntKind.wrap .i64 (x3_4 + (1 : Int))) y1.2.2.1 y1.2.2.2.2.1.2.2.2.1 y1.2.2.2.2.2.1 y1.2.2.2.2.2.2.1 y1.2.2.2.2.2.2.2.1)
 (none))
 (none))
 (k_t3 x3_0 x3_5 x3_6 x3_7 x3_8 x3_9)
def jlA (n : Nat) (qr_z07 : ObjS → (ObjS → Option (Int)) → (List ObjS) → (Int → Option ((List Int))) → (Int → Option ((List jaj))) → (Int → Option (jal)) → Option (RS jaP jaQ)) (k_t3 : Int → (ObjS → Option (Int)) → (List ObjS) → (Int → Option ((List Int))) → (Int → Option ((List jaj))) → (Int → Option (jal)) → Option Res) (x3_2 : (List Int)) (x3_3 : Int) : Nat → Int → Int → (ObjS → Option (Int)) → (List ObjS) → (Int → Option ((List Int))) → (Int → Option ((List jaj))) → (Int → Option (jal)) → Option Res
  | 0, _, _, _, _, _, _, _ => none
  | m + 1, x3_0, x3_4, x3_5, x3_6, x3_7, x3_8, x3_9 => joq n qr_z07 k_t3 x3_2 x3_3 (jlA n qr_z07 k_t3 x3_2 x3_3 m) x3_0 x3_4 x3_5 x3_6 x3_7 x3_8 x3_9
def jlG (n : Nat) (qr_z07 : ObjS → (ObjS → Option (Int)) → (List ObjS) → (Int → Option ((List Int))) → (Int → Option ((List jaj))) → (Int → Option (jal)) → Option (RS jaP jaQ)) (k_t1 : Int → (ObjS → Option (Int)) → (List ObjS) → (Int → Option ((List Int))) → (Int → Option ((List jaj))) → (Int → Option (jal)) → Option Res) (x1_1 : (List jbt)) (x1_2 : Int) (x1_10 : jal) (rec : Int → Int → (ObjS → Option (Int)) → (List ObjS) → (Int → Option ((List Int))) → (Int → Option ((List jaj))) → (Int → Option (jal)) → Option Res) (x1_0 : Int) (x1_3 : Int) (x1_4 : (ObjS → Option (Int))) (x1_5 : (List ObjS)) (x1_6 : (Int → Option ((List Int)))) (x1_7 : (Int → Option ((List jaj)))) (x1_8 : (Int → Option (jal))) : Option Res :=
 cond (decide (x1_3 < x1_2))
 (cond (decide ((0 : Int) ≤ x1_3 ∧ x1_3 < (((List.length x1_1) : Nat) : Int)))
 (let y12 : ((Int × Unit) × ((Unit × Unit) × ((ObjS → Option (Int)) × ((Unit × Unit) × ((Unit × (Unit × (Unit × ((List ObjS) × Unit)))) × ((Int → Option ((List Int))) × ((Int → Option ((List jaj))) × ((Int → Option (jal)) × ((Unit × Unit) × ((Unit × Unit) × Unit)))))))))) := (RS.get (qr_z07 ((1 : Int), (rdd jba x1_1 (Int.toNat x1_3)).2) x1_4 x1_5 x1_6 x1_7 x1_8))
 cond (Option.isSome (qr_z07 ((1 : Int), (rdd jba x1_1 (Int.toNat x1_3)).2) x1_4 x1_5 x1_6 x1_7 x1_8))
 (cond (x1_10.2.1 == (1 : Int))
 (let y13 : Int := (if (IntKind.wrap .i64 (x1_0 + y12.1.1)) < (65537 : Int) then (IntKind.wrap .i64 (x1_0 + y12.1.1)) else (65537 : Int))
 rec y13 (IntKind.wrap .i64 (x1_3 + (1 : Int))) y12.2.2.1 y12.2.2.2.2.1.2.2.2.1 y12.2.2.2.2.2.1 y12.2.2.2.2.2.2.1 y12.2.2.2.2.2.2.2.1)
 (rec (if y12.1.1 > x1_0 then y12.1.1 else x1_0) (IntKind.wrap .i64 (x1_3 + (1 : Int))) y12.2.2.1 y12.2.2.2.2.1.2.2.2.1 y12.2.2.2.2.2.1 y12.2.2.2.2.2.2.1 y12.2.2.2.2.2.2.2.1))
 (none))
 (none))
 (k_t1 x1_0 x1_4 x1_5 x1_6 x1_7 x1_8)
def jlB (n : Nat) (qr_z07 : ObjS → (ObjS → Option (Int)) → (List ObjS) → (Int → Option ((List Int))) → (Int → Option ((List jaj))) → (Int → Option (jal)) → Option (RS jaP jaQ)) (k_t1 : Int → (ObjS → Option (Int)) → (List ObjS) → (Int → Option ((List Int))) → (Int → Option ((List jaj))) → (Int → Option (jal)) → Option Res) (x1_1 : (List jbt)) (x1_2 : Int) (x1_10 : jal) : Nat → Int → Int → (ObjS → Option (Int)) → (List ObjS) → (Int → Option ((List Int))) → (Int → Option ((List jaj))) → (Int → Option (jal)) → Option Res
  | 0, _, _, _, _, _, _, _ => none
  | m + 1, x1_0, x1_3, x1_4, x1_5, x1_6, x1_7, x1_8 => jlG n qr_z07 k_t1 x1_1 x1_2 x1_10 (jlB n qr_z07 k_t1 x1_1 x1_2 x1_10 m) x1_0 x1_3 x1_4 x1_5 x1_6 x1_7 x1_8
def jsC (n : Nat) (qr_z07 : ObjS → (ObjS → Option (Int)) → (List ObjS) → (Int → Option ((List Int))) → (Int → Option ((List jaj))) → (Int → Option (jal)) → Option (RS jaP jaQ)) (a0 : ObjS) (a1 : (ObjS → Option (Int))) (a2 : (List ObjS)) (a3 : (Int → Option ((List Int)))) (a4 : (Int → Option ((List jaj)))) (a5 : (Int → Option (jal))) : Option Res :=
 cond (Option.isSome (a1 a0))
 (some (jac jaP jaQ (((Option.getD (a1 a0) (0 : Int)), ()), (((), ()), (a1, (((), ()), (((), ((), ((), (a2, ())))), (a3, (a4, (a5, (((), ()), (((), ()), ()))))))))))))
 (cond (a0.1 == (0 : Int))
 (jlA n qr_z07
  (fun y2 y3 y4 y5 y6 y7 => cond (Option.isSome (a3 a0.2.1))
 (let y8 : Int := (if (IntKind.wrap .i64 (y2 + (1 : Int))) < (65537 : Int) then (IntKind.wrap .i64 (y2 + (1 : Int))) else (65537 : Int))
 some (jac jaP jaQ (((Option.getD ((fun i => cond (Ty.keq ObjT i a0) (some y8) (y3 i)) a0) (0 : Int)), ()), (((), ()), ((fun i => cond (Ty.keq ObjT i a0) (some y8) (y3 i)), (((), ()), (((), ((), ((), (y4, ())))), (y5, (y6, (y7, (((), ()), (((), ()), ()))))))))))))
 (let y9 : Int := (Option.getD ((fun i => cond (Ty.keq ObjT i a0) (some (if y2 < (65537 : Int) then y2 else (65537 : Int))) (y3 i)) a0) (0 : Int))
 some (jac jaP jaQ ((y9, ()), (((), ()), ((fun i => cond (Ty.keq ObjT i a0) (some (if y2 < (65537 : Int) then y2 else (65537 : Int))) (y3 i)), (((), ()), (((), ((), ((), (y4, ())))), (y5, (y6, (y7, (((), ()), (((), ()), ())))))))))))))
  (Option.getD (a3 a0.2.1) [])
  (((List.length (Option.getD (a3 a0.2.1) [])) : Nat) : Int)
  n
  (0 : Int)
  (0 : Int)
  a1
  a2
  a3
  a4
  a5)
 (cond (a0.1 == (1 : Int))
 (let y10 : ((Int × Unit) × ((Unit × Unit) × ((Unit × Unit) × ((ObjS → Option (Int)) × ((Unit × Unit) × ((Unit × (Unit × (Unit × ((List ObjS) × Unit)))) × ((Int → Option ((List Int))) × ((Int → Option ((List jaj))) × ((Int → Option (jal)) × ((Unit × Unit) × Unit)))))))))) := (q_z06 qr_z07 (Option.getD (a4 a0.2.1) []) a1 a2 a3 a4 a5)
 cond (ok_z06 qr_z07 (Option.getD (a4 a0.2.1) []) a1 a2 a3 a4 a5)
 (let y11 : Int := (Option.getD ((fun i => cond (Ty.keq ObjT i a0) (some (if y10.1.1 < (65537 : Int) then y10.1.1 else (65537 : Int))) (y10.2.2.2.1 i)) a0) (0 : Int))
 some (jac jaP jaQ ((y11, ()), (((), ()), ((fun i => cond (Ty.keq ObjT i a0) (some (if y10.1.1 < (65537 : Int) then y10.1.1 else (65537 : Int))) (y10.2.2.2.1 i)), (((), ()), (((), ((), ((), (y10.2.2.2.2.2.1.2.2.2.1, ())))), (y10.2.2.2.2.2.2.1, (y10.2.2.2.2.2.2.2.1, (y10.2.2.2.2.2.2.2.2.1, (((), ()), (((), ()), ()))))))))))))
 (none))
 (jlB n qr_z07
  (fun y14 y15 y16 y17 y18 y19 => let y20 : Int := (Option.getD ((fun i => cond (Ty.keq ObjT i a0) (some (if y14 < (65537 : Int) then y14 else (65537 : Int))) (y15 i)) a0) (0 : Int))
 some (jac jaP jaQ ((y20, ()), (((), ()), ((fun i => cond (Ty.keq ObjT i a0) (some (if y14 < (65537 : Int) then y14 else (65537 : Int))) (y15 i)), (((), ()), (((), ((), ((), (y16, ())))), (y17, (y18, (y19, (((), ()), (((), ()), ()))))))))))))
  ((Option.getD (a5 a0.2.1) jak).2.2.2.1)
  (((List.length (Option.getD (a5 a0.2.1) jak).2.2.2.1) : Nat) : Int)
  (Option.getD (a5 a0.2.1) jak)
  n
  (0 : Int)
  (0 : Int)
  a1
  a2
  a3
  a4
  a5)))
def jon : Nat → ObjS → (ObjS → Option (Int)) → (List ObjS) → (Int → Option ((List Int))) → (Int → Option ((List jaj))) → (Int → Option (jal)) → Option (RS jaP jaQ)
  | 0, _, _, _, _, _, _ => none
  | dp + 1, a0, a1, a2, a3, a4, a5 => jaR jaP jaQ (jsC FUEL (jon dp) a0 a1 a2 a3 a4 a5)
def jCr (a0 : ObjS) (a1 : (ObjS → Option (Int))) (a2 : (List ObjS)) (a3 : (Int → Option ((List Int)))) (a4 : (Int → Option ((List jaj)))) (a5 : (Int → Option (jal))) : Option (RS jaP jaQ) := jon FUEL a0 a1 a2 a3 a4 a5
def ok_z07 (a0 : ObjS) (a1 : (ObjS → Option (Int))) (a2 : (List ObjS)) (a3 : (Int → Option ((List Int)))) (a4 : (Int → Option ((List jaj)))) (a5 : (Int → Option (jal))) : Bool := (jCr a0 a1 a2 a3 a4 a5).isSome
def q_z07 (a0 : ObjS) (a1 : (ObjS → Option (Int))) (a2 : (List ObjS)) (a3 : (Int → Option ((List Int)))) (a4 : (Int → Option ((List jaj)))) (a5 : (Int → Option (jal))) : RS jaP jaQ := RS.get (jCr a0 a1 a2 a3 a4 a5)
/-! z08: bound_solver_most -/
abbrev jub : List EK := [.ty (.int .i64)]
abbrev jus : List HK := [.one false [.mp 1, .mp 2, .mp 3, .ty (.slice ObjT)], .mf (.int .i64) (.slice (.int .i64)), .mf (.int .i64) (.slice jaV), .mf (.int .i64) jaW]
def jFG (n : Nat) (a0 : ObjS) (a1 : (List ObjS)) (a2 : (Int → Option ((List Int)))) (a3 : (Int → Option ((List jaj)))) (a4 : (Int → Option (jal))) : Option Res :=
 let y1 : ((Int × Unit) × ((Unit × Unit) × ((ObjS → Option (Int)) × ((Unit × Unit) × ((Unit × (Unit × (Unit × ((List ObjS) × Unit)))) × ((Int → Option ((List Int))) × ((Int → Option ((List jaj))) × ((Int → Option (jal)) × ((Unit × Unit) × ((Unit × Unit) × Unit)))))))))) := (q_z07 a0 (fun _ => none) a1 a2 a3 a4)
 cond (ok_z07 a0 (fun _ => none) a1 a2 a3 a4)
 (some (jac jub jus ((y1.1.1, ()), (((), ((), ((), (y1.2.2.2.2.1.2.2.2.1, ())))), (y1.2.2.2.2.2.1, (y1.2.2.2.2.2.2.1, (y1.2.2.2.2.2.2.2.1, ())))))))
 (none)
def jEO (a0 : ObjS) (a1 : (List ObjS)) (a2 : (Int → Option ((List Int)))) (a3 : (Int → Option ((List jaj)))) (a4 : (Int → Option (jal))) : Option (RS jub jus) := jaR jub jus (jFG FUEL a0 a1 a2 a3 a4)
def ok_z08 (a0 : ObjS) (a1 : (List ObjS)) (a2 : (Int → Option ((List Int)))) (a3 : (Int → Option ((List jaj)))) (a4 : (Int → Option (jal))) : Bool := (jEO a0 a1 a2 a3 a4).isSome
def q_z08 (a0 : ObjS) (a1 : (List ObjS)) (a2 : (Int → Option ((List Int)))) (a3 : (Int → Option ((List jaj)))) (a4 : (Int → Option (jal))) : RS jub jus := RS.get (jEO a0 a1 a2 a3 a4)
/-! z09: bound_of -/
abbrev joV : List EK := [.ty (.int .i64), .ty (.int .i64)]
abbrev jpj : List HK := []
def jFF (n : Nat) (a0 : jaa) (a1 : ObjS) : Option Res :=
 let y1 : ((Unit × Unit) × ((Unit × (Unit × (Unit × ((List ObjS) × Unit)))) × ((Int → Option ((List Int))) × ((Int → Option ((List jaj))) × ((Int → Option (jal)) × Unit))))) := (q_z02 a0)
 cond (jFY a0)
 (let y2 : ((Bool × Unit) × ((Unit × (Unit × (Unit × ((List ObjS) × Unit)))) × ((Int → Option ((List Int))) × ((Int → Option ((List jaj))) × ((Int → Option (jal)) × Unit))))) := (q_z05 y1.2.1.2.2.2.1 y1.2.2.1 y1.2.2.2.1 y1.2.2.2.2.1)
 cond (jFX y1.2.1.2.2.2.1 y1.2.2.1 y1.2.2.2.1 y1.2.2.2.2.1)
 (cond y2.1.1
 (some (jac joV jpj (((0 : Int), ((10 : Int), ())), ())))
 (let y3 : ((Int × Unit) × ((Unit × (Unit × (Unit × ((List ObjS) × Unit)))) × ((Int → Option ((List Int))) × ((Int → Option ((List jaj))) × ((Int → Option (jal)) × Unit))))) := (q_z08 a1 y2.2.1.2.2.2.1 y2.2.2.1 y2.2.2.2.1 y2.2.2.2.2.1)
 cond (ok_z08 a1 y2.2.1.2.2.2.1 y2.2.2.1 y2.2.2.2.1 y2.2.2.2.2.1)
 (some (jac joV jpj ((y3.1.1, ((0 : Int), ())), ())))
 (none)))
 (none))
 (none)
def jEN (a0 : jaa) (a1 : ObjS) : Option (RS joV jpj) := jaR joV jpj (jFF FUEL a0 a1)
def jBk (a0 : jaa) (a1 : ObjS) : Bool := (jEN a0 a1).isSome
def q_z09 (a0 : jaa) (a1 : ObjS) : RS joV jpj := RS.get (jEN a0 a1)
/-! z0a: bound_Block -/
abbrev jua : List EK := [.ty (.int .i64), .ty (.int .i64)]
abbrev jur : List HK := []
def jFE (n : Nat) (a0 : jaa) (a1 : Int) : Option Res :=
 let y1 : ((Int × (Int × Unit)) × Unit) := (q_z09 a0 ((1 : Int), (a1, ())))
 cond (jBk a0 ((1 : Int), (a1, ())))
 (some (jac jua jur ((y1.1.1, (y1.1.2.1, ())), ())))
 (none)
def jCq (a0 : jaa) (a1 : Int) : Option (RS jua jur) := jaR jua jur (jFE FUEL a0 a1)
def jjS (a0 : jaa) (a1 : Int) : Bool := (jCq a0 a1).isSome
def jrb (a0 : jaa) (a1 : Int) : RS jua jur := RS.get (jCq a0 a1)
/-! z0b: bound_Table -/
abbrev jtZ : List EK := [.ty (.int .i64), .ty (.int .i64)]
abbrev juq : List HK := []
def jFD (n : Nat) (a0 : jaa) (a1 : Int) : Option Res :=
 let y1 : ((Int × (Int × Unit)) × Unit) := (q_z09 a0 ((0 : Int), (a1, ())))
 cond (jBk a0 ((0 : Int), (a1, ())))
 (some (jac jtZ juq ((y1.1.1, (y1.1.2.1, ())), ())))
 (none)
def jCp (a0 : jaa) (a1 : Int) : Option (RS jtZ juq) := jaR jtZ juq (jFD FUEL a0 a1)
def juF (a0 : jaa) (a1 : Int) : Bool := (jCp a0 a1).isSome
def jAZ (a0 : jaa) (a1 : Int) : RS jtZ juq := RS.get (jCp a0 a1)
/-! z0c: bound_Group -/
abbrev jtY : List EK := [.ty (.int .i64), .ty (.int .i64)]
abbrev jup : List HK := []
def jFC (n : Nat) (a0 : jaa) (a1 : Int) : Option Res :=
 let y1 : ((Int × (Int × Unit)) × Unit) := (q_z09 a0 ((2 : Int), (a1, ())))
 cond (jBk a0 ((2 : Int), (a1, ())))
 (some (jac jtY jup ((y1.1.1, (y1.1.2.1, ())), ())))
 (none)
def jCo (a0 : jaa) (a1 : Int) : Option (RS jtY jup) := jaR jtY jup (jFC FUEL a0 a1)
def juE (a0 : jaa) (a1 : Int) : Bool := (jCo a0 a1).isSome
def jAY (a0 : jaa) (a1 : Int) : RS jtY jup := RS.get (jCo a0 a1)
/-! z0d: turnoutlaw24_is -/
abbrev joU : List EK := [.ty .bool]
abbrev jpi : List HK := []
def M_z0d (n : Nat) (a0 : Int) (a1 : Int) (a2 : Int) : Option Res :=
 cond (a1 == (0 : Int))
 (some (jac joU jpi (((a0 == a2), ()), ())))
 (some (jac joU jpi ((false, ()), ())))
def Q_z0d (a0 : Int) (a1 : Int) (a2 : Int) : Option (RS joU jpi) := jaR joU jpi (M_z0d FUEL a0 a1 a2)
def juD (a0 : Int) (a1 : Int) (a2 : Int) : Bool := (Q_z0d a0 a1 a2).isSome
def jAX (a0 : Int) (a1 : Int) (a2 : Int) : RS joU jpi := RS.get (Q_z0d a0 a1 a2)
/-! z0e: bound_Cycle -/
abbrev jtX : List EK := [.ty .bool]
abbrev juo : List HK := []
def jFB (n : Nat) (a0 : jaa) : Option Res :=
 let y1 : ((Unit × Unit) × ((Unit × (Unit × (Unit × ((List ObjS) × Unit)))) × ((Int → Option ((List Int))) × ((Int → Option ((List jaj))) × ((Int → Option (jal)) × Unit))))) := (q_z02 a0)
 cond (jFY a0)
 (let y2 : ((Bool × Unit) × ((Unit × (Unit × (Unit × ((List ObjS) × Unit)))) × ((Int → Option ((List Int))) × ((Int → Option ((List jaj))) × ((Int → Option (jal)) × Unit))))) := (q_z05 y1.2.1.2.2.2.1 y1.2.2.1 y1.2.2.2.1 y1.2.2.2.2.1)
 cond (jFX y1.2.1.2.2.2.1 y1.2.2.1 y1.2.2.2.1 y1.2.2.2.2.1)
 (some (jac jtX juo ((y2.1.1, ()), ())))
 (none))
 (none)
def jEM (a0 : jaa) : Option (RS jtX juo) := jaR jtX juo (jFB FUEL a0)
def jps (a0 : jaa) : Bool := (jEM a0).isSome
def jzV (a0 : jaa) : RS jtX juo := RS.get (jEM a0)
/-! z0f: graph_to -/
abbrev joT : List EK := [.ty .bool]
abbrev jph : List HK := []
def jFA (n : Nat) (a0 : Int) : Option Res :=
 cond (decide (a0 ≥ (0 : Int)))
 (some (jac joT jph (((decide (a0 ≤ (65535 : Int))), ()), ())))
 (some (jac joT jph ((false, ()), ())))
def jEL (a0 : Int) : Option (RS joT jph) := jaR joT jph (jFA FUEL a0)
def juC (a0 : Int) : Bool := (jEL a0).isSome
def jAW (a0 : Int) : RS joT jph := RS.get (jEL a0)
/-! z0g: graph_span_may -/
abbrev jjI : List EK := [.ty .bool]
abbrev jjK : List HK := []
def jFz (n : Nat) (a0 : jao) : Option Res :=
 cond (a0.2.1 == (0 : Int))
 (some (jac jjI jjK (((a0.1 == (0 : Int)), ()), ())))
 (cond (decide (a0.2.1 > (0 : Int)))
 (cond (decide (a0.2.1 ≤ a0.2.2.1))
 (cond (decide (a0.1 ≥ (0 : Int)))
 (some (jac jjI jjK (((decide (a0.1 ≤ (2048 : Int))), ()), ())))
 (some (jac jjI jjK ((false, ()), ()))))
 (some (jac jjI jjK ((false, ()), ()))))
 (some (jac jjI jjK ((false, ()), ()))))
def jEK (a0 : jao) : Option (RS jjI jjK) := jaR jjI jjK (jFz FUEL a0)
def jBj (a0 : jao) : Bool := (jEK a0).isSome
def q_z0g (a0 : jao) : RS jjI jjK := RS.get (jEK a0)
/-! z0h: graph_unit -/
abbrev jmR : List EK := [.ty .bool]
abbrev jmY : List HK := []
def jFy (n : Nat) (a0 : jah) : Option Res :=
 cond (a0.2.2.2.1 == (0 : Int))
 (some (jac jmR jmY (((a0.2.2.2.2.1 == (0 : Int)), ()), ())))
 (cond (decide (a0.2.2.2.2.1 ≥ (1 : Int)))
 (some (jac jmR jmY (((decide (a0.2.2.2.2.1 ≤ (256 : Int))), ()), ())))
 (some (jac jmR jmY ((false, ()), ()))))
def jEJ (a0 : jah) : Option (RS jmR jmY) := jaR jmR jmY (jFy FUEL a0)
def jFW (a0 : jah) : Bool := (jEJ a0).isSome
def q_z0h (a0 : jah) : RS jmR jmY := RS.get (jEJ a0)
/-! z0i: graph_Form -/
abbrev jdf : List EK := [.ty .bool]
abbrev jdg : List HK := []
def jtv (n : Nat) (k_r : Bool → Option Res) (k_t0 : Unit → Option Res) (x0_0 : (List ArmS)) (x0_1 : Int) (x0_3 : jah) (rec : Int → Option Res) (x0_2 : Int) : Option Res :=
 cond (decide (x0_2 < x0_1))
 (cond (decide ((0 : Int) ≤ x0_2 ∧ x0_2 < (((List.length x0_0) : Nat) : Int)))
 (cond (decide ((0 : Int) ≤ x0_3.2.2.2.2.2.2.1))
 (let y5 : Int := (Int.fdiv (IntKind.wrap .u64 (rdd jcd x0_0 (Int.toNat x0_2)).1) (2 ^ (min (Int.toNat x0_3.2.2.2.2.2.2.1) (IntKind.bits .u64))))
 cond (decide (y5 > (0 : Int)))
 (k_r false)
 (cond (x0_3.2.2.2.2.2.2.1 == (0 : Int))
 (k_r false)
 (cond (decide (x0_2 > (0 : Int)))
 (cond (decide ((0 : Int) ≤ (IntKind.wrap .i64 (x0_2 - (1 : Int))) ∧ (IntKind.wrap .i64 (x0_2 - (1 : Int))) < (((List.length x0_3.2.2.2.2.2.2.2.1) : Nat) : Int)))
 (cond (decide ((rdd jcd x0_0 (Int.toNat x0_2)).1 ≤ (rdd jcd x0_3.2.2.2.2.2.2.2.1 (Int.toNat (IntKind.wrap .i64 (x0_2 - (1 : Int))))).1))
 (k_r false)
 (let y6 : ((Bool × Unit) × Unit) := (jAW ((rdd jcd x0_0 (Int.toNat x0_2)).2.1))
 cond (juC ((rdd jcd x0_0 (Int.toNat x0_2)).2.1))
 (cond (!y6.1.1)
 (k_r false)
 (rec (IntKind.wrap .i64 (x0_2 + (1 : Int)))))
 (none)))
 (none))
 (let y7 : ((Bool × Unit) × Unit) := (jAW ((rdd jcd x0_0 (Int.toNat x0_2)).2.1))
 cond (juC ((rdd jcd x0_0 (Int.toNat x0_2)).2.1))
 (cond (!y7.1.1)
 (k_r false)
 (rec (IntKind.wrap .i64 (x0_2 + (1 : Int)))))
 (none)))))
 (none))
 (none))
 (k_t0 ())
def jlz (n : Nat) (k_r : Bool → Option Res) (k_t0 : Unit → Option Res) (x0_0 : (List ArmS)) (x0_1 : Int) (x0_3 : jah) : Nat → Int → Option Res
  | 0, _ => none
  | m + 1, x0_2 => jtv n k_r k_t0 x0_0 x0_1 x0_3 (jlz n k_r k_t0 x0_0 x0_1 x0_3 m) x0_2
def jFx (n : Nat) (a0 : jah) : Option Res :=
 cond (decide (a0.1 < (1 : Int)))
 (some (jac jdf jdg ((false, ()), ())))
 (cond (decide (a0.1 > (65534 : Int)))
 (some (jac jdf jdg ((false, ()), ())))
 (cond (decide (a0.2.1 < (0 : Int)))
 (some (jac jdf jdg ((false, ()), ())))
 (cond (decide (a0.2.1 > (256 : Int)))
 (some (jac jdf jdg ((false, ()), ())))
 (let y1 : ((Bool × Unit) × Unit) := (jAW a0.2.2.2.2.2.2.2.2.1)
 cond (juC a0.2.2.2.2.2.2.2.2.1)
 (cond (!y1.1.1)
 (some (jac jdf jdg ((false, ()), ())))
 (cond (decide ((((List.length a0.2.2.2.2.2.2.2.1) : Nat) : Int) > (32 : Int)))
 (some (jac jdf jdg ((false, ()), ())))
 (let y2 : ((Bool × Unit) × Unit) := (q_z0g (a0.2.2.1, (a0.2.2.2.1, ((16 : Int), ()))))
 cond (jBj (a0.2.2.1, (a0.2.2.2.1, ((16 : Int), ()))))
 (cond (!y2.1.1)
 (some (jac jdf jdg ((false, ()), ())))
 (let y3 : ((Bool × Unit) × Unit) := (q_z0h a0)
 cond (jFW a0)
 (cond (!y3.1.1)
 (some (jac jdf jdg ((false, ()), ())))
 (let y4 : ((Bool × Unit) × Unit) := (q_z0g (a0.2.2.2.2.2.1, (a0.2.2.2.2.2.2.1, ((32 : Int), ()))))
 cond (jBj (a0.2.2.2.2.2.1, (a0.2.2.2.2.2.2.1, ((32 : Int), ()))))
 (cond (!y4.1.1)
 (some (jac jdf jdg ((false, ()), ())))
 (jlz n
  (fun y8 => some (jac jdf jdg ((y8, ()), ())))
  (fun _ => some (jac jdf jdg ((true, ()), ())))
  a0.2.2.2.2.2.2.2.1
  (((List.length a0.2.2.2.2.2.2.2.1) : Nat) : Int)
  a0
  n
  (0 : Int)))
 (none)))
 (none)))
 (none))))
 (none)))))
def jEI (a0 : jah) : Option (RS jdf jdg) := jaR jdf jdg (jFx FUEL a0)
def jFV (a0 : jah) : Bool := (jEI a0).isSome
def q_z0i (a0 : jah) : RS jdf jdg := RS.get (jEI a0)
/-! z0j: graph_form -/
abbrev joS : List EK := [.ty .bool]
abbrev jpg : List HK := []
def jtu (n : Nat) (k_r : Bool → Option Res) (k_t0 : Unit → Option Res) (x0_0 : (List jah)) (x0_1 : (List jah)) (x0_2 : Int) (rec : Int → Option Res) (x0_3 : Int) : Option Res :=
 cond (decide (x0_3 < x0_2))
 (cond (decide ((0 : Int) ≤ x0_3 ∧ x0_3 < (((List.length x0_1) : Nat) : Int)))
 (let y1 : ((Bool × Unit) × Unit) := (q_z0i (rdd jaH x0_1 (Int.toNat x0_3)))
 cond (jFV (rdd jaH x0_1 (Int.toNat x0_3)))
 (cond (!y1.1.1)
 (k_r false)
 (cond (decide (x0_3 > (0 : Int)))
 (cond (decide ((0 : Int) ≤ (IntKind.wrap .i64 (x0_3 - (1 : Int))) ∧ (IntKind.wrap .i64 (x0_3 - (1 : Int))) < (((List.length x0_0) : Nat) : Int)))
 (cond (decide ((rdd jaH x0_1 (Int.toNat x0_3)).1 ≤ (rdd jaH x0_0 (Int.toNat (IntKind.wrap .i64 (x0_3 - (1 : Int))))).1))
 (k_r false)
 (rec (IntKind.wrap .i64 (x0_3 + (1 : Int)))))
 (none))
 (rec (IntKind.wrap .i64 (x0_3 + (1 : Int))))))
 (none))
 (none))
 (k_t0 ())
def jly (n : Nat) (k_r : Bool → Option Res) (k_t0 : Unit → Option Res) (x0_0 : (List jah)) (x0_1 : (List jah)) (x0_2 : Int) : Nat → Int → Option Res
  | 0, _ => none
  | m + 1, x0_3 => jtu n k_r k_t0 x0_0 x0_1 x0_2 (jly n k_r k_t0 x0_0 x0_1 x0_2 m) x0_3
def M_z0j (n : Nat) (a0 : (List jah)) : Option Res :=
 jly n
  (fun y2 => some (jac joS jpg ((y2, ()), ())))
  (fun _ => some (jac joS jpg ((true, ()), ())))
  a0
  a0
  (((List.length a0) : Nat) : Int)
  n
  (0 : Int)
def jEH (a0 : (List jah)) : Option (RS joS jpg) := jaR joS jpg (M_z0j FUEL a0)
def jFU (a0 : (List jah)) : Bool := (jEH a0).isSome
def q_z0j (a0 : (List jah)) : RS joS jpg := RS.get (jEH a0)
/-! z0k: graph_goes -/
abbrev jtW : List EK := [.hs 0 0]
abbrev jun : List HK := [.row (.int .i64)]
def jtt (n : Nat) (k_t0 : Nat → (List Int) → Option Res) (x0_1 : (List ArmS)) (x0_2 : Int) (rec : Nat → Int → (List Int) → Option Res) (x0_0 : Nat) (x0_3 : Int) (x0_4 : (List Int)) : Option Res :=
 cond (decide (x0_3 < x0_2))
 (cond (decide ((0 : Int) ≤ x0_3 ∧ x0_3 < (((List.length x0_1) : Nat) : Int)))
 (cond (decide (((List.length (cutL (0 : Int) x0_4 0 x0_0)) + 1) * 8 ≤ 2 ^ 46 ∧ ((List.length (cutL (0 : Int) x0_4 0 x0_0)) + 1) ≤ 2 ^ 46))
 (rec ((List.length (cutL (0 : Int) x0_4 0 x0_0)) + 1) (IntKind.wrap .i64 (x0_3 + (1 : Int))) ((cutL (0 : Int) x0_4 0 x0_0) ++ [(rdd jcd x0_1 (Int.toNat x0_3)).2.1]))
 (none))
 (none))
 (k_t0 x0_0 x0_4)
def jlx (n : Nat) (k_t0 : Nat → (List Int) → Option Res) (x0_1 : (List ArmS)) (x0_2 : Int) : Nat → Nat → Int → (List Int) → Option Res
  | 0, _, _, _ => none
  | m + 1, x0_0, x0_3, x0_4 => jtt n k_t0 x0_1 x0_2 (jlx n k_t0 x0_1 x0_2 m) x0_0 x0_3 x0_4
def M_z0k (n : Nat) (a0 : jah) : Option Res :=
 jlx n
  (fun y1 y2 => some (jac jtW jun ((y1, ()), (y2, ()))))
  a0.2.2.2.2.2.2.2.1
  (((List.length a0.2.2.2.2.2.2.2.1) : Nat) : Int)
  n
  1
  (0 : Int)
  ([a0.2.2.2.2.2.2.2.2.1])
def jEG (a0 : jah) : Option (RS jtW jun) := jaR jtW jun (M_z0k FUEL a0)
def jyu (a0 : jah) : Bool := (jEG a0).isSome
def jDc (a0 : jah) : RS jtW jun := RS.get (jEG a0)
/-! z0l: graph_Find -/
abbrev joR : List EK := [.agg jaM, .ty .bool]
abbrev jpf : List HK := []
def jts (n : Nat) (k_r : Bool → jah → Option Res) (k_t0 : Unit → Option Res) (x0_0 : Int) (x0_1 : (List jah)) (x0_2 : Int) (x0_4 : jah) (rec : Int → Option Res) (x0_3 : Int) : Option Res :=
 cond (decide (x0_3 < x0_2))
 (cond (decide ((0 : Int) ≤ x0_3 ∧ x0_3 < (((List.length x0_1) : Nat) : Int)))
 (cond ((rdd jaH x0_1 (Int.toNat x0_3)).1 == x0_0)
 (k_r true (rdd jaH x0_1 (Int.toNat x0_3)))
 (rec (IntKind.wrap .i64 (x0_3 + (1 : Int)))))
 (none))
 (k_t0 ())
def jlw (n : Nat) (k_r : Bool → jah → Option Res) (k_t0 : Unit → Option Res) (x0_0 : Int) (x0_1 : (List jah)) (x0_2 : Int) (x0_4 : jah) : Nat → Int → Option Res
  | 0, _ => none
  | m + 1, x0_3 => jts n k_r k_t0 x0_0 x0_1 x0_2 x0_4 (jlw n k_r k_t0 x0_0 x0_1 x0_2 x0_4 m) x0_3
def M_z0l (n : Nat) (a0 : (List jah)) (a1 : Int) : Option Res :=
 jlw n
  (fun y1 y2 => some (jac joR jpf ((y2, (y1, ())), ())))
  (fun _ => some (jac joR jpf ((((0 : Int), ((0 : Int), ((0 : Int), ((0 : Int), ((0 : Int), ((0 : Int), ((0 : Int), ([], ((0 : Int), ()))))))))), (false, ())), ())))
  a1
  a0
  (((List.length a0) : Nat) : Int)
  ((0 : Int), ((0 : Int), ((0 : Int), ((0 : Int), ((0 : Int), ((0 : Int), ((0 : Int), ([], ((0 : Int), ())))))))))
  n
  (0 : Int)
def jEF (a0 : (List jah)) (a1 : Int) : Option (RS joR jpf) := jaR joR jpf (M_z0l FUEL a0 a1)
def jyt (a0 : (List jah)) (a1 : Int) : Bool := (jEF a0 a1).isSome
def jDb (a0 : (List jah)) (a1 : Int) : RS joR jpf := RS.get (jEF a0 a1)
/-! z0m: graph_refs -/
abbrev joQ : List EK := [.ty .bool]
abbrev jpe : List HK := []
def jtq (n : Nat) (k_r : Bool → Option Res) (k_t2 : Unit → Option Res) (x2_0 : (List jah)) (x2_1 : (List jah)) (x2_2 : Int) (x2_3 : Int) (x2_4 : Nat) (x2_5 : Int) (x2_7 : (List Int)) (rec : Int → Option Res) (x2_6 : Int) : Option Res :=
 cond (decide (x2_6 < x2_5))
 (cond (decide ((0 : Int) ≤ x2_6 ∧ x2_6 < ((x2_4 : Nat) : Int)))
 (let y2 : ((jah × (Bool × Unit)) × Unit) := (jDb x2_0 (rdd (0 : Int) x2_7 (Int.toNat x2_6)))
 cond (jyt x2_0 (rdd (0 : Int) x2_7 (Int.toNat x2_6)))
 (cond (!y2.1.2.1)
 (cond ((rdd (0 : Int) x2_7 (Int.toNat x2_6)) != (0 : Int))
 (cond ((rdd (0 : Int) x2_7 (Int.toNat x2_6)) != (65535 : Int))
 (k_r false)
 (rec (IntKind.wrap .i64 (x2_6 + (1 : Int)))))
 (rec (IntKind.wrap .i64 (x2_6 + (1 : Int)))))
 (rec (IntKind.wrap .i64 (x2_6 + (1 : Int)))))
 (none))
 (none))
 (k_t2 ())
def jlu (n : Nat) (k_r : Bool → Option Res) (k_t2 : Unit → Option Res) (x2_0 : (List jah)) (x2_1 : (List jah)) (x2_2 : Int) (x2_3 : Int) (x2_4 : Nat) (x2_5 : Int) (x2_7 : (List Int)) : Nat → Int → Option Res
  | 0, _ => none
  | m + 1, x2_6 => jtq n k_r k_t2 x2_0 x2_1 x2_2 x2_3 x2_4 x2_5 x2_7 (jlu n k_r k_t2 x2_0 x2_1 x2_2 x2_3 x2_4 x2_5 x2_7 m) x2_6
def jtr (n : Nat) (k_r : Bool → Option Res) (k_t0 : Unit → Option Res) (x0_0 : (List jah)) (x0_1 : (List jah)) (x0_2 : Int) (rec : Int → Option Res) (x0_3 : Int) : Option Res :=
 cond (decide (x0_3 < x0_2))
 (cond (decide ((0 : Int) ≤ x0_3 ∧ x0_3 < (((List.length x0_1) : Nat) : Int)))
 (let y1 : ((Nat × Unit) × ((List Int) × Unit)) := (jDc (rdd jaH x0_1 (Int.toNat x0_3)))
 cond (jyu (rdd jaH x0_1 (Int.toNat x0_3)))
 (jlu n
  (fun y3 => k_r y3)
  (fun _ => rec (IntKind.wrap .i64 (x0_3 + (1 : Int))))
  x0_0
  x0_1
  x0_2
  x0_3
  y1.1.1
  ((y1.1.1 : Nat) : Int)
  y1.2.1
  n
  (0 : Int))
 (none))
 (none))
 (k_t0 ())
def jlv (n : Nat) (k_r : Bool → Option Res) (k_t0 : Unit → Option Res) (x0_0 : (List jah)) (x0_1 : (List jah)) (x0_2 : Int) : Nat → Int → Option Res
  | 0, _ => none
  | m + 1, x0_3 => jtr n k_r k_t0 x0_0 x0_1 x0_2 (jlv n k_r k_t0 x0_0 x0_1 x0_2 m) x0_3
def M_z0m (n : Nat) (a0 : (List jah)) : Option Res :=
 jlv n
  (fun y4 => some (jac joQ jpe ((y4, ()), ())))
  (fun _ => some (jac joQ jpe ((true, ()), ())))
  a0
  a0
  (((List.length a0) : Nat) : Int)
  n
  (0 : Int)
def jEE (a0 : (List jah)) : Option (RS joQ jpe) := jaR joQ jpe (M_z0m FUEL a0)
def jFT (a0 : (List jah)) : Bool := (jEE a0).isSome
def q_z0m (a0 : (List jah)) : RS joQ jpe := RS.get (jEE a0)
abbrev jbQ : List EK := [.ty (.int .i64)]
abbrev jbR : List HK := [.one true [.ty (.slice jaM)], .one false [.mp 2], .mf (.int .i64) (.int .i64), .one true [.ty .bool], .one false [.mp 5], .mf (.int .i64) (.int .i64), .one false [.fn 50 [(0, 0, 0), (1, 0, 0), (3, 0, 0), (4, 0, 0), (6, 0, 0)]]]
/-! z0n: graph_longest_walk -/
def jtp (n : Nat) (qr_z0n : Int → (List jah) → (Int → Option (Int)) → Bool → (Int → Option (Int)) → Option (RS jbQ jbR)) (k_t1 : Int → (List jah) → (Int → Option (Int)) → Bool → (Int → Option (Int)) → Option Res) (x1_0 : Int) (x1_2 : Nat) (x1_3 : Int) (x1_9 : (List Int)) (rec : Int → Int → (List jah) → (Int → Option (Int)) → Bool → (Int → Option (Int)) → Option Res) (x1_1 : Int) (x1_4 : Int) (x1_5 : (List jah)) (x1_6 : (Int → Option (Int))) (x1_7 : Bool) (x1_8 : (Int → Option (Int))) : Option Res :=
 cond (decide (x1_4 < x1_3))
 (cond (decide ((0 : Int) ≤ x1_4 ∧ x1_4 < ((x1_2 : Nat) : Int)))
 (let y3 : ((Int × Unit) × (((List jah) × Unit) × ((Unit × Unit) × ((Int → Option (Int)) × ((Bool × Unit) × ((Unit × Unit) × ((Int → Option (Int)) × ((Unit × Unit) × Unit)))))))) := (RS.get (qr_z0n (rdd (0 : Int) x1_9 (Int.toNat x1_4)) x1_5 x1_6 x1_7 x1_8))
 cond (Option.isSome (qr_z0n (rdd (0 : Int) x1_9 (Int.toNat x1_4)) x1_5 x1_6 x1_7 x1_8))
 (rec (if y3.1.1 > x1_1 then y3.1.1 else x1_1) (IntKind.wrap .i64 (x1_4 + (1 : Int))) y3.2.1.1 y3.2.2.2.1 y3.2.2.2.2.1.1 y3.2.2.2.2.2.2.1)
 (none))
 (none))
 (k_t1 x1_1 x1_5 x1_6 x1_7 x1_8)
def jlt (n : Nat) (qr_z0n : Int → (List jah) → (Int → Option (Int)) → Bool → (Int → Option (Int)) → Option (RS jbQ jbR)) (k_t1 : Int → (List jah) → (Int → Option (Int)) → Bool → (Int → Option (Int)) → Option Res) (x1_0 : Int) (x1_2 : Nat) (x1_3 : Int) (x1_9 : (List Int)) : Nat → Int → Int → (List jah) → (Int → Option (Int)) → Bool → (Int → Option (Int)) → Option Res
  | 0, _, _, _, _, _, _ => none
  | m + 1, x1_1, x1_4, x1_5, x1_6, x1_7, x1_8 => jtp n qr_z0n k_t1 x1_0 x1_2 x1_3 x1_9 (jlt n qr_z0n k_t1 x1_0 x1_2 x1_3 x1_9 m) x1_1 x1_4 x1_5 x1_6 x1_7 x1_8
def jCA (n : Nat) (qr_z0n : Int → (List jah) → (Int → Option (Int)) → Bool → (Int → Option (Int)) → Option (RS jbQ jbR)) (a0 : Int) (a1 : (List jah)) (a2 : (Int → Option (Int))) (a3 : Bool) (a4 : (Int → Option (Int))) : Option Res :=
 let y1 : ((jah × (Bool × Unit)) × Unit) := (jDb a1 a0)
 cond (jyt a1 a0)
 (cond (!y1.1.2.1)
 (some (jac jbQ jbR (((0 : Int), ()), ((a1, ()), (((), ()), (a2, ((a3, ()), (((), ()), (a4, (((), ()), ()))))))))))
 (cond (decide ((Option.getD (a2 a0) (0 : Int)) > (0 : Int)))
 (some (jac jbQ jbR (((0 : Int), ()), ((a1, ()), (((), ()), (a2, ((false, ()), (((), ()), (a4, (((), ()), ()))))))))))
 (cond (decide ((Option.getD (a4 a0) (0 : Int)) > (0 : Int)))
 (some (jac jbQ jbR (((Option.getD (a4 a0) (0 : Int)), ()), ((a1, ()), (((), ()), (a2, ((a3, ()), (((), ()), (a4, (((), ()), ()))))))))))
 (let y2 : ((Nat × Unit) × ((List Int) × Unit)) := (jDc y1.1.1)
 cond (jyu y1.1.1)
 (jlt n qr_z0n
  (fun y4 y5 y6 y7 y8 => some (jac jbQ jbR (((IntKind.wrap .i64 (y4 + (1 : Int))), ()), ((y5, ()), (((), ()), ((fun i => cond (decide (i = a0)) (some (IntKind.wrap .i64 ((Option.getD (y6 a0) (0 : Int)) - (1 : Int)))) (y6 i)), ((y7, ()), (((), ()), ((fun i => cond (decide (i = a0)) (some (IntKind.wrap .i64 (y4 + (1 : Int)))) (y8 i)), (((), ()), ()))))))))))
  a0
  y2.1.1
  ((y2.1.1 : Nat) : Int)
  y2.2.1
  n
  (0 : Int)
  (0 : Int)
  a1
  (fun i => cond (decide (i = a0)) (some (IntKind.wrap .i64 ((Option.getD (a2 a0) (0 : Int)) + (1 : Int)))) (a2 i))
  a3
  a4)
 (none)))))
 (none)
def jom : Nat → Int → (List jah) → (Int → Option (Int)) → Bool → (Int → Option (Int)) → Option (RS jbQ jbR)
  | 0, _, _, _, _, _ => none
  | dp + 1, a0, a1, a2, a3, a4 => jaR jbQ jbR (jCA FUEL (jom dp) a0 a1 a2 a3 a4)
def jCn (a0 : Int) (a1 : (List jah)) (a2 : (Int → Option (Int))) (a3 : Bool) (a4 : (Int → Option (Int))) : Option (RS jbQ jbR) := jom FUEL a0 a1 a2 a3 a4
def jys (a0 : Int) (a1 : (List jah)) (a2 : (Int → Option (Int))) (a3 : Bool) (a4 : (Int → Option (Int))) : Bool := (jCn a0 a1 a2 a3 a4).isSome
def jDa (a0 : Int) (a1 : (List jah)) (a2 : (Int → Option (Int))) (a3 : Bool) (a4 : (Int → Option (Int))) : RS jbQ jbR := RS.get (jCn a0 a1 a2 a3 a4)
/-! z0o: graph_longest -/
abbrev jmQ : List EK := [.fn 50 [(0, 0, 0), (1, 0, 0), (3, 0, 0), (4, 0, 0), (6, 0, 0)], .ty .bool]
abbrev jmX : List HK := [.one true [.ty (.slice jaM)], .one false [.mp 2], .mf (.int .i64) (.int .i64), .one true [.ty .bool], .one false [.mp 5], .mf (.int .i64) (.int .i64), .one false [.fn 50 [(0, 0, 0), (1, 0, 0), (3, 0, 0), (4, 0, 0), (6, 0, 0)]]]
def jto (n : Nat) (k_t0 : Bool → (List jah) → (Int → Option (Int)) → (Int → Option (Int)) → Option Res) (x0_0 : (List jah)) (x0_1 : Int) (rec : Int → Bool → (List jah) → (Int → Option (Int)) → (Int → Option (Int)) → Option Res) (x0_2 : Int) (x0_3 : Bool) (x0_4 : (List jah)) (x0_5 : (Int → Option (Int))) (x0_6 : (Int → Option (Int))) : Option Res :=
 cond (decide (x0_2 < x0_1))
 (cond (decide ((0 : Int) ≤ x0_2 ∧ x0_2 < (((List.length x0_0) : Nat) : Int)))
 (let y1 : ((Int × Unit) × (((List jah) × Unit) × ((Unit × Unit) × ((Int → Option (Int)) × ((Bool × Unit) × ((Unit × Unit) × ((Int → Option (Int)) × ((Unit × Unit) × Unit)))))))) := (jDa ((rdd jaH x0_0 (Int.toNat x0_2)).1) x0_4 x0_5 x0_3 x0_6)
 cond (jys ((rdd jaH x0_0 (Int.toNat x0_2)).1) x0_4 x0_5 x0_3 x0_6)
 (rec (IntKind.wrap .i64 (x0_2 + (1 : Int))) y1.2.2.2.2.1.1 y1.2.1.1 y1.2.2.2.1 y1.2.2.2.2.2.2.1)
 (none))
 (none))
 (k_t0 x0_3 x0_4 x0_5 x0_6)
def jls (n : Nat) (k_t0 : Bool → (List jah) → (Int → Option (Int)) → (Int → Option (Int)) → Option Res) (x0_0 : (List jah)) (x0_1 : Int) : Nat → Int → Bool → (List jah) → (Int → Option (Int)) → (Int → Option (Int)) → Option Res
  | 0, _, _, _, _, _ => none
  | m + 1, x0_2, x0_3, x0_4, x0_5, x0_6 => jto n k_t0 x0_0 x0_1 (jls n k_t0 x0_0 x0_1 m) x0_2 x0_3 x0_4 x0_5 x0_6
def M_z0o (n : Nat) (a0 : (List jah)) : Option Res :=
 jls n
  (fun y2 y3 y4 y5 => some (jac jmQ jmX (((), (y2, ())), ((y3, ()), (((), ()), (y4, ((y2, ()), (((), ()), (y5, (((), ()), ()))))))))))
  a0
  (((List.length a0) : Nat) : Int)
  n
  (0 : Int)
  true
  a0
  (fun _ => none)
  (fun _ => none)
def jCm (a0 : (List jah)) : Option (RS jmQ jmX) := jaR jmQ jmX (M_z0o FUEL a0)
def jyr (a0 : (List jah)) : Bool := (jCm a0).isSome
def jCZ (a0 : (List jah)) : RS jmQ jmX := RS.get (jCm a0)
/-! z0p: graph_May -/
abbrev jjH : List EK := [.ty (.int .i64)]
abbrev jjJ : List HK := []
def jFw (n : Nat) (a0 : (List jah)) : Option Res :=
 let y1 : ((Bool × Unit) × Unit) := (q_z0j a0)
 cond (jFU a0)
 (cond (!y1.1.1)
 (some (jac jjH jjJ (((3 : Int), ()), ())))
 (cond (decide ((((List.length a0) : Nat) : Int) > (32 : Int)))
 (some (jac jjH jjJ (((12 : Int), ()), ())))
 (let y2 : ((Bool × Unit) × Unit) := (q_z0m a0)
 cond (jFT a0)
 (cond (!y2.1.1)
 (some (jac jjH jjJ (((8 : Int), ()), ())))
 (let y3 : ((Unit × (Bool × Unit)) × (((List jah) × Unit) × ((Unit × Unit) × ((Int → Option (Int)) × ((Bool × Unit) × ((Unit × Unit) × ((Int → Option (Int)) × ((Unit × Unit) × Unit)))))))) := (jCZ a0)
 cond (jyr a0)
 (cond (!y3.1.2.1)
 (some (jac jjH jjJ (((10 : Int), ()), ())))
 (some (jac jjH jjJ (((0 : Int), ()), ()))))
 (none)))
 (none))))
 (none)
def jED (a0 : (List jah)) : Option (RS jjH jjJ) := jaR jjH jjJ (jFw FUEL a0)
def jBi (a0 : (List jah)) : Bool := (jED a0).isSome
def q_z0p (a0 : (List jah)) : RS jjH jjJ := RS.get (jED a0)
/-! z0q: graph_Longest -/
abbrev joP : List EK := [.ty (.int .i64)]
abbrev jpd : List HK := []
def jCz (n : Nat) (a0 : (List jah)) : Option Res :=
 let y1 : ((Int × Unit) × Unit) := (q_z0p a0)
 cond (jBi a0)
 (cond (y1.1.1 != (0 : Int))
 (some (jac joP jpd (((0 : Int), ()), ())))
 (let y2 : ((Unit × (Bool × Unit)) × (((List jah) × Unit) × ((Unit × Unit) × ((Int → Option (Int)) × ((Bool × Unit) × ((Unit × Unit) × ((Int → Option (Int)) × ((Unit × Unit) × Unit)))))))) := (jCZ a0)
 cond (jyr a0)
 (let y3 : ((Int × Unit) × (((List jah) × Unit) × ((Unit × Unit) × ((Int → Option (Int)) × ((Bool × Unit) × ((Unit × Unit) × ((Int → Option (Int)) × ((Unit × Unit) × Unit)))))))) := (jDa (1 : Int) y2.2.1.1 y2.2.2.2.1 y2.2.2.2.2.1.1 y2.2.2.2.2.2.2.1)
 cond (jys (1 : Int) y2.2.1.1 y2.2.2.2.1 y2.2.2.2.2.1.1 y2.2.2.2.2.2.2.1)
 (some (jac joP jpd ((y3.1.1, ()), ())))
 (none))
 (none)))
 (none)
def jAu (a0 : (List jah)) : Option (RS joP jpd) := jaR joP jpd (jCz FUEL a0)
def ok_z0q (a0 : (List jah)) : Bool := (jAu a0).isSome
def q_z0q (a0 : (List jah)) : RS joP jpd := RS.get (jAu a0)
/-! z0r: bound_Of -/
abbrev joO : List EK := [.ty (.int .i64), .ty (.int .i64)]
abbrev jpc : List HK := []
def jFv (n : Nat) (a0 : jaa) : Option Res :=
 let y1 : ((Int × (Int × Unit)) × Unit) := (jAZ a0 (1 : Int))
 cond (juF a0 (1 : Int))
 (cond (y1.1.2.1 != (0 : Int))
 (some (jac joO jpc (((0 : Int), (y1.1.2.1, ())), ())))
 (let y2 : ((Int × Unit) × Unit) := (q_z0q a0.1)
 cond (ok_z0q a0.1)
 (let y3 : Int := (if (IntKind.wrap .i64 (y1.1.1 + y2.1.1)) < (65537 : Int) then (IntKind.wrap .i64 (y1.1.1 + y2.1.1)) else (65537 : Int))
 some (jac joO jpc ((y3, ((0 : Int), ())), ())))
 (none)))
 (none)
def jEC (a0 : jaa) : Option (RS joO jpc) := jaR joO jpc (jFv FUEL a0)
def jBh (a0 : jaa) : Bool := (jEC a0).isSome
def q_z0r (a0 : jaa) : RS joO jpc := RS.get (jEC a0)
/-! z0s: turnoutlaw24_awake -/
abbrev jfy : List EK := [.ty .bool]
abbrev jfA : List HK := []
def M_z0s (n : Nat) : Option Res :=
 let y1 : ((Nat × Unit) × ((List jaj) × Unit)) := (q_z01 ([(20 : Int), (23 : Int)]))
 cond (jBl ([(20 : Int), (23 : Int)]))
 (let y2 : ((Nat × Unit) × ((List jaj) × Unit)) := (q_z01 ([(12 : Int), (13 : Int), (23 : Int)]))
 cond (jBl ([(12 : Int), (13 : Int), (23 : Int)]))
 (let y3 : ((Int × (Int × Unit)) × Unit) := (jrb ([], ([], ([((1 : Int), ((0 : Int), ([], ((0 : Int), ((1 : Int), ())))))], ([], ([((1 : Int), ((cutL jae y1.2.1 0 y1.1.1), ())), ((2 : Int), ((cutL jae y2.2.1 0 y2.1.1), ()))], ([((1 : Int), ((1 : Int), ((0 : Int), ([((0 : Int), ((1 : Int), ())), ((0 : Int), ((1 : Int), ()))], ())))), ((2 : Int), ((2 : Int), ((0 : Int), ([((0 : Int), ((1 : Int), ())), ((0 : Int), ((1 : Int), ()))], ()))))], ([], ([], ([], ()))))))))) (1 : Int))
 cond (jjS ([], ([], ([((1 : Int), ((0 : Int), ([], ((0 : Int), ((1 : Int), ())))))], ([], ([((1 : Int), ((cutL jae y1.2.1 0 y1.1.1), ())), ((2 : Int), ((cutL jae y2.2.1 0 y2.1.1), ()))], ([((1 : Int), ((1 : Int), ((0 : Int), ([((0 : Int), ((1 : Int), ())), ((0 : Int), ((1 : Int), ()))], ())))), ((2 : Int), ((2 : Int), ((0 : Int), ([((0 : Int), ((1 : Int), ())), ((0 : Int), ((1 : Int), ()))], ()))))], ([], ([], ([], ()))))))))) (1 : Int))
 (let y4 : ((Int × (Int × Unit)) × Unit) := (jAZ ([], ([], ([((1 : Int), ((0 : Int), ([], ((0 : Int), ((1 : Int), ())))))], ([], ([((1 : Int), ((cutL jae y1.2.1 0 y1.1.1), ())), ((2 : Int), ((cutL jae y2.2.1 0 y2.1.1), ()))], ([((1 : Int), ((1 : Int), ((0 : Int), ([((0 : Int), ((1 : Int), ())), ((0 : Int), ((1 : Int), ()))], ())))), ((2 : Int), ((2 : Int), ((0 : Int), ([((0 : Int), ((1 : Int), ())), ((0 : Int), ((1 : Int), ()))], ()))))], ([], ([], ([], ()))))))))) (1 : Int))
 cond (juF ([], ([], ([((1 : Int), ((0 : Int), ([], ((0 : Int), ((1 : Int), ())))))], ([], ([((1 : Int), ((cutL jae y1.2.1 0 y1.1.1), ())), ((2 : Int), ((cutL jae y2.2.1 0 y2.1.1), ()))], ([((1 : Int), ((1 : Int), ((0 : Int), ([((0 : Int), ((1 : Int), ())), ((0 : Int), ((1 : Int), ()))], ())))), ((2 : Int), ((2 : Int), ((0 : Int), ([((0 : Int), ((1 : Int), ())), ((0 : Int), ((1 : Int), ()))], ()))))], ([], ([], ([], ()))))))))) (1 : Int))
 (let y5 : ((Int × (Int × Unit)) × Unit) := (jrb ([], ([], ([((1 : Int), ((0 : Int), ([], ((0 : Int), ((1 : Int), ())))))], ([], ([((1 : Int), ((cutL jae y1.2.1 0 y1.1.1), ())), ((2 : Int), ((cutL jae y2.2.1 0 y2.1.1), ()))], ([((1 : Int), ((1 : Int), ((0 : Int), ([((0 : Int), ((1 : Int), ())), ((0 : Int), ((1 : Int), ()))], ())))), ((2 : Int), ((2 : Int), ((0 : Int), ([((0 : Int), ((1 : Int), ())), ((0 : Int), ((1 : Int), ()))], ()))))], ([], ([], ([], ()))))))))) (2 : Int))
 cond (jjS ([], ([], ([((1 : Int), ((0 : Int), ([], ((0 : Int), ((1 : Int), ())))))], ([], ([((1 : Int), ((cutL jae y1.2.1 0 y1.1.1), ())), ((2 : Int), ((cutL jae y2.2.1 0 y2.1.1), ()))], ([((1 : Int), ((1 : Int), ((0 : Int), ([((0 : Int), ((1 : Int), ())), ((0 : Int), ((1 : Int), ()))], ())))), ((2 : Int), ((2 : Int), ((0 : Int), ([((0 : Int), ((1 : Int), ())), ((0 : Int), ((1 : Int), ()))], ()))))], ([], ([], ([], ()))))))))) (2 : Int))
 (let y6 : ((Int × (Int × Unit)) × Unit) := (jAY ([], ([], ([((1 : Int), ((0 : Int), ([], ((0 : Int), ((1 : Int), ())))))], ([], ([((1 : Int), ((cutL jae y1.2.1 0 y1.1.1), ())), ((2 : Int), ((cutL jae y2.2.1 0 y2.1.1), ()))], ([((1 : Int), ((1 : Int), ((0 : Int), ([((0 : Int), ((1 : Int), ())), ((0 : Int), ((1 : Int), ()))], ())))), ((2 : Int), ((2 : Int), ((0 : Int), ([((0 : Int), ((1 : Int), ())), ((0 : Int), ((1 : Int), ()))], ()))))], ([], ([], ([], ()))))))))) (1 : Int))
 cond (juE ([], ([], ([((1 : Int), ((0 : Int), ([], ((0 : Int), ((1 : Int), ())))))], ([], ([((1 : Int), ((cutL jae y1.2.1 0 y1.1.1), ())), ((2 : Int), ((cutL jae y2.2.1 0 y2.1.1), ()))], ([((1 : Int), ((1 : Int), ((0 : Int), ([((0 : Int), ((1 : Int), ())), ((0 : Int), ((1 : Int), ()))], ())))), ((2 : Int), ((2 : Int), ((0 : Int), ([((0 : Int), ((1 : Int), ())), ((0 : Int), ((1 : Int), ()))], ()))))], ([], ([], ([], ()))))))))) (1 : Int))
 (let y7 : ((Int × (Int × Unit)) × Unit) := (jAY ([], ([], ([((1 : Int), ((0 : Int), ([], ((0 : Int), ((1 : Int), ())))))], ([], ([((1 : Int), ((cutL jae y1.2.1 0 y1.1.1), ())), ((2 : Int), ((cutL jae y2.2.1 0 y2.1.1), ()))], ([((1 : Int), ((1 : Int), ((0 : Int), ([((0 : Int), ((1 : Int), ())), ((0 : Int), ((1 : Int), ()))], ())))), ((2 : Int), ((2 : Int), ((0 : Int), ([((0 : Int), ((1 : Int), ())), ((0 : Int), ((1 : Int), ()))], ()))))], ([], ([], ([], ()))))))))) (2 : Int))
 cond (juE ([], ([], ([((1 : Int), ((0 : Int), ([], ((0 : Int), ((1 : Int), ())))))], ([], ([((1 : Int), ((cutL jae y1.2.1 0 y1.1.1), ())), ((2 : Int), ((cutL jae y2.2.1 0 y2.1.1), ()))], ([((1 : Int), ((1 : Int), ((0 : Int), ([((0 : Int), ((1 : Int), ())), ((0 : Int), ((1 : Int), ()))], ())))), ((2 : Int), ((2 : Int), ((0 : Int), ([((0 : Int), ((1 : Int), ())), ((0 : Int), ((1 : Int), ()))], ()))))], ([], ([], ([], ()))))))))) (2 : Int))
 (let y8 : ((Bool × Unit) × Unit) := (jAX y3.1.1 y3.1.2.1 (2 : Int))
 cond (juD y3.1.1 y3.1.2.1 (2 : Int))
 (cond (!y8.1.1)
 (some (jac jfy jfA ((false, ()), ())))
 (let y9 : ((Bool × Unit) × Unit) := (jAX y4.1.1 y4.1.2.1 (3 : Int))
 cond (juD y4.1.1 y4.1.2.1 (3 : Int))
 (cond (!y9.1.1)
 (some (jac jfy jfA ((false, ()), ())))
 (let y10 : ((Bool × Unit) × Unit) := (jAX y5.1.1 y5.1.2.1 (5 : Int))
 cond (juD y5.1.1 y5.1.2.1 (5 : Int))
 (cond (!y10.1.1)
 (some (jac jfy jfA ((false, ()), ())))
 (let y11 : ((Bool × Unit) × Unit) := (jAX y6.1.1 y6.1.2.1 (4 : Int))
 cond (juD y6.1.1 y6.1.2.1 (4 : Int))
 (cond (!y11.1.1)
 (some (jac jfy jfA ((false, ()), ())))
 (let y12 : ((Bool × Unit) × Unit) := (jAX y7.1.1 y7.1.2.1 (2 : Int))
 cond (juD y7.1.1 y7.1.2.1 (2 : Int))
 (cond (!y12.1.1)
 (some (jac jfy jfA ((false, ()), ())))
 (let y13 : ((Bool × Unit) × Unit) := (jzV ([], ([], ([((1 : Int), ((0 : Int), ([], ((0 : Int), ((1 : Int), ())))))], ([], ([((1 : Int), ((cutL jae y1.2.1 0 y1.1.1), ())), ((2 : Int), ((cutL jae y2.2.1 0 y2.1.1), ()))], ([((1 : Int), ((1 : Int), ((0 : Int), ([((0 : Int), ((1 : Int), ())), ((0 : Int), ((1 : Int), ()))], ())))), ((2 : Int), ((2 : Int), ((0 : Int), ([((0 : Int), ((1 : Int), ())), ((0 : Int), ((1 : Int), ()))], ()))))], ([], ([], ([], ()))))))))))
 cond (jps ([], ([], ([((1 : Int), ((0 : Int), ([], ((0 : Int), ((1 : Int), ())))))], ([], ([((1 : Int), ((cutL jae y1.2.1 0 y1.1.1), ())), ((2 : Int), ((cutL jae y2.2.1 0 y2.1.1), ()))], ([((1 : Int), ((1 : Int), ((0 : Int), ([((0 : Int), ((1 : Int), ())), ((0 : Int), ((1 : Int), ()))], ())))), ((2 : Int), ((2 : Int), ((0 : Int), ([((0 : Int), ((1 : Int), ())), ((0 : Int), ((1 : Int), ()))], ()))))], ([], ([], ([], ()))))))))))
 (cond y13.1.1
 (some (jac jfy jfA ((false, ()), ())))
 (let y14 : ((Nat × Unit) × ((List jaj) × Unit)) := (q_z01 ([(13 : Int)]))
 cond (jBl ([(13 : Int)]))
 (cond (decide ((2 + 1) * 32 ≤ 2 ^ 46 ∧ (2 + 1) ≤ 2 ^ 46))
 (cond (decide ((0 : Int) ≤ (0 : Int) ∧ (0 : Int) < ((1 : Nat) : Int)))
 (let y15 : ((Int × (Int × Unit)) × Unit) := (q_z0r ([], ([], ([((1 : Int), ((0 : Int), ([], ((0 : Int), ((3 : Int), ())))))], ([], ((mkL (2 + 1) (fun i => (juz [((1 : Int), ((cutL jae y1.2.1 0 y1.1.1), ())), ((2 : Int), ((cutL jae y2.2.1 0 y2.1.1), ())), ((3 : Int), ((cutL jae y14.2.1 0 y14.1.1), ()))] i jap))), ([((1 : Int), ((1 : Int), ((0 : Int), ([((0 : Int), ((1 : Int), ())), ((0 : Int), ((1 : Int), ()))], ())))), ((2 : Int), ((2 : Int), ((0 : Int), ([((0 : Int), ((1 : Int), ())), ((0 : Int), ((1 : Int), ()))], ()))))], ([], ([], ([], ()))))))))))
 cond (jBh ([], ([], ([((1 : Int), ((0 : Int), ([], ((0 : Int), ((3 : Int), ())))))], ([], ((mkL (2 + 1) (fun i => (juz [((1 : Int), ((cutL jae y1.2.1 0 y1.1.1), ())), ((2 : Int), ((cutL jae y2.2.1 0 y2.1.1), ())), ((3 : Int), ((cutL jae y14.2.1 0 y14.1.1), ()))] i jap))), ([((1 : Int), ((1 : Int), ((0 : Int), ([((0 : Int), ((1 : Int), ())), ((0 : Int), ((1 : Int), ()))], ())))), ((2 : Int), ((2 : Int), ((0 : Int), ([((0 : Int), ((1 : Int), ())), ((0 : Int), ((1 : Int), ()))], ()))))], ([], ([], ([], ()))))))))))
 (let y16 : ((Bool × Unit) × Unit) := (jzV ([], ([], ([((1 : Int), ((0 : Int), ([], ((0 : Int), ((3 : Int), ())))))], ([], ((mkL (2 + 1) (fun i => (juz [((1 : Int), ((cutL jae y1.2.1 0 y1.1.1), ())), ((2 : Int), ((cutL jae y2.2.1 0 y2.1.1), ())), ((3 : Int), ((cutL jae y14.2.1 0 y14.1.1), ()))] i jap))), ([((1 : Int), ((1 : Int), ((0 : Int), ([((0 : Int), ((1 : Int), ())), ((0 : Int), ((1 : Int), ()))], ())))), ((2 : Int), ((2 : Int), ((0 : Int), ([((0 : Int), ((1 : Int), ())), ((0 : Int), ((1 : Int), ()))], ()))))], ([], ([], ([], ()))))))))))
 cond (jps ([], ([], ([((1 : Int), ((0 : Int), ([], ((0 : Int), ((3 : Int), ())))))], ([], ((mkL (2 + 1) (fun i => (juz [((1 : Int), ((cutL jae y1.2.1 0 y1.1.1), ())), ((2 : Int), ((cutL jae y2.2.1 0 y2.1.1), ())), ((3 : Int), ((cutL jae y14.2.1 0 y14.1.1), ()))] i jap))), ([((1 : Int), ((1 : Int), ((0 : Int), ([((0 : Int), ((1 : Int), ())), ((0 : Int), ((1 : Int), ()))], ())))), ((2 : Int), ((2 : Int), ((0 : Int), ([((0 : Int), ((1 : Int), ())), ((0 : Int), ((1 : Int), ()))], ()))))], ([], ([], ([], ()))))))))))
 (cond y16.1.1
 (cond (y15.1.1 == (0 : Int))
 (some (jac jfy jfA (((y15.1.2.1 == (10 : Int)), ()), ())))
 (some (jac jfy jfA ((false, ()), ()))))
 (some (jac jfy jfA ((false, ()), ()))))
 (none))
 (none))
 (none))
 (none))
 (none)))
 (none)))
 (none)))
 (none)))
 (none)))
 (none)))
 (none))
 (none))
 (none))
 (none))
 (none))
 (none))
 (none))
 (none)
def jCl : Option (RS jfy jfA) := jaR jfy jfA (M_z0s FUEL)
def jgz : Bool := (jCl).isSome
def jma : RS jfy jfA := RS.get (jCl)
/-! z0t: turnoutref24_find -/
abbrev jmP : List EK := [.ty (.int .i64)]
abbrev jmW : List HK := []
def jtn (n : Nat) (k_r : Int → Option Res) (k_t0 : Unit → Option Res) (x0_0 : (List jao)) (x0_1 : Int) (x0_2 : Int) (rec : Int → Option Res) (x0_3 : Int) : Option Res :=
 cond (decide (x0_3 < (((List.length x0_0) : Nat) : Int)))
 (cond (decide ((0 : Int) ≤ x0_3 ∧ x0_3 < (((List.length x0_0) : Nat) : Int)))
 (cond ((rdd jaz x0_0 (Int.toNat x0_3)).1 == x0_1)
 (cond (decide ((0 : Int) ≤ x0_3 ∧ x0_3 < (((List.length x0_0) : Nat) : Int)))
 (cond ((rdd jaz x0_0 (Int.toNat x0_3)).2.1 == x0_2)
 (k_r x0_3)
 (rec (IntKind.wrap .i64 (x0_3 + (1 : Int)))))
 (none))
 (rec (IntKind.wrap .i64 (x0_3 + (1 : Int)))))
 (none))
 (k_t0 ())
def jju (n : Nat) (k_r : Int → Option Res) (k_t0 : Unit → Option Res) (x0_0 : (List jao)) (x0_1 : Int) (x0_2 : Int) : Nat → Int → Option Res
  | 0, _ => none
  | m + 1, x0_3 => jtn n k_r k_t0 x0_0 x0_1 x0_2 (jju n k_r k_t0 x0_0 x0_1 x0_2 m) x0_3
def jFu (n : Nat) (a0 : (List jao)) (a1 : Int) (a2 : Int) : Option Res :=
 jju n
  (fun y1 => some (jac jmP jmW ((y1, ()), ())))
  (fun _ => some (jac jmP jmW (((-1 : Int), ()), ())))
  a0
  a1
  a2
  n
  (0 : Int)
def jEB (a0 : (List jao)) (a1 : Int) (a2 : Int) : Option (RS jmP jmW) := jaR jmP jmW (jFu FUEL a0 a1 a2)
def jnB (a0 : (List jao)) (a1 : Int) (a2 : Int) : Bool := (jEB a0 a1 a2).isSome
def jwu (a0 : (List jao)) (a1 : Int) (a2 : Int) : RS jmP jmW := RS.get (jEB a0 a1 a2)
/-! z0u: turnoutref24_things -/
abbrev jtV : List EK := [.hs 0 0]
abbrev jum : List HK := [.row jaG]
def jtm (n : Nat) (k_t0 : Nat → (List jao) → Option Res) (x0_2 : jaa) (rec : Nat → Int → (List jao) → Option Res) (x0_0 : Nat) (x0_1 : Int) (x0_3 : (List jao)) : Option Res :=
 cond (decide (x0_1 < (((List.length x0_2.2.2.1) : Nat) : Int)))
 (cond (decide ((0 : Int) ≤ x0_1 ∧ x0_1 < (((List.length x0_2.2.2.1) : Nat) : Int)))
 (let y1 : ((Int × Unit) × Unit) := (jwu (cutL jaz x0_3 0 x0_0) (1 : Int) ((rdd jaD x0_2.2.2.1 (Int.toNat x0_1)).1))
 cond (jnB (cutL jaz x0_3 0 x0_0) (1 : Int) ((rdd jaD x0_2.2.2.1 (Int.toNat x0_1)).1))
 (cond (decide (y1.1.1 < (0 : Int)))
 (cond (decide ((0 : Int) ≤ x0_1 ∧ x0_1 < (((List.length x0_2.2.2.1) : Nat) : Int)))
 (cond (decide (((List.length (cutL jaz x0_3 0 x0_0)) + 1) * 24 ≤ 2 ^ 46 ∧ ((List.length (cutL jaz x0_3 0 x0_0)) + 1) ≤ 2 ^ 46))
 (rec ((List.length (cutL jaz x0_3 0 x0_0)) + 1) (IntKind.wrap .i64 (x0_1 + (1 : Int))) ((cutL jaz x0_3 0 x0_0) ++ [((1 : Int), ((rdd jaD x0_2.2.2.1 (Int.toNat x0_1)).1, ((0 : Int), ())))]))
 (none))
 (none))
 (rec x0_0 (IntKind.wrap .i64 (x0_1 + (1 : Int))) x0_3))
 (none))
 (none))
 (k_t0 x0_0 x0_3)
def jlr (n : Nat) (k_t0 : Nat → (List jao) → Option Res) (x0_2 : jaa) : Nat → Nat → Int → (List jao) → Option Res
  | 0, _, _, _ => none
  | m + 1, x0_0, x0_1, x0_3 => jtm n k_t0 x0_2 (jlr n k_t0 x0_2 m) x0_0 x0_1 x0_3
def jtl (n : Nat) (k_t2 : Nat → (List jao) → Option Res) (x2_2 : jaa) (rec : Nat → Int → (List jao) → Option Res) (x2_0 : Nat) (x2_1 : Int) (x2_3 : (List jao)) : Option Res :=
 cond (decide (x2_1 < (((List.length x2_2.2.2.2.2.1) : Nat) : Int)))
 (cond (decide ((0 : Int) ≤ x2_1 ∧ x2_1 < (((List.length x2_2.2.2.2.2.1) : Nat) : Int)))
 (let y4 : ((Int × Unit) × Unit) := (jwu (cutL jaz x2_3 0 x2_0) (2 : Int) ((rdd jap x2_2.2.2.2.2.1 (Int.toNat x2_1)).1))
 cond (jnB (cutL jaz x2_3 0 x2_0) (2 : Int) ((rdd jap x2_2.2.2.2.2.1 (Int.toNat x2_1)).1))
 (cond (decide (y4.1.1 < (0 : Int)))
 (cond (decide ((0 : Int) ≤ x2_1 ∧ x2_1 < (((List.length x2_2.2.2.2.2.1) : Nat) : Int)))
 (cond (decide (((List.length (cutL jaz x2_3 0 x2_0)) + 1) * 24 ≤ 2 ^ 46 ∧ ((List.length (cutL jaz x2_3 0 x2_0)) + 1) ≤ 2 ^ 46))
 (rec ((List.length (cutL jaz x2_3 0 x2_0)) + 1) (IntKind.wrap .i64 (x2_1 + (1 : Int))) ((cutL jaz x2_3 0 x2_0) ++ [((2 : Int), ((rdd jap x2_2.2.2.2.2.1 (Int.toNat x2_1)).1, ((0 : Int), ())))]))
 (none))
 (none))
 (rec x2_0 (IntKind.wrap .i64 (x2_1 + (1 : Int))) x2_3))
 (none))
 (none))
 (k_t2 x2_0 x2_3)
def jlq (n : Nat) (k_t2 : Nat → (List jao) → Option Res) (x2_2 : jaa) : Nat → Nat → Int → (List jao) → Option Res
  | 0, _, _, _ => none
  | m + 1, x2_0, x2_1, x2_3 => jtl n k_t2 x2_2 (jlq n k_t2 x2_2 m) x2_0 x2_1 x2_3
def jtk (n : Nat) (k_t4 : Nat → (List jao) → Option Res) (x4_2 : jaa) (rec : Nat → Int → (List jao) → Option Res) (x4_0 : Nat) (x4_1 : Int) (x4_3 : (List jao)) : Option Res :=
 cond (decide (x4_1 < (((List.length x4_2.2.2.2.2.2.1) : Nat) : Int)))
 (cond (decide ((0 : Int) ≤ x4_1 ∧ x4_1 < (((List.length x4_2.2.2.2.2.2.1) : Nat) : Int)))
 (let y7 : ((Int × Unit) × Unit) := (jwu (cutL jaz x4_3 0 x4_0) (3 : Int) ((rdd jak x4_2.2.2.2.2.2.1 (Int.toNat x4_1)).1))
 cond (jnB (cutL jaz x4_3 0 x4_0) (3 : Int) ((rdd jak x4_2.2.2.2.2.2.1 (Int.toNat x4_1)).1))
 (cond (decide (y7.1.1 < (0 : Int)))
 (cond (decide ((0 : Int) ≤ x4_1 ∧ x4_1 < (((List.length x4_2.2.2.2.2.2.1) : Nat) : Int)))
 (cond (decide (((List.length (cutL jaz x4_3 0 x4_0)) + 1) * 24 ≤ 2 ^ 46 ∧ ((List.length (cutL jaz x4_3 0 x4_0)) + 1) ≤ 2 ^ 46))
 (rec ((List.length (cutL jaz x4_3 0 x4_0)) + 1) (IntKind.wrap .i64 (x4_1 + (1 : Int))) ((cutL jaz x4_3 0 x4_0) ++ [((3 : Int), ((rdd jak x4_2.2.2.2.2.2.1 (Int.toNat x4_1)).1, ((0 : Int), ())))]))
 (none))
 (none))
 (rec x4_0 (IntKind.wrap .i64 (x4_1 + (1 : Int))) x4_3))
 (none))
 (none))
 (k_t4 x4_0 x4_3)
def jlp (n : Nat) (k_t4 : Nat → (List jao) → Option Res) (x4_2 : jaa) : Nat → Nat → Int → (List jao) → Option Res
  | 0, _, _, _ => none
  | m + 1, x4_0, x4_1, x4_3 => jtk n k_t4 x4_2 (jlp n k_t4 x4_2 m) x4_0 x4_1 x4_3
def jFt (n : Nat) (a0 : jaa) : Option Res :=
 jlr n
  (fun y2 y3 => jlq n
  (fun y5 y6 => jlp n
  (fun y8 y9 => some (jac jtV jum ((y8, ()), (y9, ()))))
  a0
  n
  y5
  (0 : Int)
  y6)
  a0
  n
  y2
  (0 : Int)
  y3)
  a0
  n
  0
  (0 : Int)
  ([])
def jEA (a0 : jaa) : Option (RS jtV jum) := jaR jtV jum (jFt FUEL a0)
def jFS (a0 : jaa) : Bool := (jEA a0).isSome
def q_z0u (a0 : jaa) : RS jtV jum := RS.get (jEA a0)
/-! z0v: turnoutref24_leads -/
abbrev jgt : List EK := [.ty .bool]
abbrev jgu : List HK := []
def jth (n : Nat) (k_r : Bool → Option Res) (k_t5 : Unit → Option Res) (x5_1 : jaa) (x5_2 : jao) (x5_3 : jao) (rec : Int → Option Res) (x5_0 : Int) : Option Res :=
 cond (decide (x5_0 < (((List.length x5_1.2.2.1) : Nat) : Int)))
 (cond (decide ((0 : Int) ≤ x5_0 ∧ x5_0 < (((List.length x5_1.2.2.1) : Nat) : Int)))
 (cond ((rdd jaD x5_1.2.2.1 (Int.toNat x5_0)).1 == x5_2.2.1)
 (cond (x5_3.1 == (2 : Int))
 (cond (decide ((0 : Int) ≤ x5_0 ∧ x5_0 < (((List.length x5_1.2.2.1) : Nat) : Int)))
 (cond ((rdd jaD x5_1.2.2.1 (Int.toNat x5_0)).2.2.2.2.1 == x5_3.2.1)
 (k_r true)
 (k_t5 ()))
 (none))
 (k_t5 ()))
 (rec (IntKind.wrap .i64 (x5_0 + (1 : Int)))))
 (none))
 (k_t5 ())
def jlm (n : Nat) (k_r : Bool → Option Res) (k_t5 : Unit → Option Res) (x5_1 : jaa) (x5_2 : jao) (x5_3 : jao) : Nat → Int → Option Res
  | 0, _ => none
  | m + 1, x5_0 => jth n k_r k_t5 x5_1 x5_2 x5_3 (jlm n k_r k_t5 x5_1 x5_2 x5_3 m) x5_0
def jtg (n : Nat) (k_r : Bool → Option Res) (k_t7 : Unit → Option Res) (x7_1 : jaa) (x7_2 : jao) (x7_3 : jao) (rec : Int → Option Res) (x7_0 : Int) : Option Res :=
 cond (decide (x7_0 < (((List.length x7_1.2.2.2.1) : Nat) : Int)))
 (cond (decide ((0 : Int) ≤ x7_0 ∧ x7_0 < (((List.length x7_1.2.2.2.1) : Nat) : Int)))
 (cond ((rdd jaT x7_1.2.2.2.1 (Int.toNat x7_0)).1 == x7_2.2.1)
 (cond (x7_3.1 == (2 : Int))
 (cond (decide ((0 : Int) ≤ x7_0 ∧ x7_0 < (((List.length x7_1.2.2.2.1) : Nat) : Int)))
 (cond ((rdd jaT x7_1.2.2.2.1 (Int.toNat x7_0)).2.2.2.2.2.1 == x7_3.2.1)
 (k_r true)
 (rec (IntKind.wrap .i64 (x7_0 + (1 : Int)))))
 (none))
 (rec (IntKind.wrap .i64 (x7_0 + (1 : Int)))))
 (rec (IntKind.wrap .i64 (x7_0 + (1 : Int)))))
 (none))
 (k_t7 ())
def jll (n : Nat) (k_r : Bool → Option Res) (k_t7 : Unit → Option Res) (x7_1 : jaa) (x7_2 : jao) (x7_3 : jao) : Nat → Int → Option Res
  | 0, _ => none
  | m + 1, x7_0 => jtg n k_r k_t7 x7_1 x7_2 x7_3 (jll n k_r k_t7 x7_1 x7_2 x7_3 m) x7_0
def jmr (n : Nat) (k_r : Bool → Option Res) (k_t11 : Unit → Option Res) (x11_0 : Int) (x11_2 : jaa) (x11_3 : jao) (rec : Int → Option Res) (x11_1 : Int) : Option Res :=
 cond (decide ((0 : Int) ≤ x11_0 ∧ x11_0 < (((List.length x11_2.2.2.2.2.1) : Nat) : Int)))
 (cond (decide (x11_1 < (((List.length (rdd jap x11_2.2.2.2.2.1 (Int.toNat x11_0)).2.1) : Nat) : Int)))
 (cond (decide ((0 : Int) ≤ x11_0 ∧ x11_0 < (((List.length x11_2.2.2.2.2.1) : Nat) : Int)))
 (cond (decide ((0 : Int) ≤ x11_1 ∧ x11_1 < (((List.length (rdd jap x11_2.2.2.2.2.1 (Int.toNat x11_0)).2.1) : Nat) : Int)))
 (cond ((rdd jae (rdd jap x11_2.2.2.2.2.1 (Int.toNat x11_0)).2.1 (Int.toNat x11_1)).1 == (13 : Int))
 (cond (x11_3.1 == (1 : Int))
 (let y3 : Int := (rdd jae (rdd jap x11_2.2.2.2.2.1 (Int.toNat x11_0)).2.1 (Int.toNat x11_1)).2.2.2.2.1
 cond (y3 == x11_3.2.1)
 (k_r true)
 (cond ((rdd jae (rdd jap x11_2.2.2.2.2.1 (Int.toNat x11_0)).2.1 (Int.toNat x11_1)).1 == (14 : Int))
 (cond (x11_3.1 == (3 : Int))
 (let y4 : Int := (rdd jae (rdd jap x11_2.2.2.2.2.1 (Int.toNat x11_0)).2.1 (Int.toNat x11_1)).2.2.2.2.1
 cond (y4 == x11_3.2.1)
 (k_r true)
 (rec (IntKind.wrap .i64 (x11_1 + (1 : Int)))))
 (rec (IntKind.wrap .i64 (x11_1 + (1 : Int)))))
 (rec (IntKind.wrap .i64 (x11_1 + (1 : Int))))))
 (cond ((rdd jae (rdd jap x11_2.2.2.2.2.1 (Int.toNat x11_0)).2.1 (Int.toNat x11_1)).1 == (14 : Int))
 (cond (x11_3.1 == (3 : Int))
 (let y5 : Int := (rdd jae (rdd jap x11_2.2.2.2.2.1 (Int.toNat x11_0)).2.1 (Int.toNat x11_1)).2.2.2.2.1
 cond (y5 == x11_3.2.1)
 (k_r true)
 (rec (IntKind.wrap .i64 (x11_1 + (1 : Int)))))
 (rec (IntKind.wrap .i64 (x11_1 + (1 : Int)))))
 (rec (IntKind.wrap .i64 (x11_1 + (1 : Int))))))
 (cond ((rdd jae (rdd jap x11_2.2.2.2.2.1 (Int.toNat x11_0)).2.1 (Int.toNat x11_1)).1 == (14 : Int))
 (cond (x11_3.1 == (3 : Int))
 (let y6 : Int := (rdd jae (rdd jap x11_2.2.2.2.2.1 (Int.toNat x11_0)).2.1 (Int.toNat x11_1)).2.2.2.2.1
 cond (y6 == x11_3.2.1)
 (k_r true)
 (rec (IntKind.wrap .i64 (x11_1 + (1 : Int)))))
 (rec (IntKind.wrap .i64 (x11_1 + (1 : Int)))))
 (rec (IntKind.wrap .i64 (x11_1 + (1 : Int))))))
 (none))
 (none))
 (k_t11 ()))
 (none)
def jho (n : Nat) (k_r : Bool → Option Res) (k_t11 : Unit → Option Res) (x11_0 : Int) (x11_2 : jaa) (x11_3 : jao) : Nat → Int → Option Res
  | 0, _ => none
  | m + 1, x11_1 => jmr n k_r k_t11 x11_0 x11_2 x11_3 (jho n k_r k_t11 x11_0 x11_2 x11_3 m) x11_1
def jtf (n : Nat) (k_r : Bool → Option Res) (k_t9 : Unit → Option Res) (x9_1 : jaa) (x9_2 : jao) (x9_3 : jao) (rec : Int → Option Res) (x9_0 : Int) : Option Res :=
 cond (decide (x9_0 < (((List.length x9_1.2.2.2.2.1) : Nat) : Int)))
 (cond (decide ((0 : Int) ≤ x9_0 ∧ x9_0 < (((List.length x9_1.2.2.2.2.1) : Nat) : Int)))
 (cond ((rdd jap x9_1.2.2.2.2.1 (Int.toNat x9_0)).1 != x9_2.2.1)
 (rec (IntKind.wrap .i64 (x9_0 + (1 : Int))))
 (jho n
  (fun y7 => k_r y7)
  (fun _ => k_t9 ())
  x9_0
  x9_1
  x9_3
  n
  (0 : Int)))
 (none))
 (k_t9 ())
def jlk (n : Nat) (k_r : Bool → Option Res) (k_t9 : Unit → Option Res) (x9_1 : jaa) (x9_2 : jao) (x9_3 : jao) : Nat → Int → Option Res
  | 0, _ => none
  | m + 1, x9_0 => jtf n k_r k_t9 x9_1 x9_2 x9_3 (jlk n k_r k_t9 x9_1 x9_2 x9_3 m) x9_0
def jti (n : Nat) (k_r : Bool → Option Res) (k_t3 : Unit → Option Res) (x3_0 : Int) (x3_2 : jaa) (x3_3 : jao) (rec : Int → Option Res) (x3_1 : Int) : Option Res :=
 cond (decide ((0 : Int) ≤ x3_0 ∧ x3_0 < (((List.length x3_2.2.2.2.2.2.1) : Nat) : Int)))
 (cond (decide (x3_1 < (((List.length (rdd jak x3_2.2.2.2.2.2.1 (Int.toNat x3_0)).2.2.2.1) : Nat) : Int)))
 (cond (x3_3.1 == (2 : Int))
 (cond (decide ((0 : Int) ≤ x3_0 ∧ x3_0 < (((List.length x3_2.2.2.2.2.2.1) : Nat) : Int)))
 (cond (decide ((0 : Int) ≤ x3_1 ∧ x3_1 < (((List.length (rdd jak x3_2.2.2.2.2.2.1 (Int.toNat x3_0)).2.2.2.1) : Nat) : Int)))
 (let y9 : Int := (rdd jba (rdd jak x3_2.2.2.2.2.2.1 (Int.toNat x3_0)).2.2.2.1 (Int.toNat x3_1)).2.1
 cond (y9 == x3_3.2.1)
 (k_r true)
 (rec (IntKind.wrap .i64 (x3_1 + (1 : Int)))))
 (none))
 (none))
 (rec (IntKind.wrap .i64 (x3_1 + (1 : Int)))))
 (k_t3 ()))
 (none)
def jln (n : Nat) (k_r : Bool → Option Res) (k_t3 : Unit → Option Res) (x3_0 : Int) (x3_2 : jaa) (x3_3 : jao) : Nat → Int → Option Res
  | 0, _ => none
  | m + 1, x3_1 => jti n k_r k_t3 x3_0 x3_2 x3_3 (jln n k_r k_t3 x3_0 x3_2 x3_3 m) x3_1
def jtj (n : Nat) (k_r : Bool → Option Res) (k_t1 : Unit → Option Res) (x1_1 : jaa) (x1_2 : jao) (x1_3 : jao) (rec : Int → Option Res) (x1_0 : Int) : Option Res :=
 cond (decide (x1_0 < (((List.length x1_1.2.2.2.2.2.1) : Nat) : Int)))
 (cond (decide ((0 : Int) ≤ x1_0 ∧ x1_0 < (((List.length x1_1.2.2.2.2.2.1) : Nat) : Int)))
 (cond ((rdd jak x1_1.2.2.2.2.2.1 (Int.toNat x1_0)).1 != x1_2.2.1)
 (rec (IntKind.wrap .i64 (x1_0 + (1 : Int))))
 (jln n
  (fun y10 => k_r y10)
  (fun _ => k_t1 ())
  x1_0
  x1_1
  x1_3
  n
  (0 : Int)))
 (none))
 (k_t1 ())
def jlo (n : Nat) (k_r : Bool → Option Res) (k_t1 : Unit → Option Res) (x1_1 : jaa) (x1_2 : jao) (x1_3 : jao) : Nat → Int → Option Res
  | 0, _ => none
  | m + 1, x1_0 => jtj n k_r k_t1 x1_1 x1_2 x1_3 (jlo n k_r k_t1 x1_1 x1_2 x1_3 m) x1_0
def jFs (n : Nat) (a0 : jaa) (a1 : jao) (a2 : jao) : Option Res :=
 cond (a1.1 == (1 : Int))
 (jlm n
  (fun y1 => some (jac jgt jgu ((y1, ()), ())))
  (fun _ => jll n
  (fun y2 => some (jac jgt jgu ((y2, ()), ())))
  (fun _ => some (jac jgt jgu ((false, ()), ())))
  a0
  a1
  a2
  n
  (0 : Int))
  a0
  a1
  a2
  n
  (0 : Int))
 (cond (a1.1 == (2 : Int))
 (jlk n
  (fun y8 => some (jac jgt jgu ((y8, ()), ())))
  (fun _ => some (jac jgt jgu ((false, ()), ())))
  a0
  a1
  a2
  n
  (0 : Int))
 (jlo n
  (fun y11 => some (jac jgt jgu ((y11, ()), ())))
  (fun _ => some (jac jgt jgu ((false, ()), ())))
  a0
  a1
  a2
  n
  (0 : Int)))
def jEz (a0 : jaa) (a1 : jao) (a2 : jao) : Option (RS jgt jgu) := jaR jgt jgu (jFs FUEL a0 a1 a2)
def ok_z0v (a0 : jaa) (a1 : jao) (a2 : jao) : Bool := (jEz a0 a1 a2).isSome
def q_z0v (a0 : jaa) (a1 : jao) (a2 : jao) : RS jgt jgu := RS.get (jEz a0 a1 a2)
/-! z0w: turnoutref24_Cycle -/
abbrev jmO : List EK := [.ty .bool]
abbrev jmV : List HK := []
def jtd (n : Nat) (k_t4 : Bool → Option Res) (x4_0 : Nat) (x4_2 : Int) (x4_5 : jaa) (x4_6 : (List jao)) (rec : Bool → Int → Option Res) (x4_3 : Bool) (x4_4 : Int) : Option Res :=
 cond (decide (x4_4 < ((x4_0 : Nat) : Int)))
 (cond x4_3
 (rec true (IntKind.wrap .i64 (x4_4 + (1 : Int))))
 (cond (decide ((0 : Int) ≤ x4_2 ∧ x4_2 < ((x4_0 : Nat) : Int)))
 (cond (decide ((0 : Int) ≤ x4_4 ∧ x4_4 < ((x4_0 : Nat) : Int)))
 (let y2 : ((Bool × Unit) × Unit) := (q_z0v x4_5 (rdd jaz x4_6 (Int.toNat x4_2)) (rdd jaz x4_6 (Int.toNat x4_4)))
 cond (ok_z0v x4_5 (rdd jaz x4_6 (Int.toNat x4_2)) (rdd jaz x4_6 (Int.toNat x4_4)))
 (rec y2.1.1 (IntKind.wrap .i64 (x4_4 + (1 : Int))))
 (none))
 (none))
 (none)))
 (k_t4 x4_3)
def jli (n : Nat) (k_t4 : Bool → Option Res) (x4_0 : Nat) (x4_2 : Int) (x4_5 : jaa) (x4_6 : (List jao)) : Nat → Bool → Int → Option Res
  | 0, _, _ => none
  | m + 1, x4_3, x4_4 => jtd n k_t4 x4_0 x4_2 x4_5 x4_6 (jli n k_t4 x4_0 x4_2 x4_5 x4_6 m) x4_3 x4_4
def jte (n : Nat) (k_t2 : Nat → (List jao) → Option Res) (x2_0 : Nat) (x2_3 : jaa) (x2_4 : (List jao)) (rec : Nat → Int → (List jao) → Option Res) (x2_1 : Nat) (x2_2 : Int) (x2_5 : (List jao)) : Option Res :=
 cond (decide (x2_2 < ((x2_0 : Nat) : Int)))
 (jli n
  (fun y3 => cond y3
 (cond (decide ((0 : Int) ≤ x2_2 ∧ x2_2 < ((x2_0 : Nat) : Int)))
 (cond (decide (((List.length (cutL jaz x2_5 0 x2_1)) + 1) * 24 ≤ 2 ^ 46 ∧ ((List.length (cutL jaz x2_5 0 x2_1)) + 1) ≤ 2 ^ 46))
 (rec ((List.length (cutL jaz x2_5 0 x2_1)) + 1) (IntKind.wrap .i64 (x2_2 + (1 : Int))) ((cutL jaz x2_5 0 x2_1) ++ [(rdd jaz x2_4 (Int.toNat x2_2))]))
 (none))
 (none))
 (rec x2_1 (IntKind.wrap .i64 (x2_2 + (1 : Int))) x2_5))
  x2_0
  x2_2
  x2_3
  x2_4
  n
  false
  (0 : Int))
 (k_t2 x2_1 x2_5)
def jlj (n : Nat) (k_t2 : Nat → (List jao) → Option Res) (x2_0 : Nat) (x2_3 : jaa) (x2_4 : (List jao)) : Nat → Nat → Int → (List jao) → Option Res
  | 0, _, _, _ => none
  | m + 1, x2_1, x2_2, x2_5 => jte n k_t2 x2_0 x2_3 x2_4 (jlj n k_t2 x2_0 x2_3 x2_4 m) x2_1 x2_2 x2_5
def jlF (n : Nat) (k_r : Bool → Option Res) (x0_1 : jaa) (rec : Nat → (List jao) → Option Res) (x0_0 : Nat) (x0_2 : (List jao)) : Option Res :=
 jlj n
  (fun y4 y5 => cond (((y4 : Nat) : Int) == ((x0_0 : Nat) : Int))
 (k_r (decide (((x0_0 : Nat) : Int) > (0 : Int))))
 (rec y4 y5))
  x0_0
  x0_1
  x0_2
  n
  0
  (0 : Int)
  ([])
def jgW (n : Nat) (k_r : Bool → Option Res) (x0_1 : jaa) : Nat → Nat → (List jao) → Option Res
  | 0, _, _ => none
  | m + 1, x0_0, x0_2 => jlF n k_r x0_1 (jgW n k_r x0_1 m) x0_0 x0_2
def jFr (n : Nat) (a0 : jaa) : Option Res :=
 let y1 : ((Nat × Unit) × ((List jao) × Unit)) := (q_z0u a0)
 cond (jFS a0)
 (jgW n
  (fun y6 => some (jac jmO jmV ((y6, ()), ())))
  a0
  n
  y1.1.1
  y1.2.1)
 (none)
def jEy (a0 : jaa) : Option (RS jmO jmV) := jaR jmO jmV (jFr FUEL a0)
def jFR (a0 : jaa) : Bool := (jEy a0).isSome
def q_z0w (a0 : jaa) : RS jmO jmV := RS.get (jEy a0)
/-! z0x: turnoutref24_steps -/
abbrev jmN : List EK := [.ty (.int .i64)]
abbrev jmU : List HK := []
def jFq (n : Nat) (a0 : (List jao)) (a1 : Int) (a2 : Int) : Option Res :=
 let y1 : ((Int × Unit) × Unit) := (jwu a0 a1 a2)
 cond (jnB a0 a1 a2)
 (cond (decide (y1.1.1 < (0 : Int)))
 (some (jac jmN jmU (((0 : Int), ()), ())))
 (cond (decide ((0 : Int) ≤ y1.1.1 ∧ y1.1.1 < (((List.length a0) : Nat) : Int)))
 (some (jac jmN jmU (((rdd jaz a0 (Int.toNat y1.1.1)).2.2.1, ()), ())))
 (none)))
 (none)
def jCk (a0 : (List jao)) (a1 : Int) (a2 : Int) : Option (RS jmN jmU) := jaR jmN jmU (jFq FUEL a0 a1 a2)
def jpr (a0 : (List jao)) (a1 : Int) (a2 : Int) : Bool := (jCk a0 a1 a2).isSome
def jzU (a0 : (List jao)) (a1 : Int) (a2 : Int) : RS jmN jmU := RS.get (jCk a0 a1 a2)
/-! z0y: turnoutref24_cut -/
abbrev jtU : List EK := [.ty (.int .i64)]
abbrev jul : List HK := []
def jFp (n : Nat) (a0 : Int) : Option Res :=
 some (jac jtU jul (((if (65537 : Int) < a0 then (65537 : Int) else a0), ()), ()))
def jEx (a0 : Int) : Option (RS jtU jul) := jaR jtU jul (jFp FUEL a0)
def jhA (a0 : Int) : Bool := (jEx a0).isSome
def jow (a0 : Int) : RS jtU jul := RS.get (jEx a0)
/-! z0z: turnoutref24_table -/
abbrev jtT : List EK := [.ty (.int .i64)]
abbrev juk : List HK := []
def jtc (n : Nat) (k_t0 : Int → Option Res) (x0_0 : (List jao)) (x0_3 : jaa) (x0_4 : jbl) (rec : Int → Int → Option Res) (x0_1 : Int) (x0_2 : Int) : Option Res :=
 cond (decide (x0_2 < (((List.length x0_3.2.2.2.1) : Nat) : Int)))
 (cond (decide ((0 : Int) ≤ x0_2 ∧ x0_2 < (((List.length x0_3.2.2.2.1) : Nat) : Int)))
 (cond ((rdd jaT x0_3.2.2.2.1 (Int.toNat x0_2)).1 == x0_4.1)
 (cond (decide ((0 : Int) ≤ x0_2 ∧ x0_2 < (((List.length x0_3.2.2.2.1) : Nat) : Int)))
 (let y2 : ((Int × Unit) × Unit) := (jzU x0_0 (2 : Int) ((rdd jaT x0_3.2.2.2.1 (Int.toNat x0_2)).2.2.2.2.2.1))
 cond (jpr x0_0 (2 : Int) ((rdd jaT x0_3.2.2.2.1 (Int.toNat x0_2)).2.2.2.2.2.1))
 (rec (if y2.1.1 > x0_1 then y2.1.1 else x0_1) (IntKind.wrap .i64 (x0_2 + (1 : Int))))
 (none))
 (none))
 (rec x0_1 (IntKind.wrap .i64 (x0_2 + (1 : Int)))))
 (none))
 (k_t0 x0_1)
def jlh (n : Nat) (k_t0 : Int → Option Res) (x0_0 : (List jao)) (x0_3 : jaa) (x0_4 : jbl) : Nat → Int → Int → Option Res
  | 0, _, _ => none
  | m + 1, x0_1, x0_2 => jtc n k_t0 x0_0 x0_3 x0_4 (jlh n k_t0 x0_0 x0_3 x0_4 m) x0_1 x0_2
def jFo (n : Nat) (a0 : (List jao)) (a1 : jaa) (a2 : jbl) : Option Res :=
 let y1 : ((Int × Unit) × Unit) := (jzU a0 (2 : Int) a2.2.2.2.2.1)
 cond (jpr a0 (2 : Int) a2.2.2.2.2.1)
 (jlh n
  (fun y3 => let y4 : ((Int × Unit) × Unit) := (jow (IntKind.wrap .i64 ((1 : Int) + y3)))
 cond (jhA (IntKind.wrap .i64 ((1 : Int) + y3)))
 (some (jac jtT juk ((y4.1.1, ()), ())))
 (none))
  a0
  a1
  a2
  n
  y1.1.1
  (0 : Int))
 (none)
def jEw (a0 : (List jao)) (a1 : jaa) (a2 : jbl) : Option (RS jtT juk) := jaR jtT juk (jFo FUEL a0 a1 a2)
def ok_z0z (a0 : (List jao)) (a1 : jaa) (a2 : jbl) : Bool := (jEw a0 a1 a2).isSome
def q_z0z (a0 : (List jao)) (a1 : jaa) (a2 : jbl) : RS jtT juk := RS.get (jEw a0 a1 a2)
/-! z10: turnoutref24_block -/
abbrev joN : List EK := [.ty (.int .i64)]
abbrev jpb : List HK := []
def jop (n : Nat) (k_t0 : (List Int) → Option Res) (x0_0 : (List jao)) (x0_1 : (List jaj)) (x0_2 : Nat) (rec : Int → (List Int) → Option Res) (x0_3 : Int) (x0_4 : (List Int)) : Option Res :=
 cond (decide (x0_3 ≥ (0 : Int)))
 (cond (decide ((0 : Int) ≤ x0_3 ∧ x0_3 < (((List.length x0_1) : Nat) : Int)))
 (cond ((rdd jae x0_1 (Int.toNat x0_3)).1 == (13 : Int))
 (let y1 : ((Int × Unit) × Unit) := (jzU x0_0 (1 : Int) ((rdd jae x0_1 (Int.toNat x0_3)).2.2.2.2.1))
 cond (jpr x0_0 (1 : Int) ((rdd jae x0_1 (Int.toNat x0_3)).2.2.2.2.1))
 (let y2 : ((Int × Unit) × Unit) := (jow (IntKind.wrap .i64 ((1 : Int) + y1.1.1)))
 cond (jhA (IntKind.wrap .i64 ((1 : Int) + y1.1.1)))
 (cond (decide ((0 : Int) ≤ x0_3 ∧ x0_3 < ((x0_2 : Nat) : Int)))
 (rec (IntKind.wrap .i64 (x0_3 - (1 : Int))) (List.set x0_4 (Int.toNat x0_3) y2.1.1))
 (none))
 (none))
 (none))
 (cond ((rdd jae x0_1 (Int.toNat x0_3)).1 == (14 : Int))
 (let y3 : ((Int × Unit) × Unit) := (jzU x0_0 (3 : Int) ((rdd jae x0_1 (Int.toNat x0_3)).2.2.2.2.1))
 cond (jpr x0_0 (3 : Int) ((rdd jae x0_1 (Int.toNat x0_3)).2.2.2.2.1))
 (let y4 : ((Int × Unit) × Unit) := (jow (IntKind.wrap .i64 ((1 : Int) + y3.1.1)))
 cond (jhA (IntKind.wrap .i64 ((1 : Int) + y3.1.1)))
 (cond (decide ((0 : Int) ≤ x0_3 ∧ x0_3 < ((x0_2 : Nat) : Int)))
 (rec (IntKind.wrap .i64 (x0_3 - (1 : Int))) (List.set x0_4 (Int.toNat x0_3) y4.1.1))
 (none))
 (none))
 (none))
 (cond ((rdd jae x0_1 (Int.toNat x0_3)).1 == (23 : Int))
 (cond (decide ((0 : Int) ≤ x0_3 ∧ x0_3 < ((x0_2 : Nat) : Int)))
 (rec (IntKind.wrap .i64 (x0_3 - (1 : Int))) (List.set x0_4 (Int.toNat x0_3) (1 : Int)))
 (none))
 (cond ((rdd jae x0_1 (Int.toNat x0_3)).1 == (22 : Int))
 (cond (decide ((0 : Int) ≤ x0_3 ∧ x0_3 < ((x0_2 : Nat) : Int)))
 (rec (IntKind.wrap .i64 (x0_3 - (1 : Int))) (List.set x0_4 (Int.toNat x0_3) (1 : Int)))
 (none))
 (cond ((rdd jae x0_1 (Int.toNat x0_3)).1 == (12 : Int))
 (cond (decide ((rdd jae x0_1 (Int.toNat x0_3)).2.2.2.2.1 ≥ (0 : Int)))
 (let y5 : Int := (IntKind.wrap .i64 ((IntKind.wrap .i64 ((((List.length x0_1) : Nat) : Int) - (1 : Int))) - x0_3))
 cond (decide ((rdd jae x0_1 (Int.toNat x0_3)).2.2.2.2.1 < y5))
 (let y6 : Int := (IntKind.wrap .i64 ((IntKind.wrap .i64 (x0_3 + (1 : Int))) + (rdd jae x0_1 (Int.toNat x0_3)).2.2.2.2.1))
 cond (decide ((0 : Int) ≤ y6 ∧ y6 < ((x0_2 : Nat) : Int)))
 (cond (decide ((0 : Int) ≤ (IntKind.wrap .i64 (x0_3 + (1 : Int))) ∧ (IntKind.wrap .i64 (x0_3 + (1 : Int))) < ((x0_2 : Nat) : Int)))
 (let y7 : Int := (if (rdd (0 : Int) x0_4 (Int.toNat y6)) > (rdd (0 : Int) x0_4 (Int.toNat (IntKind.wrap .i64 (x0_3 + (1 : Int))))) then (rdd (0 : Int) x0_4 (Int.toNat y6)) else (rdd (0 : Int) x0_4 (Int.toNat (IntKind.wrap .i64 (x0_3 + (1 : Int))))))
 let y8 : ((Int × Unit) × Unit) := (jow (IntKind.wrap .i64 ((1 : Int) + y7)))
 cond (jhA (IntKind.wrap .i64 ((1 : Int) + y7)))
 (cond (decide ((0 : Int) ≤ x0_3 ∧ x0_3 < ((x0_2 : Nat) : Int)))
 (rec (IntKind.wrap .i64 (x0_3 - (1 : Int))) (List.set x0_4 (Int.toNat x0_3) y8.1.1))
 (none))
 (none))
 (none))
 (none))
 (cond (decide ((0 : Int) ≤ (IntKind.wrap .i64 (x0_3 + (1 : Int))) ∧ (IntKind.wrap .i64 (x0_3 + (1 : Int))) < ((x0_2 : Nat) : Int)))
 (let y9 : Int := (if (0 : Int) > (rdd (0 : Int) x0_4 (Int.toNat (IntKind.wrap .i64 (x0_3 + (1 : Int))))) then (0 : Int) else (rdd (0 : Int) x0_4 (Int.toNat (IntKind.wrap .i64 (x0_3 + (1 : Int))))))
 let y10 : ((Int × Unit) × Unit) := (jow (IntKind.wrap .i64 ((1 : Int) + y9)))
 cond (jhA (IntKind.wrap .i64 ((1 : Int) + y9)))
 (cond (decide ((0 : Int) ≤ x0_3 ∧ x0_3 < ((x0_2 : Nat) : Int)))
 (rec (IntKind.wrap .i64 (x0_3 - (1 : Int))) (List.set x0_4 (Int.toNat x0_3) y10.1.1))
 (none))
 (none))
 (none)))
 (cond (decide ((0 : Int) ≤ (IntKind.wrap .i64 (x0_3 + (1 : Int))) ∧ (IntKind.wrap .i64 (x0_3 + (1 : Int))) < ((x0_2 : Nat) : Int)))
 (let y11 : Int := (if (0 : Int) > (rdd (0 : Int) x0_4 (Int.toNat (IntKind.wrap .i64 (x0_3 + (1 : Int))))) then (0 : Int) else (rdd (0 : Int) x0_4 (Int.toNat (IntKind.wrap .i64 (x0_3 + (1 : Int))))))
 let y12 : ((Int × Unit) × Unit) := (jow (IntKind.wrap .i64 ((1 : Int) + y11)))
 cond (jhA (IntKind.wrap .i64 ((1 : Int) + y11)))
 (cond (decide ((0 : Int) ≤ x0_3 ∧ x0_3 < ((x0_2 : Nat) : Int)))
 (rec (IntKind.wrap .i64 (x0_3 - (1 : Int))) (List.set x0_4 (Int.toNat x0_3) y12.1.1))
 (none))
 (none))
 (none)))
 (cond (decide ((0 : Int) ≤ (IntKind.wrap .i64 (x0_3 + (1 : Int))) ∧ (IntKind.wrap .i64 (x0_3 + (1 : Int))) < ((x0_2 : Nat) : Int)))
 (let y13 : Int := (IntKind.wrap .i64 ((1 : Int) + (rdd (0 : Int) x0_4 (Int.toNat (IntKind.wrap .i64 (x0_3 + (1 : Int)))))))
 let y14 : ((Int × Unit) × Unit) := (jow y13)
 cond (jhA y13)
 (cond (decide ((0 : Int) ≤ x0_3 ∧ x0_3 < ((x0_2 : Nat) : Int)))
 (rec (IntKind.wrap .i64 (x0_3 - (1 : Int))) (List.set x0_4 (Int.toNat x0_3) y14.1.1))
 (none))
 (none))
 (none)))))))
 (none))
 (k_t0 x0_4)
def jgi (n : Nat) (k_t0 : (List Int) → Option Res) (x0_0 : (List jao)) (x0_1 : (List jaj)) (x0_2 : Nat) : Nat → Int → (List Int) → Option Res
  | 0, _, _ => none
  | m + 1, x0_3, x0_4 => jop n k_t0 x0_0 x0_1 x0_2 (jgi n k_t0 x0_0 x0_1 x0_2 m) x0_3 x0_4
def jFn (n : Nat) (a0 : (List jao)) (a1 : (List jaj)) : Option Res :=
 cond (decide ((0 : Int) ≤ (IntKind.wrap .i64 ((((List.length a1) : Nat) : Int) + (1 : Int))) ∧ (IntKind.wrap .i64 ((((List.length a1) : Nat) : Int) + (1 : Int))) ≤ (IntKind.wrap .i64 ((((List.length a1) : Nat) : Int) + (1 : Int))) ∧ (8 : Nat) * (IntKind.wrap .i64 ((((List.length a1) : Nat) : Int) + (1 : Int))) ≤ (2 : Int) ^ 46))
 (jgi n
  (fun y15 => cond (decide ((0 : Int) ≤ (0 : Int) ∧ (0 : Int) < (((Int.toNat (IntKind.wrap .i64 ((((List.length a1) : Nat) : Int) + (1 : Int)))) : Nat) : Int)))
 (some (jac joN jpb (((rdd (0 : Int) y15 0), ()), ())))
 (none))
  a0
  a1
  (Int.toNat (IntKind.wrap .i64 ((((List.length a1) : Nat) : Int) + (1 : Int))))
  n
  (IntKind.wrap .i64 ((((List.length a1) : Nat) : Int) - (1 : Int)))
  (List.replicate (Int.toNat (IntKind.wrap .i64 ((((List.length a1) : Nat) : Int) + (1 : Int)))) (0 : Int)))
 (none)
def jEv (a0 : (List jao)) (a1 : (List jaj)) : Option (RS joN jpb) := jaR joN jpb (jFn FUEL a0 a1)
def ok_z10 (a0 : (List jao)) (a1 : (List jaj)) : Bool := (jEv a0 a1).isSome
def q_z10 (a0 : (List jao)) (a1 : (List jaj)) : RS joN jpb := RS.get (jEv a0 a1)
/-! z11: turnoutref24_group -/
abbrev joM : List EK := [.ty (.int .i64)]
abbrev jpa : List HK := []
def jtb (n : Nat) (k_t0 : Int → Int → Option Res) (x0_0 : (List jao)) (x0_4 : jal) (rec : Int → Int → Int → Option Res) (x0_1 : Int) (x0_2 : Int) (x0_3 : Int) : Option Res :=
 cond (decide (x0_3 < (((List.length x0_4.2.2.2.1) : Nat) : Int)))
 (cond (decide ((0 : Int) ≤ x0_3 ∧ x0_3 < (((List.length x0_4.2.2.2.1) : Nat) : Int)))
 (let y1 : ((Int × Unit) × Unit) := (jzU x0_0 (2 : Int) ((rdd jba x0_4.2.2.2.1 (Int.toNat x0_3)).2.1))
 cond (jpr x0_0 (2 : Int) ((rdd jba x0_4.2.2.2.1 (Int.toNat x0_3)).2.1))
 (let y2 : ((Int × Unit) × Unit) := (jow (IntKind.wrap .i64 (x0_1 + y1.1.1)))
 cond (jhA (IntKind.wrap .i64 (x0_1 + y1.1.1)))
 (rec y2.1.1 (if y1.1.1 > x0_2 then y1.1.1 else x0_2) (IntKind.wrap .i64 (x0_3 + (1 : Int))))
 (none))
 (none))
 (none))
 (k_t0 x0_1 x0_2)
def jlg (n : Nat) (k_t0 : Int → Int → Option Res) (x0_0 : (List jao)) (x0_4 : jal) : Nat → Int → Int → Int → Option Res
  | 0, _, _, _ => none
  | m + 1, x0_1, x0_2, x0_3 => jtb n k_t0 x0_0 x0_4 (jlg n k_t0 x0_0 x0_4 m) x0_1 x0_2 x0_3
def jFm (n : Nat) (a0 : (List jao)) (a1 : jal) : Option Res :=
 jlg n
  (fun y3 y4 => cond (a1.2.1 == (1 : Int))
 (some (jac joM jpa ((y3, ()), ())))
 (some (jac joM jpa ((y4, ()), ()))))
  a0
  a1
  n
  (0 : Int)
  (0 : Int)
  (0 : Int)
def jEu (a0 : (List jao)) (a1 : jal) : Option (RS joM jpa) := jaR joM jpa (jFm FUEL a0 a1)
def ok_z11 (a0 : (List jao)) (a1 : jal) : Bool := (jEu a0 a1).isSome
def q_z11 (a0 : (List jao)) (a1 : jal) : RS joM jpa := RS.get (jEu a0 a1)
/-! z12: turnoutref24_All -/
abbrev jtS : List EK := [.hs 0 0]
abbrev juj : List HK := [.row jaG]
def jsZ (n : Nat) (k_t2 : (List jao) → Option Res) (x2_0 : Nat) (x2_2 : Nat) (x2_4 : jaa) (x2_6 : (List jao)) (rec : Int → (List jao) → Option Res) (x2_3 : Int) (x2_5 : (List jao)) : Option Res :=
 cond (decide (x2_3 ≥ (0 : Int)))
 (cond (decide ((0 : Int) ≤ x2_3 ∧ x2_3 < (((List.length x2_4.2.2.1) : Nat) : Int)))
 (let y2 : ((Int × Unit) × Unit) := (jwu (cutL jaz x2_5 0 x2_0) (1 : Int) ((rdd jaD x2_4.2.2.1 (Int.toNat x2_3)).1))
 cond (jnB (cutL jaz x2_5 0 x2_0) (1 : Int) ((rdd jaD x2_4.2.2.1 (Int.toNat x2_3)).1))
 (cond (decide ((0 : Int) ≤ x2_3 ∧ x2_3 < (((List.length x2_4.2.2.1) : Nat) : Int)))
 (let y3 : ((Int × Unit) × Unit) := (q_z0z (cutL jaz x2_6 0 x2_2) x2_4 (rdd jaD x2_4.2.2.1 (Int.toNat x2_3)))
 cond (ok_z0z (cutL jaz x2_6 0 x2_2) x2_4 (rdd jaD x2_4.2.2.1 (Int.toNat x2_3)))
 (cond (decide ((0 : Int) ≤ y2.1.1 ∧ y2.1.1 < ((x2_0 : Nat) : Int)))
 (rec (IntKind.wrap .i64 (x2_3 - (1 : Int))) (List.set x2_5 (Int.toNat y2.1.1) ((rdd jaz x2_5 (Int.toNat y2.1.1)).1, ((rdd jaz x2_5 (Int.toNat y2.1.1)).2.1, (y3.1.1, ())))))
 (none))
 (none))
 (none))
 (none))
 (none))
 (k_t2 x2_5)
def jjt (n : Nat) (k_t2 : (List jao) → Option Res) (x2_0 : Nat) (x2_2 : Nat) (x2_4 : jaa) (x2_6 : (List jao)) : Nat → Int → (List jao) → Option Res
  | 0, _, _ => none
  | m + 1, x2_3, x2_5 => jsZ n k_t2 x2_0 x2_2 x2_4 x2_6 (jjt n k_t2 x2_0 x2_2 x2_4 x2_6 m) x2_3 x2_5
def jsY (n : Nat) (k_t4 : (List jao) → Option Res) (x4_0 : Nat) (x4_2 : Nat) (x4_4 : jaa) (x4_6 : (List jao)) (rec : Int → (List jao) → Option Res) (x4_3 : Int) (x4_5 : (List jao)) : Option Res :=
 cond (decide (x4_3 ≥ (0 : Int)))
 (cond (decide ((0 : Int) ≤ x4_3 ∧ x4_3 < (((List.length x4_4.2.2.2.2.1) : Nat) : Int)))
 (let y5 : ((Int × Unit) × Unit) := (jwu (cutL jaz x4_5 0 x4_0) (2 : Int) ((rdd jap x4_4.2.2.2.2.1 (Int.toNat x4_3)).1))
 cond (jnB (cutL jaz x4_5 0 x4_0) (2 : Int) ((rdd jap x4_4.2.2.2.2.1 (Int.toNat x4_3)).1))
 (cond (decide ((0 : Int) ≤ x4_3 ∧ x4_3 < (((List.length x4_4.2.2.2.2.1) : Nat) : Int)))
 (let y6 : ((Int × Unit) × Unit) := (q_z10 (cutL jaz x4_6 0 x4_2) ((rdd jap x4_4.2.2.2.2.1 (Int.toNat x4_3)).2.1))
 cond (ok_z10 (cutL jaz x4_6 0 x4_2) ((rdd jap x4_4.2.2.2.2.1 (Int.toNat x4_3)).2.1))
 (cond (decide ((0 : Int) ≤ y5.1.1 ∧ y5.1.1 < ((x4_0 : Nat) : Int)))
 (rec (IntKind.wrap .i64 (x4_3 - (1 : Int))) (List.set x4_5 (Int.toNat y5.1.1) ((rdd jaz x4_5 (Int.toNat y5.1.1)).1, ((rdd jaz x4_5 (Int.toNat y5.1.1)).2.1, (y6.1.1, ())))))
 (none))
 (none))
 (none))
 (none))
 (none))
 (k_t4 x4_5)
def jjs (n : Nat) (k_t4 : (List jao) → Option Res) (x4_0 : Nat) (x4_2 : Nat) (x4_4 : jaa) (x4_6 : (List jao)) : Nat → Int → (List jao) → Option Res
  | 0, _, _ => none
  | m + 1, x4_3, x4_5 => jsY n k_t4 x4_0 x4_2 x4_4 x4_6 (jjs n k_t4 x4_0 x4_2 x4_4 x4_6 m) x4_3 x4_5
def jsX (n : Nat) (k_t6 : (List jao) → Option Res) (x6_0 : Nat) (x6_2 : Nat) (x6_4 : jaa) (x6_6 : (List jao)) (rec : Int → (List jao) → Option Res) (x6_3 : Int) (x6_5 : (List jao)) : Option Res :=
 cond (decide (x6_3 ≥ (0 : Int)))
 (cond (decide ((0 : Int) ≤ x6_3 ∧ x6_3 < (((List.length x6_4.2.2.2.2.2.1) : Nat) : Int)))
 (let y8 : ((Int × Unit) × Unit) := (jwu (cutL jaz x6_5 0 x6_0) (3 : Int) ((rdd jak x6_4.2.2.2.2.2.1 (Int.toNat x6_3)).1))
 cond (jnB (cutL jaz x6_5 0 x6_0) (3 : Int) ((rdd jak x6_4.2.2.2.2.2.1 (Int.toNat x6_3)).1))
 (cond (decide ((0 : Int) ≤ x6_3 ∧ x6_3 < (((List.length x6_4.2.2.2.2.2.1) : Nat) : Int)))
 (let y9 : ((Int × Unit) × Unit) := (q_z11 (cutL jaz x6_6 0 x6_2) (rdd jak x6_4.2.2.2.2.2.1 (Int.toNat x6_3)))
 cond (ok_z11 (cutL jaz x6_6 0 x6_2) (rdd jak x6_4.2.2.2.2.2.1 (Int.toNat x6_3)))
 (cond (decide ((0 : Int) ≤ y8.1.1 ∧ y8.1.1 < ((x6_0 : Nat) : Int)))
 (rec (IntKind.wrap .i64 (x6_3 - (1 : Int))) (List.set x6_5 (Int.toNat y8.1.1) ((rdd jaz x6_5 (Int.toNat y8.1.1)).1, ((rdd jaz x6_5 (Int.toNat y8.1.1)).2.1, (y9.1.1, ())))))
 (none))
 (none))
 (none))
 (none))
 (none))
 (k_t6 x6_5)
def jgU (n : Nat) (k_t6 : (List jao) → Option Res) (x6_0 : Nat) (x6_2 : Nat) (x6_4 : jaa) (x6_6 : (List jao)) : Nat → Int → (List jao) → Option Res
  | 0, _, _ => none
  | m + 1, x6_3, x6_5 => jsX n k_t6 x6_0 x6_2 x6_4 x6_6 (jgU n k_t6 x6_0 x6_2 x6_4 x6_6 m) x6_3 x6_5
def jta (n : Nat) (k_t0 : (List jao) → Option Res) (x0_0 : Nat) (x0_2 : jaa) (rec : Int → (List jao) → Option Res) (x0_1 : Int) (x0_3 : (List jao)) : Option Res :=
 cond (decide (x0_1 ≤ ((x0_0 : Nat) : Int)))
 (cond (decide ((0 + (List.length (cutL jaz x0_3 0 x0_0))) * 24 ≤ 2 ^ 46 ∧ (0 + (List.length (cutL jaz x0_3 0 x0_0))) ≤ 2 ^ 46))
 (jjt n
  (fun y4 => jjs n
  (fun y7 => jgU n
  (fun y10 => rec (IntKind.wrap .i64 (x0_1 + (1 : Int))) y10)
  x0_0
  (0 + (List.length (cutL jaz x0_3 0 x0_0)))
  x0_2
  (cutL jaz x0_3 0 x0_0)
  n
  (IntKind.wrap .i64 ((((List.length x0_2.2.2.2.2.2.1) : Nat) : Int) - (1 : Int)))
  y7)
  x0_0
  (0 + (List.length (cutL jaz x0_3 0 x0_0)))
  x0_2
  (cutL jaz x0_3 0 x0_0)
  n
  (IntKind.wrap .i64 ((((List.length x0_2.2.2.2.2.1) : Nat) : Int) - (1 : Int)))
  y4)
  x0_0
  (0 + (List.length (cutL jaz x0_3 0 x0_0)))
  x0_2
  (cutL jaz x0_3 0 x0_0)
  n
  (IntKind.wrap .i64 ((((List.length x0_2.2.2.1) : Nat) : Int) - (1 : Int)))
  x0_3)
 (none))
 (k_t0 x0_3)
def jgV (n : Nat) (k_t0 : (List jao) → Option Res) (x0_0 : Nat) (x0_2 : jaa) : Nat → Int → (List jao) → Option Res
  | 0, _, _ => none
  | m + 1, x0_1, x0_3 => jta n k_t0 x0_0 x0_2 (jgV n k_t0 x0_0 x0_2 m) x0_1 x0_3
def jFl (n : Nat) (a0 : jaa) : Option Res :=
 let y1 : ((Nat × Unit) × ((List jao) × Unit)) := (q_z0u a0)
 cond (jFS a0)
 (jgV n
  (fun y11 => some (jac jtS juj ((y1.1.1, ()), (y11, ()))))
  y1.1.1
  a0
  n
  (0 : Int)
  y1.2.1)
 (none)
def jEt (a0 : jaa) : Option (RS jtS juj) := jaR jtS juj (jFl FUEL a0)
def ok_z12 (a0 : jaa) : Bool := (jEt a0).isSome
def q_z12 (a0 : jaa) : RS jtS juj := RS.get (jEt a0)
/-! z13: turnoutref24_most -/
abbrev joL : List EK := [.ty (.int .i64), .ty (.int .i64)]
abbrev joZ : List HK := []
def jFk (n : Nat) (a0 : jaa) (a1 : Int) (a2 : Int) : Option Res :=
 let y1 : ((Bool × Unit) × Unit) := (q_z0w a0)
 cond (jFR a0)
 (cond y1.1.1
 (some (jac joL joZ (((0 : Int), ((10 : Int), ())), ())))
 (let y2 : ((Nat × Unit) × ((List jao) × Unit)) := (q_z12 a0)
 cond (ok_z12 a0)
 (let y3 : ((Int × Unit) × Unit) := (jzU (cutL jaz y2.2.1 0 y2.1.1) a1 a2)
 cond (jpr (cutL jaz y2.2.1 0 y2.1.1) a1 a2)
 (some (jac joL joZ ((y3.1.1, ((0 : Int), ())), ())))
 (none))
 (none)))
 (none)
def jEs (a0 : jaa) (a1 : Int) (a2 : Int) : Option (RS joL joZ) := jaR joL joZ (jFk FUEL a0 a1 a2)
def jBg (a0 : jaa) (a1 : Int) (a2 : Int) : Bool := (jEs a0 a1 a2).isSome
def q_z13 (a0 : jaa) (a1 : Int) (a2 : Int) : RS joL joZ := RS.get (jEs a0 a1 a2)
/-! z14: turnoutref24_Table -/
abbrev jtR : List EK := [.ty (.int .i64), .ty (.int .i64)]
abbrev jui : List HK := []
def jFj (n : Nat) (a0 : jaa) (a1 : Int) : Option Res :=
 let y1 : ((Int × (Int × Unit)) × Unit) := (q_z13 a0 (1 : Int) a1)
 cond (jBg a0 (1 : Int) a1)
 (some (jac jtR jui ((y1.1.1, (y1.1.2.1, ())), ())))
 (none)
def jEr (a0 : jaa) (a1 : Int) : Option (RS jtR jui) := jaR jtR jui (jFj FUEL a0 a1)
def jFQ (a0 : jaa) (a1 : Int) : Bool := (jEr a0 a1).isSome
def q_z14 (a0 : jaa) (a1 : Int) : RS jtR jui := RS.get (jEr a0 a1)
/-! z15: turnoutref15_Form -/
abbrev jat : List EK := [.ty .bool]
abbrev jau : List HK := []
def jsW (n : Nat) (k_t0 : Int → Option Res) (x0_2 : jah) (rec : Int → Int → Option Res) (x0_0 : Int) (x0_1 : Int) : Option Res :=
 cond (decide (x0_1 < x0_2.2.2.2.2.2.2.1))
 (rec (IntKind.wrap .u64 (x0_0 * (2 : Int))) (IntKind.wrap .i64 (x0_1 + (1 : Int))))
 (k_t0 x0_0)
def jbM (n : Nat) (k_t0 : Int → Option Res) (x0_2 : jah) : Nat → Int → Int → Option Res
  | 0, _, _ => none
  | m + 1, x0_0, x0_1 => jsW n k_t0 x0_2 (jbM n k_t0 x0_2 m) x0_0 x0_1
def jsV (n : Nat) (k_r : Bool → Option Res) (k_t2 : Unit → Option Res) (x2_0 : Int) (x2_2 : jah) (rec : Int → Option Res) (x2_1 : Int) : Option Res :=
 cond (decide (x2_1 < (((List.length x2_2.2.2.2.2.2.2.2.1) : Nat) : Int)))
 (cond (decide ((0 : Int) ≤ x2_1 ∧ x2_1 < (((List.length x2_2.2.2.2.2.2.2.2.1) : Nat) : Int)))
 (cond (decide ((IntKind.wrap .u64 (rdd jcd x2_2.2.2.2.2.2.2.2.1 (Int.toNat x2_1)).1) ≥ x2_0))
 (k_r false)
 (cond (decide (x2_1 > (0 : Int)))
 (cond (decide ((0 : Int) ≤ (IntKind.wrap .i64 (x2_1 - (1 : Int))) ∧ (IntKind.wrap .i64 (x2_1 - (1 : Int))) < (((List.length x2_2.2.2.2.2.2.2.2.1) : Nat) : Int)))
 (cond (decide ((rdd jcd x2_2.2.2.2.2.2.2.2.1 (Int.toNat x2_1)).1 ≤ (rdd jcd x2_2.2.2.2.2.2.2.2.1 (Int.toNat (IntKind.wrap .i64 (x2_1 - (1 : Int))))).1))
 (k_r false)
 (cond (decide ((rdd jcd x2_2.2.2.2.2.2.2.2.1 (Int.toNat x2_1)).2.1 < (0 : Int)))
 (k_r false)
 (cond (decide ((rdd jcd x2_2.2.2.2.2.2.2.2.1 (Int.toNat x2_1)).2.1 > (65535 : Int)))
 (k_r false)
 (rec (IntKind.wrap .i64 (x2_1 + (1 : Int)))))))
 (none))
 (cond (decide ((rdd jcd x2_2.2.2.2.2.2.2.2.1 (Int.toNat x2_1)).2.1 < (0 : Int)))
 (k_r false)
 (cond (decide ((rdd jcd x2_2.2.2.2.2.2.2.2.1 (Int.toNat x2_1)).2.1 > (65535 : Int)))
 (k_r false)
 (rec (IntKind.wrap .i64 (x2_1 + (1 : Int))))))))
 (none))
 (k_t2 ())
def jbL (n : Nat) (k_r : Bool → Option Res) (k_t2 : Unit → Option Res) (x2_0 : Int) (x2_2 : jah) : Nat → Int → Option Res
  | 0, _ => none
  | m + 1, x2_1 => jsV n k_r k_t2 x2_0 x2_2 (jbL n k_r k_t2 x2_0 x2_2 m) x2_1
def jFi (n : Nat) (a0 : jah) : Option Res :=
 cond (decide (a0.1 < (1 : Int)))
 (some (jac jat jau ((false, ()), ())))
 (cond (decide (a0.1 > (65534 : Int)))
 (some (jac jat jau ((false, ()), ())))
 (cond (decide (a0.2.1 < (0 : Int)))
 (some (jac jat jau ((false, ()), ())))
 (cond (decide (a0.2.1 > (256 : Int)))
 (some (jac jat jau ((false, ()), ())))
 (cond (decide (a0.2.2.2.2.2.2.2.2.1 < (0 : Int)))
 (some (jac jat jau ((false, ()), ())))
 (cond (decide (a0.2.2.2.2.2.2.2.2.1 > (65535 : Int)))
 (some (jac jat jau ((false, ()), ())))
 (cond (a0.2.2.2.1 == (0 : Int))
 (cond (a0.2.2.1 != (0 : Int))
 (some (jac jat jau ((false, ()), ())))
 (cond (a0.2.2.2.2.1 != (0 : Int))
 (some (jac jat jau ((false, ()), ())))
 (cond (a0.2.2.2.1 != (0 : Int))
 (cond (decide (a0.2.2.2.1 < (1 : Int)))
 (some (jac jat jau ((false, ()), ())))
 (cond (decide (a0.2.2.2.1 > (16 : Int)))
 (some (jac jat jau ((false, ()), ())))
 (cond (decide (a0.2.2.2.2.1 < (1 : Int)))
 (some (jac jat jau ((false, ()), ())))
 (cond (decide (a0.2.2.2.2.1 > (256 : Int)))
 (some (jac jat jau ((false, ()), ())))
 (cond (decide (a0.2.2.1 < (0 : Int)))
 (some (jac jat jau ((false, ()), ())))
 (cond (decide (a0.2.2.1 > (2048 : Int)))
 (some (jac jat jau ((false, ()), ())))
 (cond (a0.2.2.2.2.2.2.1 == (0 : Int))
 (cond (a0.2.2.2.2.2.1 != (0 : Int))
 (some (jac jat jau ((false, ()), ())))
 (cond (decide ((((List.length a0.2.2.2.2.2.2.2.1) : Nat) : Int) > (0 : Int)))
 (some (jac jat jau ((false, ()), ())))
 (cond (a0.2.2.2.2.2.2.1 != (0 : Int))
 (cond (decide (a0.2.2.2.2.2.2.1 < (1 : Int)))
 (some (jac jat jau ((false, ()), ())))
 (cond (decide (a0.2.2.2.2.2.2.1 > (32 : Int)))
 (some (jac jat jau ((false, ()), ())))
 (cond (decide (a0.2.2.2.2.2.1 < (0 : Int)))
 (some (jac jat jau ((false, ()), ())))
 (cond (decide (a0.2.2.2.2.2.1 > (2048 : Int)))
 (some (jac jat jau ((false, ()), ())))
 (cond (decide ((((List.length a0.2.2.2.2.2.2.2.1) : Nat) : Int) > (32 : Int)))
 (some (jac jat jau ((false, ()), ())))
 (jbM n
  (fun y1 => jbL n
  (fun y2 => some (jac jat jau ((y2, ()), ())))
  (fun _ => some (jac jat jau ((true, ()), ())))
  y1
  a0
  n
  (0 : Int))
  a0
  n
  (1 : Int)
  (0 : Int)))))))
 (cond (decide ((((List.length a0.2.2.2.2.2.2.2.1) : Nat) : Int) > (32 : Int)))
 (some (jac jat jau ((false, ()), ())))
 (jbM n
  (fun y3 => jbL n
  (fun y4 => some (jac jat jau ((y4, ()), ())))
  (fun _ => some (jac jat jau ((true, ()), ())))
  y3
  a0
  n
  (0 : Int))
  a0
  n
  (1 : Int)
  (0 : Int))))))
 (cond (a0.2.2.2.2.2.2.1 != (0 : Int))
 (cond (decide (a0.2.2.2.2.2.2.1 < (1 : Int)))
 (some (jac jat jau ((false, ()), ())))
 (cond (decide (a0.2.2.2.2.2.2.1 > (32 : Int)))
 (some (jac jat jau ((false, ()), ())))
 (cond (decide (a0.2.2.2.2.2.1 < (0 : Int)))
 (some (jac jat jau ((false, ()), ())))
 (cond (decide (a0.2.2.2.2.2.1 > (2048 : Int)))
 (some (jac jat jau ((false, ()), ())))
 (cond (decide ((((List.length a0.2.2.2.2.2.2.2.1) : Nat) : Int) > (32 : Int)))
 (some (jac jat jau ((false, ()), ())))
 (jbM n
  (fun y5 => jbL n
  (fun y6 => some (jac jat jau ((y6, ()), ())))
  (fun _ => some (jac jat jau ((true, ()), ())))
  y5
  a0
  n
  (0 : Int))
  a0
  n
  (1 : Int)
  (0 : Int)))))))
 (cond (decide ((((List.length a0.2.2.2.2.2.2.2.1) : Nat) : Int) > (32 : Int)))
 (some (jac jat jau ((false, ()), ())))
 (jbM n
  (fun y7 => jbL n
  (fun y8 => some (jac jat jau ((y8, ()), ())))
  (fun _ => some (jac jat jau ((true, ()), ())))
  y7
  a0
  n
  (0 : Int))
  a0
  n
  (1 : Int)
  (0 : Int)))))))))))
 (cond (a0.2.2.2.2.2.2.1 == (0 : Int))
 (cond (a0.2.2.2.2.2.1 != (0 : Int))
 (some (jac jat jau ((false, ()), ())))
 (cond (decide ((((List.length a0.2.2.2.2.2.2.2.1) : Nat) : Int) > (0 : Int)))
 (some (jac jat jau ((false, ()), ())))
 (cond (a0.2.2.2.2.2.2.1 != (0 : Int))
 (cond (decide (a0.2.2.2.2.2.2.1 < (1 : Int)))
 (some (jac jat jau ((false, ()), ())))
 (cond (decide (a0.2.2.2.2.2.2.1 > (32 : Int)))
 (some (jac jat jau ((false, ()), ())))
 (cond (decide (a0.2.2.2.2.2.1 < (0 : Int)))
 (some (jac jat jau ((false, ()), ())))
 (cond (decide (a0.2.2.2.2.2.1 > (2048 : Int)))
 (some (jac jat jau ((false, ()), ())))
 (cond (decide ((((List.length a0.2.2.2.2.2.2.2.1) : Nat) : Int) > (32 : Int)))
 (some (jac jat jau ((false, ()), ())))
 (jbM n
  (fun y9 => jbL n
  (fun y10 => some (jac jat jau ((y10, ()), ())))
  (fun _ => some (jac jat jau ((true, ()), ())))
  y9
  a0
  n
  (0 : Int))
  a0
  n
  (1 : Int)
  (0 : Int)))))))
 (cond (decide ((((List.length a0.2.2.2.2.2.2.2.1) : Nat) : Int) > (32 : Int)))
 (some (jac jat jau ((false, ()), ())))
 (jbM n
  (fun y11 => jbL n
  (fun y12 => some (jac jat jau ((y12, ()), ())))
  (fun _ => some (jac jat jau ((true, ()), ())))
  y11
  a0
  n
  (0 : Int))
  a0
  n
  (1 : Int)
  (0 : Int))))))
 (cond (a0.2.2.2.2.2.2.1 != (0 : Int))
 (cond (decide (a0.2.2.2.2.2.2.1 < (1 : Int)))
 (some (jac jat jau ((false, ()), ())))
 (cond (decide (a0.2.2.2.2.2.2.1 > (32 : Int)))
 (some (jac jat jau ((false, ()), ())))
 (cond (decide (a0.2.2.2.2.2.1 < (0 : Int)))
 (some (jac jat jau ((false, ()), ())))
 (cond (decide (a0.2.2.2.2.2.1 > (2048 : Int)))
 (some (jac jat jau ((false, ()), ())))
 (cond (decide ((((List.length a0.2.2.2.2.2.2.2.1) : Nat) : Int) > (32 : Int)))
 (some (jac jat jau ((false, ()), ())))
 (jbM n
  (fun y13 => jbL n
  (fun y14 => some (jac jat jau ((y14, ()), ())))
  (fun _ => some (jac jat jau ((true, ()), ())))
  y13
  a0
  n
  (0 : Int))
  a0
  n
  (1 : Int)
  (0 : Int)))))))
 (cond (decide ((((List.length a0.2.2.2.2.2.2.2.1) : Nat) : Int) > (32 : Int)))
 (some (jac jat jau ((false, ()), ())))
 (jbM n
  (fun y15 => jbL n
  (fun y16 => some (jac jat jau ((y16, ()), ())))
  (fun _ => some (jac jat jau ((true, ()), ())))
  y15
  a0
  n
  (0 : Int))
  a0
  n
  (1 : Int)
  (0 : Int))))))))
 (cond (a0.2.2.2.1 != (0 : Int))
 (cond (decide (a0.2.2.2.1 < (1 : Int)))
 (some (jac jat jau ((false, ()), ())))
 (cond (decide (a0.2.2.2.1 > (16 : Int)))
 (some (jac jat jau ((false, ()), ())))
 (cond (decide (a0.2.2.2.2.1 < (1 : Int)))
 (some (jac jat jau ((false, ()), ())))
 (cond (decide (a0.2.2.2.2.1 > (256 : Int)))
 (some (jac jat jau ((false, ()), ())))
 (cond (decide (a0.2.2.1 < (0 : Int)))
 (some (jac jat jau ((false, ()), ())))
 (cond (decide (a0.2.2.1 > (2048 : Int)))
 (some (jac jat jau ((false, ()), ())))
 (cond (a0.2.2.2.2.2.2.1 == (0 : Int))
 (cond (a0.2.2.2.2.2.1 != (0 : Int))
 (some (jac jat jau ((false, ()), ())))
 (cond (decide ((((List.length a0.2.2.2.2.2.2.2.1) : Nat) : Int) > (0 : Int)))
 (some (jac jat jau ((false, ()), ())))
 (cond (a0.2.2.2.2.2.2.1 != (0 : Int))
 (cond (decide (a0.2.2.2.2.2.2.1 < (1 : Int)))
 (some (jac jat jau ((false, ()), ())))
 (cond (decide (a0.2.2.2.2.2.2.1 > (32 : Int)))
 (some (jac jat jau ((false, ()), ())))
 (cond (decide (a0.2.2.2.2.2.1 < (0 : Int)))
 (some (jac jat jau ((false, ()), ())))
 (cond (decide (a0.2.2.2.2.2.1 > (2048 : Int)))
 (some (jac jat jau ((false, ()), ())))
 (cond (decide ((((List.length a0.2.2.2.2.2.2.2.1) : Nat) : Int) > (32 : Int)))
 (some (jac jat jau ((false, ()), ())))
 (jbM n
  (fun y17 => jbL n
  (fun y18 => some (jac jat jau ((y18, ()), ())))
  (fun _ => some (jac jat jau ((true, ()), ())))
  y17
  a0
  n
  (0 : Int))
  a0
  n
  (1 : Int)
  (0 : Int)))))))
 (cond (decide ((((List.length a0.2.2.2.2.2.2.2.1) : Nat) : Int) > (32 : Int)))
 (some (jac jat jau ((false, ()), ())))
 (jbM n
  (fun y19 => jbL n
  (fun y20 => some (jac jat jau ((y20, ()), ())))
  (fun _ => some (jac jat jau ((true, ()), ())))
  y19
  a0
  n
  (0 : Int))
  a0
  n
  (1 : Int)
  (0 : Int))))))
 (cond (a0.2.2.2.2.2.2.1 != (0 : Int))
 (cond (decide (a0.2.2.2.2.2.2.1 < (1 : Int)))
 (some (jac jat jau ((false, ()), ())))
 (cond (decide (a0.2.2.2.2.2.2.1 > (32 : Int)))
 (some (jac jat jau ((false, ()), ())))
 (cond (decide (a0.2.2.2.2.2.1 < (0 : Int)))
 (some (jac jat jau ((false, ()), ())))
 (cond (decide (a0.2.2.2.2.2.1 > (2048 : Int)))
 (some (jac jat jau ((false, ()), ())))
 (cond (decide ((((List.length a0.2.2.2.2.2.2.2.1) : Nat) : Int) > (32 : Int)))
 (some (jac jat jau ((false, ()), ())))
 (jbM n
  (fun y21 => jbL n
  (fun y22 => some (jac jat jau ((y22, ()), ())))
  (fun _ => some (jac jat jau ((true, ()), ())))
  y21
  a0
  n
  (0 : Int))
  a0
  n
  (1 : Int)
  (0 : Int)))))))
 (cond (decide ((((List.length a0.2.2.2.2.2.2.2.1) : Nat) : Int) > (32 : Int)))
 (some (jac jat jau ((false, ()), ())))
 (jbM n
  (fun y23 => jbL n
  (fun y24 => some (jac jat jau ((y24, ()), ())))
  (fun _ => some (jac jat jau ((true, ()), ())))
  y23
  a0
  n
  (0 : Int))
  a0
  n
  (1 : Int)
  (0 : Int)))))))))))
 (cond (a0.2.2.2.2.2.2.1 == (0 : Int))
 (cond (a0.2.2.2.2.2.1 != (0 : Int))
 (some (jac jat jau ((false, ()), ())))
 (cond (decide ((((List.length a0.2.2.2.2.2.2.2.1) : Nat) : Int) > (0 : Int)))
 (some (jac jat jau ((false, ()), ())))
 (cond (a0.2.2.2.2.2.2.1 != (0 : Int))
 (cond (decide (a0.2.2.2.2.2.2.1 < (1 : Int)))
 (some (jac jat jau ((false, ()), ())))
 (cond (decide (a0.2.2.2.2.2.2.1 > (32 : Int)))
 (some (jac jat jau ((false, ()), ())))
 (cond (decide (a0.2.2.2.2.2.1 < (0 : Int)))
 (some (jac jat jau ((false, ()), ())))
 (cond (decide (a0.2.2.2.2.2.1 > (2048 : Int)))
 (some (jac jat jau ((false, ()), ())))
 (cond (decide ((((List.length a0.2.2.2.2.2.2.2.1) : Nat) : Int) > (32 : Int)))
 (some (jac jat jau ((false, ()), ())))
 (jbM n
  (fun y25 => jbL n
  (fun y26 => some (jac jat jau ((y26, ()), ())))
  (fun _ => some (jac jat jau ((true, ()), ())))
  y25
  a0
  n
  (0 : Int))
  a0
  n
  (1 : Int)
  (0 : Int)))))))
 (cond (decide ((((List.length a0.2.2.2.2.2.2.2.1) : Nat) : Int) > (32 : Int)))
 (some (jac jat jau ((false, ()), ())))
 (jbM n
  (fun y27 => jbL n
  (fun y28 => some (jac jat jau ((y28, ()), ())))
  (fun _ => some (jac jat jau ((true, ()), ())))
  y27
  a0
  n
  (0 : Int))
  a0
  n
  (1 : Int)
  (0 : Int))))))
 (cond (a0.2.2.2.2.2.2.1 != (0 : Int))
 (cond (decide (a0.2.2.2.2.2.2.1 < (1 : Int)))
 (some (jac jat jau ((false, ()), ())))
 (cond (decide (a0.2.2.2.2.2.2.1 > (32 : Int)))
 (some (jac jat jau ((false, ()), ())))
 (cond (decide (a0.2.2.2.2.2.1 < (0 : Int)))
 (some (jac jat jau ((false, ()), ())))
 (cond (decide (a0.2.2.2.2.2.1 > (2048 : Int)))
 (some (jac jat jau ((false, ()), ())))
 (cond (decide ((((List.length a0.2.2.2.2.2.2.2.1) : Nat) : Int) > (32 : Int)))
 (some (jac jat jau ((false, ()), ())))
 (jbM n
  (fun y29 => jbL n
  (fun y30 => some (jac jat jau ((y30, ()), ())))
  (fun _ => some (jac jat jau ((true, ()), ())))
  y29
  a0
  n
  (0 : Int))
  a0
  n
  (1 : Int)
  (0 : Int)))))))
 (cond (decide ((((List.length a0.2.2.2.2.2.2.2.1) : Nat) : Int) > (32 : Int)))
 (some (jac jat jau ((false, ()), ())))
 (jbM n
  (fun y31 => jbL n
  (fun y32 => some (jac jat jau ((y32, ()), ())))
  (fun _ => some (jac jat jau ((true, ()), ())))
  y31
  a0
  n
  (0 : Int))
  a0
  n
  (1 : Int)
  (0 : Int))))))))))))
def jEq (a0 : jah) : Option (RS jat jau) := jaR jat jau (jFi FUEL a0)
def jFP (a0 : jah) : Bool := (jEq a0).isSome
def q_z15 (a0 : jah) : RS jat jau := RS.get (jEq a0)
/-! z16: turnoutref15_Goes -/
abbrev jtQ : List EK := [.hs 0 0]
abbrev juh : List HK := [.row (.int .i64)]
def jsU (n : Nat) (k_t0 : Nat → (List Int) → Option Res) (x0_2 : jah) (rec : Nat → Int → (List Int) → Option Res) (x0_0 : Nat) (x0_1 : Int) (x0_3 : (List Int)) : Option Res :=
 cond (decide (x0_1 < (((List.length x0_2.2.2.2.2.2.2.2.1) : Nat) : Int)))
 (cond (decide ((0 : Int) ≤ x0_1 ∧ x0_1 < (((List.length x0_2.2.2.2.2.2.2.2.1) : Nat) : Int)))
 (cond (decide (((List.length (cutL (0 : Int) x0_3 0 x0_0)) + 1) * 8 ≤ 2 ^ 46 ∧ ((List.length (cutL (0 : Int) x0_3 0 x0_0)) + 1) ≤ 2 ^ 46))
 (rec ((List.length (cutL (0 : Int) x0_3 0 x0_0)) + 1) (IntKind.wrap .i64 (x0_1 + (1 : Int))) ((cutL (0 : Int) x0_3 0 x0_0) ++ [(rdd jcd x0_2.2.2.2.2.2.2.2.1 (Int.toNat x0_1)).2.1]))
 (none))
 (none))
 (k_t0 x0_0 x0_3)
def jlf (n : Nat) (k_t0 : Nat → (List Int) → Option Res) (x0_2 : jah) : Nat → Nat → Int → (List Int) → Option Res
  | 0, _, _, _ => none
  | m + 1, x0_0, x0_1, x0_3 => jsU n k_t0 x0_2 (jlf n k_t0 x0_2 m) x0_0 x0_1 x0_3
def jFh (n : Nat) (a0 : jah) : Option Res :=
 jlf n
  (fun y1 y2 => cond (decide (((List.length (cutL (0 : Int) y2 0 y1)) + 1) * 8 ≤ 2 ^ 46 ∧ ((List.length (cutL (0 : Int) y2 0 y1)) + 1) ≤ 2 ^ 46))
 (some (jac jtQ juh ((((List.length (cutL (0 : Int) y2 0 y1)) + 1), ()), (((cutL (0 : Int) y2 0 y1) ++ [a0.2.2.2.2.2.2.2.2.1]), ()))))
 (none))
  a0
  n
  0
  (0 : Int)
  ([])
def jEp (a0 : jah) : Option (RS jtQ juh) := jaR jtQ juh (jFh FUEL a0)
def jyq (a0 : jah) : Bool := (jEp a0).isSome
def jCY (a0 : jah) : RS jtQ juh := RS.get (jEp a0)
/-! z17: turnoutref15_Find -/
abbrev joK : List EK := [.agg jaM, .ty .bool]
abbrev joY : List HK := []
def jsT (n : Nat) (k_r : Bool → jah → Option Res) (k_t0 : Unit → Option Res) (x0_0 : (List jah)) (x0_1 : Int) (x0_3 : jah) (rec : Int → Option Res) (x0_2 : Int) : Option Res :=
 cond (decide (x0_2 < (((List.length x0_0) : Nat) : Int)))
 (cond (decide ((0 : Int) ≤ x0_2 ∧ x0_2 < (((List.length x0_0) : Nat) : Int)))
 (cond ((rdd jaH x0_0 (Int.toNat x0_2)).1 == x0_1)
 (cond (decide ((0 : Int) ≤ x0_2 ∧ x0_2 < (((List.length x0_0) : Nat) : Int)))
 (k_r true (rdd jaH x0_0 (Int.toNat x0_2)))
 (none))
 (rec (IntKind.wrap .i64 (x0_2 + (1 : Int)))))
 (none))
 (k_t0 ())
def jle (n : Nat) (k_r : Bool → jah → Option Res) (k_t0 : Unit → Option Res) (x0_0 : (List jah)) (x0_1 : Int) (x0_3 : jah) : Nat → Int → Option Res
  | 0, _ => none
  | m + 1, x0_2 => jsT n k_r k_t0 x0_0 x0_1 x0_3 (jle n k_r k_t0 x0_0 x0_1 x0_3 m) x0_2
def M_z17 (n : Nat) (a0 : (List jah)) (a1 : Int) : Option Res :=
 jle n
  (fun y1 y2 => some (jac joK joY ((y2, (y1, ())), ())))
  (fun _ => some (jac joK joY ((((0 : Int), ((0 : Int), ((0 : Int), ((0 : Int), ((0 : Int), ((0 : Int), ((0 : Int), ([], ((0 : Int), ()))))))))), (false, ())), ())))
  a0
  a1
  ((0 : Int), ((0 : Int), ((0 : Int), ((0 : Int), ((0 : Int), ((0 : Int), ((0 : Int), ([], ((0 : Int), ())))))))))
  n
  (0 : Int)
def jEo (a0 : (List jah)) (a1 : Int) : Option (RS joK joY) := jaR joK joY (M_z17 FUEL a0 a1)
def jFO (a0 : (List jah)) (a1 : Int) : Bool := (jEo a0 a1).isSome
def q_z17 (a0 : (List jah)) (a1 : Int) : RS joK joY := RS.get (jEo a0 a1)
/-! z18: turnoutref15_ranks -/
abbrev jtP : List EK := [.hs 0 0]
abbrev jug : List HK := [.row (.int .i64)]
def jsP (n : Nat) (k_t6 : (List Int) → Option Res) (x6_0 : (List jah)) (x6_1 : Int) (x6_2 : Nat) (x6_3 : Int) (x6_4 : Nat) (x6_5 : Int) (x6_6 : Nat) (x6_7 : Int) (x6_9 : (List Int)) (x6_11 : (List Int)) (rec : Int → (List Int) → Option Res) (x6_8 : Int) (x6_10 : (List Int)) : Option Res :=
 cond (decide (x6_8 < (((List.length x6_0) : Nat) : Int)))
 (cond (decide ((0 : Int) ≤ x6_8 ∧ x6_8 < (((List.length x6_0) : Nat) : Int)))
 (cond (decide ((0 : Int) ≤ x6_7 ∧ x6_7 < ((x6_6 : Nat) : Int)))
 (cond ((rdd jaH x6_0 (Int.toNat x6_8)).1 == (rdd (0 : Int) x6_11 (Int.toNat x6_7)))
 (cond (decide ((0 : Int) ≤ x6_5 ∧ x6_5 < ((x6_4 : Nat) : Int)))
 (cond (decide ((0 : Int) ≤ x6_8 ∧ x6_8 < ((x6_2 : Nat) : Int)))
 (let y2 : Int := (if (rdd (0 : Int) x6_9 (Int.toNat x6_8)) > (rdd (0 : Int) x6_10 (Int.toNat x6_5)) then (rdd (0 : Int) x6_9 (Int.toNat x6_8)) else (rdd (0 : Int) x6_10 (Int.toNat x6_5)))
 cond (decide ((0 : Int) ≤ x6_5 ∧ x6_5 < ((x6_4 : Nat) : Int)))
 (rec (IntKind.wrap .i64 (x6_8 + (1 : Int))) (List.set x6_10 (Int.toNat x6_5) y2))
 (none))
 (none))
 (none))
 (rec (IntKind.wrap .i64 (x6_8 + (1 : Int))) x6_10))
 (none))
 (none))
 (k_t6 x6_10)
def jlb (n : Nat) (k_t6 : (List Int) → Option Res) (x6_0 : (List jah)) (x6_1 : Int) (x6_2 : Nat) (x6_3 : Int) (x6_4 : Nat) (x6_5 : Int) (x6_6 : Nat) (x6_7 : Int) (x6_9 : (List Int)) (x6_11 : (List Int)) : Nat → Int → (List Int) → Option Res
  | 0, _, _ => none
  | m + 1, x6_8, x6_10 => jsP n k_t6 x6_0 x6_1 x6_2 x6_3 x6_4 x6_5 x6_6 x6_7 x6_9 x6_11 (jlb n k_t6 x6_0 x6_1 x6_2 x6_3 x6_4 x6_5 x6_6 x6_7 x6_9 x6_11 m) x6_8 x6_10
def jsQ (n : Nat) (k_t4 : (List Int) → Option Res) (x4_0 : (List jah)) (x4_1 : Int) (x4_2 : Nat) (x4_3 : Int) (x4_4 : Nat) (x4_5 : Int) (x4_6 : Nat) (x4_8 : (List Int)) (x4_10 : (List Int)) (rec : Int → (List Int) → Option Res) (x4_7 : Int) (x4_9 : (List Int)) : Option Res :=
 cond (decide (x4_7 < ((x4_6 : Nat) : Int)))
 (jlb n
  (fun y3 => rec (IntKind.wrap .i64 (x4_7 + (1 : Int))) y3)
  x4_0
  x4_1
  x4_2
  x4_3
  x4_4
  x4_5
  x4_6
  x4_7
  x4_8
  x4_10
  n
  (0 : Int)
  x4_9)
 (k_t4 x4_9)
def jlc (n : Nat) (k_t4 : (List Int) → Option Res) (x4_0 : (List jah)) (x4_1 : Int) (x4_2 : Nat) (x4_3 : Int) (x4_4 : Nat) (x4_5 : Int) (x4_6 : Nat) (x4_8 : (List Int)) (x4_10 : (List Int)) : Nat → Int → (List Int) → Option Res
  | 0, _, _ => none
  | m + 1, x4_7, x4_9 => jsQ n k_t4 x4_0 x4_1 x4_2 x4_3 x4_4 x4_5 x4_6 x4_8 x4_10 (jlc n k_t4 x4_0 x4_1 x4_2 x4_3 x4_4 x4_5 x4_6 x4_8 x4_10 m) x4_7 x4_9
def jsR (n : Nat) (k_t2 : (List Int) → Option Res) (x2_0 : (List jah)) (x2_1 : Int) (x2_2 : Nat) (x2_3 : Int) (x2_4 : Nat) (x2_6 : (List Int)) (rec : Int → (List Int) → Option Res) (x2_5 : Int) (x2_7 : (List Int)) : Option Res :=
 cond (decide (x2_5 < (((List.length x2_0) : Nat) : Int)))
 (cond (decide ((0 : Int) ≤ x2_5 ∧ x2_5 < (((List.length x2_0) : Nat) : Int)))
 (let y1 : ((Nat × Unit) × ((List Int) × Unit)) := (jCY (rdd jaH x2_0 (Int.toNat x2_5)))
 cond (jyq (rdd jaH x2_0 (Int.toNat x2_5)))
 (jlc n
  (fun y4 => cond (decide ((0 : Int) ≤ x2_5 ∧ x2_5 < ((x2_4 : Nat) : Int)))
 (cond (decide ((0 : Int) ≤ x2_5 ∧ x2_5 < ((x2_4 : Nat) : Int)))
 (rec (IntKind.wrap .i64 (x2_5 + (1 : Int))) (List.set y4 (Int.toNat x2_5) (IntKind.wrap .i64 ((rdd (0 : Int) y4 (Int.toNat x2_5)) + (1 : Int)))))
 (none))
 (none))
  x2_0
  x2_1
  x2_2
  x2_3
  x2_4
  x2_5
  y1.1.1
  x2_6
  y1.2.1
  n
  (0 : Int)
  x2_7)
 (none))
 (none))
 (k_t2 x2_7)
def jld (n : Nat) (k_t2 : (List Int) → Option Res) (x2_0 : (List jah)) (x2_1 : Int) (x2_2 : Nat) (x2_3 : Int) (x2_4 : Nat) (x2_6 : (List Int)) : Nat → Int → (List Int) → Option Res
  | 0, _, _ => none
  | m + 1, x2_5, x2_7 => jsR n k_t2 x2_0 x2_1 x2_2 x2_3 x2_4 x2_6 (jld n k_t2 x2_0 x2_1 x2_2 x2_3 x2_4 x2_6 m) x2_5 x2_7
def jsS (n : Nat) (k_t0 : Nat → (List Int) → Option Res) (x0_0 : (List jah)) (x0_1 : Int) (rec : Nat → Int → (List Int) → Option Res) (x0_2 : Nat) (x0_3 : Int) (x0_4 : (List Int)) : Option Res :=
 cond (decide (x0_3 < x0_1))
 (cond (decide ((0 : Int) ≤ (((List.length x0_0) : Nat) : Int) ∧ (((List.length x0_0) : Nat) : Int) ≤ (((List.length x0_0) : Nat) : Int) ∧ (8 : Nat) * (((List.length x0_0) : Nat) : Int) ≤ (2 : Int) ^ 46))
 (jld n
  (fun y5 => rec (Int.toNat (((List.length x0_0) : Nat) : Int)) (IntKind.wrap .i64 (x0_3 + (1 : Int))) y5)
  x0_0
  x0_1
  x0_2
  x0_3
  (Int.toNat (((List.length x0_0) : Nat) : Int))
  x0_4
  n
  (0 : Int)
  (List.replicate (Int.toNat (((List.length x0_0) : Nat) : Int)) (0 : Int)))
 (none))
 (k_t0 x0_2 x0_4)
def jjr (n : Nat) (k_t0 : Nat → (List Int) → Option Res) (x0_0 : (List jah)) (x0_1 : Int) : Nat → Nat → Int → (List Int) → Option Res
  | 0, _, _, _ => none
  | m + 1, x0_2, x0_3, x0_4 => jsS n k_t0 x0_0 x0_1 (jjr n k_t0 x0_0 x0_1 m) x0_2 x0_3 x0_4
def jFg (n : Nat) (a0 : (List jah)) (a1 : Int) : Option Res :=
 cond (decide ((0 : Int) ≤ (((List.length a0) : Nat) : Int) ∧ (((List.length a0) : Nat) : Int) ≤ (((List.length a0) : Nat) : Int) ∧ (8 : Nat) * (((List.length a0) : Nat) : Int) ≤ (2 : Int) ^ 46))
 (jjr n
  (fun y6 y7 => some (jac jtP jug ((y6, ()), (y7, ()))))
  a0
  a1
  n
  (Int.toNat (((List.length a0) : Nat) : Int))
  (0 : Int)
  (List.replicate (Int.toNat (((List.length a0) : Nat) : Int)) (0 : Int)))
 (none)
def jEn (a0 : (List jah)) (a1 : Int) : Option (RS jtP jug) := jaR jtP jug (jFg FUEL a0 a1)
def jBf (a0 : (List jah)) (a1 : Int) : Bool := (jEn a0 a1).isSome
def q_z18 (a0 : (List jah)) (a1 : Int) : RS jtP jug := RS.get (jEn a0 a1)
/-! z19: turnoutref15_May -/
abbrev jfx : List EK := [.ty (.int .i64)]
abbrev jfz : List HK := []
def jsO (n : Nat) (k_r : Int → Option Res) (k_t0 : Unit → Option Res) (x0_0 : (List jah)) (rec : Int → Option Res) (x0_1 : Int) : Option Res :=
 cond (decide (x0_1 < (((List.length x0_0) : Nat) : Int)))
 (cond (decide ((0 : Int) ≤ x0_1 ∧ x0_1 < (((List.length x0_0) : Nat) : Int)))
 (let y1 : ((Bool × Unit) × Unit) := (q_z15 (rdd jaH x0_0 (Int.toNat x0_1)))
 cond (jFP (rdd jaH x0_0 (Int.toNat x0_1)))
 (cond (!y1.1.1)
 (k_r (3 : Int))
 (cond (decide (x0_1 > (0 : Int)))
 (cond (decide ((0 : Int) ≤ x0_1 ∧ x0_1 < (((List.length x0_0) : Nat) : Int)))
 (cond (decide ((0 : Int) ≤ (IntKind.wrap .i64 (x0_1 - (1 : Int))) ∧ (IntKind.wrap .i64 (x0_1 - (1 : Int))) < (((List.length x0_0) : Nat) : Int)))
 (cond (decide ((rdd jaH x0_0 (Int.toNat x0_1)).1 ≤ (rdd jaH x0_0 (Int.toNat (IntKind.wrap .i64 (x0_1 - (1 : Int))))).1))
 (k_r (3 : Int))
 (rec (IntKind.wrap .i64 (x0_1 + (1 : Int)))))
 (none))
 (none))
 (rec (IntKind.wrap .i64 (x0_1 + (1 : Int))))))
 (none))
 (none))
 (k_t0 ())
def jla (n : Nat) (k_r : Int → Option Res) (k_t0 : Unit → Option Res) (x0_0 : (List jah)) : Nat → Int → Option Res
  | 0, _ => none
  | m + 1, x0_1 => jsO n k_r k_t0 x0_0 (jla n k_r k_t0 x0_0 m) x0_1
def jsM (n : Nat) (k_r : Int → Option Res) (k_t4 : Unit → Option Res) (x4_0 : (List jah)) (x4_1 : Int) (x4_2 : Nat) (x4_4 : (List Int)) (rec : Int → Option Res) (x4_3 : Int) : Option Res :=
 cond (decide (x4_3 < ((x4_2 : Nat) : Int)))
 (cond (decide ((0 : Int) ≤ x4_3 ∧ x4_3 < ((x4_2 : Nat) : Int)))
 (let y4 : ((jah × (Bool × Unit)) × Unit) := (q_z17 x4_0 (rdd (0 : Int) x4_4 (Int.toNat x4_3)))
 cond (jFO x4_0 (rdd (0 : Int) x4_4 (Int.toNat x4_3)))
 (cond (!y4.1.2.1)
 (cond (decide ((0 : Int) ≤ x4_3 ∧ x4_3 < ((x4_2 : Nat) : Int)))
 (cond ((rdd (0 : Int) x4_4 (Int.toNat x4_3)) != (0 : Int))
 (cond (decide ((0 : Int) ≤ x4_3 ∧ x4_3 < ((x4_2 : Nat) : Int)))
 (cond ((rdd (0 : Int) x4_4 (Int.toNat x4_3)) != (65535 : Int))
 (k_r (8 : Int))
 (rec (IntKind.wrap .i64 (x4_3 + (1 : Int)))))
 (none))
 (rec (IntKind.wrap .i64 (x4_3 + (1 : Int)))))
 (none))
 (rec (IntKind.wrap .i64 (x4_3 + (1 : Int)))))
 (none))
 (none))
 (k_t4 ())
def jkY (n : Nat) (k_r : Int → Option Res) (k_t4 : Unit → Option Res) (x4_0 : (List jah)) (x4_1 : Int) (x4_2 : Nat) (x4_4 : (List Int)) : Nat → Int → Option Res
  | 0, _ => none
  | m + 1, x4_3 => jsM n k_r k_t4 x4_0 x4_1 x4_2 x4_4 (jkY n k_r k_t4 x4_0 x4_1 x4_2 x4_4 m) x4_3
def jsN (n : Nat) (k_r : Int → Option Res) (k_t2 : Unit → Option Res) (x2_0 : (List jah)) (rec : Int → Option Res) (x2_1 : Int) : Option Res :=
 cond (decide (x2_1 < (((List.length x2_0) : Nat) : Int)))
 (cond (decide ((0 : Int) ≤ x2_1 ∧ x2_1 < (((List.length x2_0) : Nat) : Int)))
 (let y3 : ((Nat × Unit) × ((List Int) × Unit)) := (jCY (rdd jaH x2_0 (Int.toNat x2_1)))
 cond (jyq (rdd jaH x2_0 (Int.toNat x2_1)))
 (jkY n
  (fun y5 => k_r y5)
  (fun _ => rec (IntKind.wrap .i64 (x2_1 + (1 : Int))))
  x2_0
  x2_1
  y3.1.1
  y3.2.1
  n
  (0 : Int))
 (none))
 (none))
 (k_t2 ())
def jkZ (n : Nat) (k_r : Int → Option Res) (k_t2 : Unit → Option Res) (x2_0 : (List jah)) : Nat → Int → Option Res
  | 0, _ => none
  | m + 1, x2_1 => jsN n k_r k_t2 x2_0 (jkZ n k_r k_t2 x2_0 m) x2_1
def jsL (n : Nat) (k_r : Int → Option Res) (k_t6 : Unit → Option Res) (x6_0 : (List jah)) (x6_1 : Nat) (x6_3 : (List Int)) (rec : Int → Option Res) (x6_2 : Int) : Option Res :=
 cond (decide (x6_2 < ((x6_1 : Nat) : Int)))
 (cond (decide ((0 : Int) ≤ x6_2 ∧ x6_2 < ((x6_1 : Nat) : Int)))
 (cond (decide ((rdd (0 : Int) x6_3 (Int.toNat x6_2)) > (((List.length x6_0) : Nat) : Int)))
 (k_r (10 : Int))
 (rec (IntKind.wrap .i64 (x6_2 + (1 : Int)))))
 (none))
 (k_t6 ())
def jkX (n : Nat) (k_r : Int → Option Res) (k_t6 : Unit → Option Res) (x6_0 : (List jah)) (x6_1 : Nat) (x6_3 : (List Int)) : Nat → Int → Option Res
  | 0, _ => none
  | m + 1, x6_2 => jsL n k_r k_t6 x6_0 x6_1 x6_3 (jkX n k_r k_t6 x6_0 x6_1 x6_3 m) x6_2
def jvD (n : Nat) (a0 : (List jah)) : Option Res :=
 jla n
  (fun y2 => some (jac jfx jfz ((y2, ()), ())))
  (fun _ => cond (decide ((((List.length a0) : Nat) : Int) > (32 : Int)))
 (some (jac jfx jfz (((12 : Int), ()), ())))
 (jkZ n
  (fun y6 => some (jac jfx jfz ((y6, ()), ())))
  (fun _ => let y7 : ((Nat × Unit) × ((List Int) × Unit)) := (q_z18 a0 (IntKind.wrap .i64 ((((List.length a0) : Nat) : Int) + (1 : Int))))
 cond (jBf a0 (IntKind.wrap .i64 ((((List.length a0) : Nat) : Int) + (1 : Int))))
 (jkX n
  (fun y8 => some (jac jfx jfz ((y8, ()), ())))
  (fun _ => some (jac jfx jfz (((0 : Int), ()), ())))
  a0
  y7.1.1
  y7.2.1
  n
  (0 : Int))
 (none))
  a0
  n
  (0 : Int)))
  a0
  n
  (0 : Int)
def jEm (a0 : (List jah)) : Option (RS jfx jfz) := jaR jfx jfz (jvD FUEL a0)
def ok_z19 (a0 : (List jah)) : Bool := (jEm a0).isSome
def q_z19 (a0 : (List jah)) : RS jfx jfz := RS.get (jEm a0)
/-! z1a: turnoutref15_Longest -/
abbrev jhw : List EK := [.ty (.int .i64)]
abbrev jhz : List HK := []
def jsK (n : Nat) (k_r : Int → Option Res) (k_t0 : Unit → Option Res) (x0_0 : (List jah)) (x0_1 : Nat) (x0_3 : (List Int)) (rec : Int → Option Res) (x0_2 : Int) : Option Res :=
 cond (decide (x0_2 < (((List.length x0_0) : Nat) : Int)))
 (cond (decide ((0 : Int) ≤ x0_2 ∧ x0_2 < (((List.length x0_0) : Nat) : Int)))
 (cond ((rdd jaH x0_0 (Int.toNat x0_2)).1 == (1 : Int))
 (cond (decide ((0 : Int) ≤ x0_2 ∧ x0_2 < ((x0_1 : Nat) : Int)))
 (k_r (rdd (0 : Int) x0_3 (Int.toNat x0_2)))
 (none))
 (rec (IntKind.wrap .i64 (x0_2 + (1 : Int)))))
 (none))
 (k_t0 ())
def jkW (n : Nat) (k_r : Int → Option Res) (k_t0 : Unit → Option Res) (x0_0 : (List jah)) (x0_1 : Nat) (x0_3 : (List Int)) : Nat → Int → Option Res
  | 0, _ => none
  | m + 1, x0_2 => jsK n k_r k_t0 x0_0 x0_1 x0_3 (jkW n k_r k_t0 x0_0 x0_1 x0_3 m) x0_2
def jFf (n : Nat) (a0 : (List jah)) : Option Res :=
 let y1 : ((Int × Unit) × Unit) := (q_z19 a0)
 cond (ok_z19 a0)
 (cond (y1.1.1 != (0 : Int))
 (some (jac jhw jhz (((0 : Int), ()), ())))
 (let y2 : ((Nat × Unit) × ((List Int) × Unit)) := (q_z18 a0 (((List.length a0) : Nat) : Int))
 cond (jBf a0 (((List.length a0) : Nat) : Int))
 (jkW n
  (fun y3 => some (jac jhw jhz ((y3, ()), ())))
  (fun _ => some (jac jhw jhz (((0 : Int), ()), ())))
  a0
  y2.1.1
  y2.2.1
  n
  (0 : Int))
 (none)))
 (none)
def jEl (a0 : (List jah)) : Option (RS jhw jhz) := jaR jhw jhz (jFf FUEL a0)
def ok_z1a (a0 : (List jah)) : Bool := (jEl a0).isSome
def q_z1a (a0 : (List jah)) : RS jhw jhz := RS.get (jEl a0)
/-! z1b: turnoutref24_Of -/
abbrev joJ : List EK := [.ty (.int .i64), .ty (.int .i64)]
abbrev joX : List HK := []
def jFe (n : Nat) (a0 : jaa) : Option Res :=
 let y1 : ((Int × (Int × Unit)) × Unit) := (q_z14 a0 (1 : Int))
 cond (jFQ a0 (1 : Int))
 (cond (y1.1.2.1 != (0 : Int))
 (some (jac joJ joX (((0 : Int), (y1.1.2.1, ())), ())))
 (let y2 : ((Int × Unit) × Unit) := (q_z1a a0.1)
 cond (ok_z1a a0.1)
 (let y3 : ((Int × Unit) × Unit) := (jow (IntKind.wrap .i64 (y1.1.1 + y2.1.1)))
 cond (jhA (IntKind.wrap .i64 (y1.1.1 + y2.1.1)))
 (some (jac joJ joX ((y3.1.1, ((0 : Int), ())), ())))
 (none))
 (none)))
 (none)
def jEk (a0 : jaa) : Option (RS joJ joX) := jaR joJ joX (jFe FUEL a0)
def ok_z1b (a0 : jaa) : Bool := (jEk a0).isSome
def q_z1b (a0 : jaa) : RS joJ joX := RS.get (jEk a0)
/-! z1c: turnoutref24_Block -/
abbrev jtO : List EK := [.ty (.int .i64), .ty (.int .i64)]
abbrev juf : List HK := []
def jFd (n : Nat) (a0 : jaa) (a1 : Int) : Option Res :=
 let y1 : ((Int × (Int × Unit)) × Unit) := (q_z13 a0 (2 : Int) a1)
 cond (jBg a0 (2 : Int) a1)
 (some (jac jtO juf ((y1.1.1, (y1.1.2.1, ())), ())))
 (none)
def jEj (a0 : jaa) (a1 : Int) : Option (RS jtO juf) := jaR jtO juf (jFd FUEL a0 a1)
def ok_z1c (a0 : jaa) (a1 : Int) : Bool := (jEj a0 a1).isSome
def q_z1c (a0 : jaa) (a1 : Int) : RS jtO juf := RS.get (jEj a0 a1)
/-! z1d: turnoutref24_Group -/
abbrev jtN : List EK := [.ty (.int .i64), .ty (.int .i64)]
abbrev jue : List HK := []
def jFc (n : Nat) (a0 : jaa) (a1 : Int) : Option Res :=
 let y1 : ((Int × (Int × Unit)) × Unit) := (q_z13 a0 (3 : Int) a1)
 cond (jBg a0 (3 : Int) a1)
 (some (jac jtN jue ((y1.1.1, (y1.1.2.1, ())), ())))
 (none)
def jEi (a0 : jaa) (a1 : Int) : Option (RS jtN jue) := jaR jtN jue (jFc FUEL a0 a1)
def ok_z1d (a0 : jaa) (a1 : Int) : Bool := (jEi a0 a1).isSome
def q_z1d (a0 : jaa) (a1 : Int) : RS jtN jue := RS.get (jEi a0 a1)
/-! z1e: turnoutlaw24_BoundTells -/
abbrev jhv : List EK := [.ty .bool]
abbrev jhy : List HK := []
def jsJ (n : Nat) (k_r : Bool → Option Res) (k_t0 : Unit → Option Res) (x0_0 : Nat) (x0_1 : Int) (x0_3 : jaa) (x0_4 : (List Int)) (rec : Int → Option Res) (x0_2 : Int) : Option Res :=
 cond (decide (x0_2 < x0_1))
 (cond (decide ((0 : Int) ≤ x0_2 ∧ x0_2 < ((x0_0 : Nat) : Int)))
 (let y7 : ((Int × (Int × Unit)) × Unit) := (jAZ x0_3 (rdd (0 : Int) x0_4 (Int.toNat x0_2)))
 cond (juF x0_3 (rdd (0 : Int) x0_4 (Int.toNat x0_2)))
 (let y8 : ((Int × (Int × Unit)) × Unit) := (q_z14 x0_3 (rdd (0 : Int) x0_4 (Int.toNat x0_2)))
 cond (jFQ x0_3 (rdd (0 : Int) x0_4 (Int.toNat x0_2)))
 (cond (y7.1.1 != y8.1.1)
 (k_r false)
 (cond (y7.1.2.1 != y8.1.2.1)
 (k_r false)
 (let y9 : ((Int × (Int × Unit)) × Unit) := (jrb x0_3 (rdd (0 : Int) x0_4 (Int.toNat x0_2)))
 cond (jjS x0_3 (rdd (0 : Int) x0_4 (Int.toNat x0_2)))
 (let y10 : ((Int × (Int × Unit)) × Unit) := (q_z1c x0_3 (rdd (0 : Int) x0_4 (Int.toNat x0_2)))
 cond (ok_z1c x0_3 (rdd (0 : Int) x0_4 (Int.toNat x0_2)))
 (cond (y9.1.1 != y10.1.1)
 (k_r false)
 (cond (y9.1.2.1 != y10.1.2.1)
 (k_r false)
 (let y11 : ((Int × (Int × Unit)) × Unit) := (jAY x0_3 (rdd (0 : Int) x0_4 (Int.toNat x0_2)))
 cond (juE x0_3 (rdd (0 : Int) x0_4 (Int.toNat x0_2)))
 (let y12 : ((Int × (Int × Unit)) × Unit) := (q_z1d x0_3 (rdd (0 : Int) x0_4 (Int.toNat x0_2)))
 cond (ok_z1d x0_3 (rdd (0 : Int) x0_4 (Int.toNat x0_2)))
 (cond (y11.1.1 != y12.1.1)
 (k_r false)
 (cond (y11.1.2.1 != y12.1.2.1)
 (k_r false)
 (rec (IntKind.wrap .i64 (x0_2 + (1 : Int))))))
 (none))
 (none))))
 (none))
 (none))))
 (none))
 (none))
 (none))
 (k_t0 ())
def jkV (n : Nat) (k_r : Bool → Option Res) (k_t0 : Unit → Option Res) (x0_0 : Nat) (x0_1 : Int) (x0_3 : jaa) (x0_4 : (List Int)) : Nat → Int → Option Res
  | 0, _ => none
  | m + 1, x0_2 => jsJ n k_r k_t0 x0_0 x0_1 x0_3 x0_4 (jkV n k_r k_t0 x0_0 x0_1 x0_3 x0_4 m) x0_2
def jFb (n : Nat) (a0 : jaa) (a1 : Int) : Option Res :=
 let y1 : ((Bool × Unit) × Unit) := (jDd a0)
 cond (jyv a0)
 (cond y1.1.1
 (let y2 : ((Bool × Unit) × Unit) := jma
 cond jgz
 (some (jac jhv jhy ((y2.1.1, ()), ())))
 (none))
 (let y3 : ((Int × (Int × Unit)) × Unit) := (q_z0r a0)
 cond (jBh a0)
 (let y4 : ((Int × (Int × Unit)) × Unit) := (q_z1b a0)
 cond (ok_z1b a0)
 (cond (y3.1.1 != y4.1.1)
 (some (jac jhv jhy ((false, ()), ())))
 (cond (y3.1.2.1 != y4.1.2.1)
 (some (jac jhv jhy ((false, ()), ())))
 (let y5 : ((Bool × Unit) × Unit) := (jzV a0)
 cond (jps a0)
 (let y6 : ((Bool × Unit) × Unit) := (q_z0w a0)
 cond (jFR a0)
 (cond (!(y5.1.1 == y6.1.1))
 (some (jac jhv jhy ((false, ()), ())))
 (jkV n
  (fun y13 => some (jac jhv jhy ((y13, ()), ())))
  (fun _ => let y14 : ((Bool × Unit) × Unit) := jma
 cond jgz
 (some (jac jhv jhy ((y14.1.1, ()), ())))
 (none))
  3
  ((3 : Nat) : Int)
  a0
  ([a1, (1 : Int), (2 : Int)])
  n
  (0 : Int)))
 (none))
 (none))))
 (none))
 (none)))
 (none)
def jEh (a0 : jaa) (a1 : Int) : Option (RS jhv jhy) := jaR jhv jhy (jFb FUEL a0 a1)
def ok_z1e (a0 : jaa) (a1 : Int) : Bool := (jEh a0 a1).isSome
def q_z1e (a0 : jaa) (a1 : Int) : RS jhv jhy := RS.get (jEh a0 a1)
/-! z1f: turnoutlaw24_BoundParts -/
abbrev jhu : List EK := [.ty .bool]
abbrev jhx : List HK := []
def jCI (n : Nat) (k_t0 : Unit → Option Res) (k_r : Bool → Option Res) (x0_0 : Int) (x0_2 : jaa) (rec : Int → Option Res) (x0_1 : Int) : Option Res :=
 cond (decide (x0_1 < (((List.length x0_2.2.2.2.2.1) : Nat) : Int)))
 (cond (decide ((0 : Int) ≤ x0_1 ∧ x0_1 < (((List.length x0_2.2.2.2.2.1) : Nat) : Int)))
 (cond (decide ((0 : Int) ≤ x0_1 ∧ x0_1 < (((List.length x0_2.2.2.2.2.1) : Nat) : Int)))
 (cond ((rdd jap x0_2.2.2.2.2.1 (Int.toNat x0_1)).1 != x0_0)
 (rec (IntKind.wrap .i64 (x0_1 + (1 : Int))))
 (cond ((((List.length (rdd jap x0_2.2.2.2.2.1 (Int.toNat x0_1)).2.1) : Nat) : Int) == (0 : Int))
 (k_t0 ())
 (cond (decide ((0 : Int) ≤ (0 : Int) ∧ (0 : Int) < (((List.length (rdd jap x0_2.2.2.2.2.1 (Int.toNat x0_1)).2.1) : Nat) : Int)))
 (cond ((rdd jae (rdd jap x0_2.2.2.2.2.1 (Int.toNat x0_1)).2.1 0).1 == (12 : Int))
 (k_t0 ())
 (let y7 : ((Int × (Int × Unit)) × Unit) := (jrb x0_2 x0_0)
 cond (jjS x0_2 x0_0)
 (cond (decide ((0 : Int) ≤ (0 : Int) ∧ (0 : Int) < (((List.length (rdd jap x0_2.2.2.2.2.1 (Int.toNat x0_1)).2.1) : Nat) : Int)))
 (cond ((rdd jae (rdd jap x0_2.2.2.2.2.1 (Int.toNat x0_1)).2.1 0).1 == (13 : Int))
 (cond (decide ((0 : Int) ≤ (0 : Int) ∧ (0 : Int) < (((List.length (rdd jap x0_2.2.2.2.2.1 (Int.toNat x0_1)).2.1) : Nat) : Int)))
 (let y8 : ((Int × (Int × Unit)) × Unit) := (jAZ x0_2 ((rdd jae (rdd jap x0_2.2.2.2.2.1 (Int.toNat x0_1)).2.1 0).2.2.2.2.1))
 cond (juF x0_2 ((rdd jae (rdd jap x0_2.2.2.2.2.1 (Int.toNat x0_1)).2.1 0).2.2.2.2.1))
 (let y9 : Int := (if (IntKind.wrap .i64 ((1 : Int) + y8.1.1)) < (65537 : Int) then (IntKind.wrap .i64 ((1 : Int) + y8.1.1)) else (65537 : Int))
 k_r (y7.1.1 == y9))
 (none))
 (none))
 (cond ((rdd jae (rdd jap x0_2.2.2.2.2.1 (Int.toNat x0_1)).2.1 0).1 == (14 : Int))
 (cond (decide ((0 : Int) ≤ (0 : Int) ∧ (0 : Int) < (((List.length (rdd jap x0_2.2.2.2.2.1 (Int.toNat x0_1)).2.1) : Nat) : Int)))
 (let y10 : ((Int × (Int × Unit)) × Unit) := (jAY x0_2 ((rdd jae (rdd jap x0_2.2.2.2.2.1 (Int.toNat x0_1)).2.1 0).2.2.2.2.1))
 cond (juE x0_2 ((rdd jae (rdd jap x0_2.2.2.2.2.1 (Int.toNat x0_1)).2.1 0).2.2.2.2.1))
 (let y11 : Int := (if (IntKind.wrap .i64 ((1 : Int) + y10.1.1)) < (65537 : Int) then (IntKind.wrap .i64 ((1 : Int) + y10.1.1)) else (65537 : Int))
 k_r (y7.1.1 == y11))
 (none))
 (none))
 (cond ((rdd jae (rdd jap x0_2.2.2.2.2.1 (Int.toNat x0_1)).2.1 0).1 == (23 : Int))
 (let y12 : Int := (if (IntKind.wrap .i64 ((1 : Int) + (0 : Int))) < (65537 : Int) then (IntKind.wrap .i64 ((1 : Int) + (0 : Int))) else (65537 : Int))
 k_r (y7.1.1 == y12))
 (cond ((rdd jae (rdd jap x0_2.2.2.2.2.1 (Int.toNat x0_1)).2.1 0).1 == (22 : Int))
 (let y13 : Int := (if (IntKind.wrap .i64 ((1 : Int) + (0 : Int))) < (65537 : Int) then (IntKind.wrap .i64 ((1 : Int) + (0 : Int))) else (65537 : Int))
 k_r (y7.1.1 == y13))
 (cond (decide ((0 : Int) ≤ (1 : Int) ∧ (1 : Int) ≤ (((List.length (rdd jap x0_2.2.2.2.2.1 (Int.toNat x0_1)).2.1) : Nat) : Int) ∧ (((List.length (rdd jap x0_2.2.2.2.2.1 (Int.toNat x0_1)).2.1) : Nat) : Int) ≤ (((List.length (rdd jap x0_2.2.2.2.2.1 (Int.toNat x0_1)).2.1) : Nat) : Int) ∧ (((List.length (rdd jap x0_2.2.2.2.2.1 (Int.toNat x0_1)).2.1) : Nat) : Int) ≤ (((List.length (rdd jap x0_2.2.2.2.2.1 (Int.toNat x0_1)).2.1) : Nat) : Int)))
 (cond ((List.length x0_2.2.2.2.2.1) == 0)
 (let y14 : ((Int × (Int × Unit)) × Unit) := (jrb (x0_2.1, (x0_2.2.1, (x0_2.2.2.1, (x0_2.2.2.2.1, ([(x0_0, ((cutL jae (rdd jap x0_2.2.2.2.2.1 (Int.toNat x0_1)).2.1 (Int.toNat (1 : Int)) (Int.toNat (((List.length (rdd jap x0_2.2.2.2.2.1 (Int.toNat x0_1)).2.1) : Nat) : Int) - Int.toNat (1 : Int))), ()))], x0_2.2.2.2.2.2))))) x0_0)
 cond (jjS (x0_2.1, (x0_2.2.1, (x0_2.2.2.1, (x0_2.2.2.2.1, ([(x0_0, ((cutL jae (rdd jap x0_2.2.2.2.2.1 (Int.toNat x0_1)).2.1 (Int.toNat (1 : Int)) (Int.toNat (((List.length (rdd jap x0_2.2.2.2.2.1 (Int.toNat x0_1)).2.1) : Nat) : Int) - Int.toNat (1 : Int))), ()))], x0_2.2.2.2.2.2))))) x0_0)
 (let y15 : Int := (if (IntKind.wrap .i64 ((1 : Int) + y14.1.1)) < (65537 : Int) then (IntKind.wrap .i64 ((1 : Int) + y14.1.1)) else (65537 : Int))
 k_r (y7.1.1 == y15))
 (none))
 (cond (decide ((1 + (List.length x0_2.2.2.2.2.1)) * 32 ≤ 2 ^ 46 ∧ (1 + (List.length x0_2.2.2.2.2.1)) ≤ 2 ^ 46))
 (let y16 : ((Int × (Int × Unit)) × Unit) := (jrb (x0_2.1, (x0_2.2.1, (x0_2.2.2.1, (x0_2.2.2.2.1, ((mkL (1 + (List.length x0_2.2.2.2.2.1)) (fun i => (if i < 1 then (x0_0, ((cutL jae (rdd jap x0_2.2.2.2.2.1 (Int.toNat x0_1)).2.1 (Int.toNat (1 : Int)) (Int.toNat (((List.length (rdd jap x0_2.2.2.2.2.1 (Int.toNat x0_1)).2.1) : Nat) : Int) - Int.toNat (1 : Int))), ())) else (rdd jap x0_2.2.2.2.2.1 (i - 1))))), x0_2.2.2.2.2.2))))) x0_0)
 cond (jjS (x0_2.1, (x0_2.2.1, (x0_2.2.2.1, (x0_2.2.2.2.1, ((mkL (1 + (List.length x0_2.2.2.2.2.1)) (fun i => (if i < 1 then (x0_0, ((cutL jae (rdd jap x0_2.2.2.2.2.1 (Int.toNat x0_1)).2.1 (Int.toNat (1 : Int)) (Int.toNat (((List.length (rdd jap x0_2.2.2.2.2.1 (Int.toNat x0_1)).2.1) : Nat) : Int) - Int.toNat (1 : Int))), ())) else (rdd jap x0_2.2.2.2.2.1 (i - 1))))), x0_2.2.2.2.2.2))))) x0_0)
 (let y17 : Int := (if (IntKind.wrap .i64 ((1 : Int) + y16.1.1)) < (65537 : Int) then (IntKind.wrap .i64 ((1 : Int) + y16.1.1)) else (65537 : Int))
 k_r (y7.1.1 == y17))
 (none))
 (none)))
 (none))))))
 (none))
 (none)))
 (none))))
 (none))
 (none))
 (k_t0 ())
def jsD (n : Nat) (k_t0 : Unit → Option Res) (k_r : Bool → Option Res) (x0_0 : Int) (x0_2 : jaa) : Nat → Int → Option Res
  | 0, _ => none
  | m + 1, x0_1 => jCI n k_t0 k_r x0_0 x0_2 (jsD n k_t0 k_r x0_0 x0_2 m) x0_1
def jsI (n : Nat) (k_t5 : Int → Option Res) (x5_0 : Int) (x5_4 : jaa) (rec : Int → Int → Option Res) (x5_2 : Int) (x5_3 : Int) : Option Res :=
 cond (decide (x5_3 < (((List.length x5_4.2.2.2.1) : Nat) : Int)))
 (cond (decide ((0 : Int) ≤ x5_3 ∧ x5_3 < (((List.length x5_4.2.2.2.1) : Nat) : Int)))
 (cond ((rdd jaT x5_4.2.2.2.1 (Int.toNat x5_3)).1 == x5_0)
 (cond (decide ((0 : Int) ≤ x5_3 ∧ x5_3 < (((List.length x5_4.2.2.2.1) : Nat) : Int)))
 (let y20 : ((Int × (Int × Unit)) × Unit) := (jrb x5_4 ((rdd jaT x5_4.2.2.2.1 (Int.toNat x5_3)).2.2.2.2.2.1))
 cond (jjS x5_4 ((rdd jaT x5_4.2.2.2.1 (Int.toNat x5_3)).2.2.2.2.2.1))
 (rec (if y20.1.1 > x5_2 then y20.1.1 else x5_2) (IntKind.wrap .i64 (x5_3 + (1 : Int))))
 (none))
 (none))
 (rec x5_2 (IntKind.wrap .i64 (x5_3 + (1 : Int)))))
 (none))
 (k_t5 x5_2)
def jkU (n : Nat) (k_t5 : Int → Option Res) (x5_0 : Int) (x5_4 : jaa) : Nat → Int → Int → Option Res
  | 0, _, _ => none
  | m + 1, x5_2, x5_3 => jsI n k_t5 x5_0 x5_4 (jkU n k_t5 x5_0 x5_4 m) x5_2 x5_3
def joo (n : Nat) (k_r : Bool → Option Res) (k_t3 : Unit → Option Res) (x3_0 : Int) (x3_2 : jaa) (rec : Int → Option Res) (x3_1 : Int) : Option Res :=
 cond (decide (x3_1 < (((List.length x3_2.2.2.1) : Nat) : Int)))
 (cond (decide ((0 : Int) ≤ x3_1 ∧ x3_1 < (((List.length x3_2.2.2.1) : Nat) : Int)))
 (cond ((rdd jaD x3_2.2.2.1 (Int.toNat x3_1)).1 != x3_0)
 (rec (IntKind.wrap .i64 (x3_1 + (1 : Int))))
 (let y18 : ((Int × (Int × Unit)) × Unit) := (jAZ x3_2 x3_0)
 cond (juF x3_2 x3_0)
 (cond (decide ((0 : Int) ≤ x3_1 ∧ x3_1 < (((List.length x3_2.2.2.1) : Nat) : Int)))
 (let y19 : ((Int × (Int × Unit)) × Unit) := (jrb x3_2 ((rdd jaD x3_2.2.2.1 (Int.toNat x3_1)).2.2.2.2.1))
 cond (jjS x3_2 ((rdd jaD x3_2.2.2.1 (Int.toNat x3_1)).2.2.2.2.1))
 (jkU n
  (fun y21 => let y22 : Int := (if (IntKind.wrap .i64 ((1 : Int) + y21)) < (65537 : Int) then (IntKind.wrap .i64 ((1 : Int) + y21)) else (65537 : Int))
 k_r (y18.1.1 == y22))
  x3_0
  x3_2
  n
  y19.1.1
  (0 : Int))
 (none))
 (none))
 (none)))
 (none))
 (k_t3 ())
def jgT (n : Nat) (k_r : Bool → Option Res) (k_t3 : Unit → Option Res) (x3_0 : Int) (x3_2 : jaa) : Nat → Int → Option Res
  | 0, _ => none
  | m + 1, x3_1 => joo n k_r k_t3 x3_0 x3_2 (jgT n k_r k_t3 x3_0 x3_2 m) x3_1
def M_z1f (n : Nat) (a0 : jaa) (a1 : Int) : Option Res :=
 let y1 : ((Bool × Unit) × Unit) := (jDd a0)
 cond (jyv a0)
 (cond y1.1.1
 (let y2 : ((Bool × Unit) × Unit) := jma
 cond jgz
 (some (jac jhu jhx ((y2.1.1, ()), ())))
 (none))
 (let y3 : ((Bool × Unit) × Unit) := (jzV a0)
 cond (jps a0)
 (cond y3.1.1
 (let y4 : ((Bool × Unit) × Unit) := jma
 cond jgz
 (some (jac jhu jhx ((y4.1.1, ()), ())))
 (none))
 (let y5 : ((Bool × Unit) × Unit) := jma
 cond jgz
 (cond (!y5.1.1)
 (let y6 : ((Bool × Unit) × Unit) := jma
 cond jgz
 (some (jac jhu jhx ((y6.1.1, ()), ())))
 (none))
 (jsD n
  (fun _ => jgT n
  (fun y23 => some (jac jhu jhx ((y23, ()), ())))
  (fun _ => some (jac jhu jhx ((true, ()), ())))
  a1
  a0
  n
  (0 : Int))
  (fun y24 => some (jac jhu jhx ((y24, ()), ())))
  a1
  a0
  n
  (0 : Int)))
 (none)))
 (none)))
 (none)
def Q_z1f (a0 : jaa) (a1 : Int) : Option (RS jhu jhx) := jaR jhu jhx (M_z1f FUEL a0 a1)
def ok_z1f (a0 : jaa) (a1 : Int) : Bool := (Q_z1f a0 a1).isSome
def q_z1f (a0 : jaa) (a1 : Int) : RS jhu jhx := RS.get (Q_z1f a0 a1)
/-! z1g: turnoutlaw24_BoundCycles -/
abbrev jfg : List EK := [.ty .bool]
abbrev jfh : List HK := []
def jsG (n : Nat) (k_r : Bool → Option Res) (k_t2 : Unit → Option Res) (x2_0 : Int) (x2_1 : Int) (x2_3 : jaa) (rec : Int → Option Res) (x2_2 : Int) : Option Res :=
 cond (decide ((0 : Int) ≤ x2_0 ∧ x2_0 < (((List.length x2_3.2.2.2.2.2.1) : Nat) : Int)))
 (cond (decide (x2_2 < (((List.length (rdd jak x2_3.2.2.2.2.2.1 (Int.toNat x2_0)).2.2.2.1) : Nat) : Int)))
 (cond (decide ((0 : Int) ≤ x2_0 ∧ x2_0 < (((List.length x2_3.2.2.2.2.2.1) : Nat) : Int)))
 (cond (decide ((0 : Int) ≤ x2_2 ∧ x2_2 < (((List.length (rdd jak x2_3.2.2.2.2.2.1 (Int.toNat x2_0)).2.2.2.1) : Nat) : Int)))
 (let y10 : Int := (rdd jba (rdd jak x2_3.2.2.2.2.2.1 (Int.toNat x2_0)).2.2.2.1 (Int.toNat x2_2)).2.1
 let y11 : ((Int × (Int × Unit)) × Unit) := (jrb x2_3 y10)
 cond (jjS x2_3 y10)
 (cond (y11.1.2.1 != (0 : Int))
 (k_r false)
 (cond (decide (y11.1.1 > x2_1))
 (k_r false)
 (rec (IntKind.wrap .i64 (x2_2 + (1 : Int))))))
 (none))
 (none))
 (none))
 (k_t2 ()))
 (none)
def jkS (n : Nat) (k_r : Bool → Option Res) (k_t2 : Unit → Option Res) (x2_0 : Int) (x2_1 : Int) (x2_3 : jaa) : Nat → Int → Option Res
  | 0, _ => none
  | m + 1, x2_2 => jsG n k_r k_t2 x2_0 x2_1 x2_3 (jkS n k_r k_t2 x2_0 x2_1 x2_3 m) x2_2
def jsH (n : Nat) (k_r : Bool → Option Res) (k_t0 : Unit → Option Res) (x0_0 : Int) (x0_2 : jaa) (rec : Int → Option Res) (x0_1 : Int) : Option Res :=
 cond (decide (x0_1 < (((List.length x0_2.2.2.2.2.2.1) : Nat) : Int)))
 (cond (decide ((0 : Int) ≤ x0_1 ∧ x0_1 < (((List.length x0_2.2.2.2.2.2.1) : Nat) : Int)))
 (cond ((rdd jak x0_2.2.2.2.2.2.1 (Int.toNat x0_1)).1 != x0_0)
 (rec (IntKind.wrap .i64 (x0_1 + (1 : Int))))
 (let y9 : ((Int × (Int × Unit)) × Unit) := (jAY x0_2 x0_0)
 cond (juE x0_2 x0_0)
 (jkS n
  (fun y12 => k_r y12)
  (fun _ => k_t0 ())
  x0_1
  y9.1.1
  x0_2
  n
  (0 : Int))
 (none)))
 (none))
 (k_t0 ())
def jkT (n : Nat) (k_r : Bool → Option Res) (k_t0 : Unit → Option Res) (x0_0 : Int) (x0_2 : jaa) : Nat → Int → Option Res
  | 0, _ => none
  | m + 1, x0_1 => jsH n k_r k_t0 x0_0 x0_2 (jkT n k_r k_t0 x0_0 x0_2 m) x0_1
def jFa (n : Nat) (a0 : jaa) (a1 : jaa) (a2 : Int) : Option Res :=
 let y1 : ((Bool × Unit) × Unit) := (jDd a0)
 cond (jyv a0)
 (cond y1.1.1
 (let y2 : ((Bool × Unit) × Unit) := jma
 cond jgz
 (some (jac jfg jfh ((y2.1.1, ()), ())))
 (none))
 (let y3 : ((Bool × Unit) × Unit) := (jDd a1)
 cond (jyv a1)
 (cond y3.1.1
 (let y4 : ((Bool × Unit) × Unit) := jma
 cond jgz
 (some (jac jfg jfh ((y4.1.1, ()), ())))
 (none))
 (let y5 : ((Bool × Unit) × Unit) := jma
 cond jgz
 (cond (!y5.1.1)
 (let y6 : ((Bool × Unit) × Unit) := jma
 cond jgz
 (some (jac jfg jfh ((y6.1.1, ()), ())))
 (none))
 (cond (decide ((0 + (List.length a0.2.2.1)) * 56 ≤ 2 ^ 46 ∧ (0 + (List.length a0.2.2.1)) ≤ 2 ^ 46))
 (cond (decide (((List.length (cutL jaD a0.2.2.1 0 (0 + (List.length a0.2.2.1)))) + (List.length a1.2.2.1)) * 56 ≤ 2 ^ 46 ∧ ((List.length (cutL jaD a0.2.2.1 0 (0 + (List.length a0.2.2.1)))) + (List.length a1.2.2.1)) ≤ 2 ^ 46))
 (cond (decide ((0 + (List.length a0.2.2.2.1)) * 120 ≤ 2 ^ 46 ∧ (0 + (List.length a0.2.2.2.1)) ≤ 2 ^ 46))
 (cond (decide (((List.length (cutL jaT a0.2.2.2.1 0 (0 + (List.length a0.2.2.2.1)))) + (List.length a1.2.2.2.1)) * 120 ≤ 2 ^ 46 ∧ ((List.length (cutL jaT a0.2.2.2.1 0 (0 + (List.length a0.2.2.2.1)))) + (List.length a1.2.2.2.1)) ≤ 2 ^ 46))
 (cond (decide ((0 + (List.length a0.2.2.2.2.1)) * 32 ≤ 2 ^ 46 ∧ (0 + (List.length a0.2.2.2.2.1)) ≤ 2 ^ 46))
 (cond (decide (((List.length (cutL jap a0.2.2.2.2.1 0 (0 + (List.length a0.2.2.2.2.1)))) + (List.length a1.2.2.2.2.1)) * 32 ≤ 2 ^ 46 ∧ ((List.length (cutL jap a0.2.2.2.2.1 0 (0 + (List.length a0.2.2.2.2.1)))) + (List.length a1.2.2.2.2.1)) ≤ 2 ^ 46))
 (cond (decide ((0 + (List.length a0.2.2.2.2.2.1)) * 48 ≤ 2 ^ 46 ∧ (0 + (List.length a0.2.2.2.2.2.1)) ≤ 2 ^ 46))
 (cond (decide (((List.length (cutL jak a0.2.2.2.2.2.1 0 (0 + (List.length a0.2.2.2.2.2.1)))) + (List.length a1.2.2.2.2.2.1)) * 48 ≤ 2 ^ 46 ∧ ((List.length (cutL jak a0.2.2.2.2.2.1 0 (0 + (List.length a0.2.2.2.2.2.1)))) + (List.length a1.2.2.2.2.2.1)) ≤ 2 ^ 46))
 (let y7 : ((Bool × Unit) × Unit) := (jzV a0)
 cond (jps a0)
 (cond y7.1.1
 (let y8 : ((Bool × Unit) × Unit) := (jzV ([], ([], ((cutL jaD ((cutL jaD a0.2.2.1 0 (0 + (List.length a0.2.2.1))) ++ a1.2.2.1) 0 ((List.length (cutL jaD a0.2.2.1 0 (0 + (List.length a0.2.2.1)))) + (List.length a1.2.2.1))), ((cutL jaT ((cutL jaT a0.2.2.2.1 0 (0 + (List.length a0.2.2.2.1))) ++ a1.2.2.2.1) 0 ((List.length (cutL jaT a0.2.2.2.1 0 (0 + (List.length a0.2.2.2.1)))) + (List.length a1.2.2.2.1))), ((cutL jap ((cutL jap a0.2.2.2.2.1 0 (0 + (List.length a0.2.2.2.2.1))) ++ a1.2.2.2.2.1) 0 ((List.length (cutL jap a0.2.2.2.2.1 0 (0 + (List.length a0.2.2.2.2.1)))) + (List.length a1.2.2.2.2.1))), ((cutL jak ((cutL jak a0.2.2.2.2.2.1 0 (0 + (List.length a0.2.2.2.2.2.1))) ++ a1.2.2.2.2.2.1) 0 ((List.length (cutL jak a0.2.2.2.2.2.1 0 (0 + (List.length a0.2.2.2.2.2.1)))) + (List.length a1.2.2.2.2.2.1))), ([], ([], ([], ()))))))))))
 cond (jps ([], ([], ((cutL jaD ((cutL jaD a0.2.2.1 0 (0 + (List.length a0.2.2.1))) ++ a1.2.2.1) 0 ((List.length (cutL jaD a0.2.2.1 0 (0 + (List.length a0.2.2.1)))) + (List.length a1.2.2.1))), ((cutL jaT ((cutL jaT a0.2.2.2.1 0 (0 + (List.length a0.2.2.2.1))) ++ a1.2.2.2.1) 0 ((List.length (cutL jaT a0.2.2.2.1 0 (0 + (List.length a0.2.2.2.1)))) + (List.length a1.2.2.2.1))), ((cutL jap ((cutL jap a0.2.2.2.2.1 0 (0 + (List.length a0.2.2.2.2.1))) ++ a1.2.2.2.2.1) 0 ((List.length (cutL jap a0.2.2.2.2.1 0 (0 + (List.length a0.2.2.2.2.1)))) + (List.length a1.2.2.2.2.1))), ((cutL jak ((cutL jak a0.2.2.2.2.2.1 0 (0 + (List.length a0.2.2.2.2.2.1))) ++ a1.2.2.2.2.2.1) 0 ((List.length (cutL jak a0.2.2.2.2.2.1 0 (0 + (List.length a0.2.2.2.2.2.1)))) + (List.length a1.2.2.2.2.2.1))), ([], ([], ([], ()))))))))))
 (some (jac jfg jfh ((y8.1.1, ()), ())))
 (none))
 (jkT n
  (fun y13 => some (jac jfg jfh ((y13, ()), ())))
  (fun _ => let y14 : ((Int × (Int × Unit)) × Unit) := (q_z0r a0)
 cond (jBh a0)
 (cond (y14.1.2.1 == (0 : Int))
 (cond (decide (y14.1.1 ≥ (0 : Int)))
 (some (jac jfg jfh (((decide (y14.1.1 ≤ (65537 : Int))), ()), ())))
 (some (jac jfg jfh ((false, ()), ()))))
 (some (jac jfg jfh ((false, ()), ()))))
 (none))
  a2
  a0
  n
  (0 : Int)))
 (none))
 (none))
 (none))
 (none))
 (none))
 (none))
 (none))
 (none))
 (none)))
 (none)))
 (none)))
 (none)
def jEg (a0 : jaa) (a1 : jaa) (a2 : Int) : Option (RS jfg jfh) := jaR jfg jfh (jFa FUEL a0 a1 a2)
def ok_z1g (a0 : jaa) (a1 : jaa) (a2 : Int) : Bool := (jEg a0 a1 a2).isSome
def q_z1g (a0 : jaa) (a1 : jaa) (a2 : Int) : RS jfg jfh := RS.get (jEg a0 a1 a2)
end
end Go.AMach
