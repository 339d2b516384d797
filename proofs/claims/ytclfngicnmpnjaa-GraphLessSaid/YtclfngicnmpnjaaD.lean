/- A part of the walk. -/
import Derived.Test.YtclfngicnmpnjaaAm21
namespace Go.AMach
set_option linter.unusedVariables false
set_option linter.unusedSimpArgs false
set_option linter.unnecessarySimpa false
set_option linter.unusedVariables false
abbrev ArmT : Ty := (.pair (.int .u32) (.pair (.int .i64) .unit))
abbrev ArmS : Type := (Int × (Int × Unit))
abbrev zArmS : ArmS := ((0 : Int), ((0 : Int), ()))
abbrev NodeT : Ty := (.pair (.int .i64) (.pair (.int .i64) (.pair (.int .i64) (.pair (.int .i64) (.pair (.int .i64) (.pair (.int .i64) (.pair (.int .i64) (.pair (.slice ArmT) (.pair (.int .i64) .unit)))))))))
abbrev NodeS : Type := (Int × (Int × (Int × (Int × (Int × (Int × (Int × ((List ArmS) × (Int × Unit)))))))))
abbrev zNodeS : NodeS := ((0 : Int), ((0 : Int), ((0 : Int), ((0 : Int), ((0 : Int), ((0 : Int), ((0 : Int), ([], ((0 : Int), ())))))))))
abbrev SpanT : Ty := (.pair (.int .i64) (.pair (.int .i64) (.pair (.int .i64) .unit)))
abbrev SpanS : Type := (Int × (Int × (Int × Unit)))
abbrev zSpanS : SpanS := ((0 : Int), ((0 : Int), ((0 : Int), ())))
/-! ### turnoutlaw15_some -/
abbrev ro_turnoutlaw15_some : List EK := [.hs 0 0]
abbrev rh_turnoutlaw15_some : List HK := [.row NodeT]
noncomputable def M_turnoutlaw15_some (n : Nat) (a0 : Int) : Option Res :=
 some (encRes ro_turnoutlaw15_some rh_turnoutlaw15_some ((4, ()), ([((1 : Int), ((14 : Int), ((0 : Int), ((0 : Int), ((0 : Int), ((96 : Int), ((16 : Int), ([((2048 : Int), ((2 : Int), ())), ((34525 : Int), ((3 : Int), ()))], ((0 : Int), ()))))))))), ((2 : Int), ((0 : Int), ((4 : Int), ((4 : Int), ((4 : Int), ((72 : Int), ((8 : Int), ([((6 : Int), ((4 : Int), ()))], ((0 : Int), ()))))))))), ((3 : Int), ((40 : Int), ((0 : Int), ((0 : Int), ((0 : Int), ((0 : Int), ((0 : Int), ([], ((4 : Int), ()))))))))), ((4 : Int), ((20 : Int), ((0 : Int), ((0 : Int), ((0 : Int), ((0 : Int), ((0 : Int), ([], (a0, ())))))))))], ())))
noncomputable def Q_turnoutlaw15_some (a0 : Int) : Option (RS ro_turnoutlaw15_some rh_turnoutlaw15_some) := decRes ro_turnoutlaw15_some rh_turnoutlaw15_some (M_turnoutlaw15_some FUEL a0)
noncomputable def ok_turnoutlaw15_some (a0 : Int) : Bool := (Q_turnoutlaw15_some a0).isSome
noncomputable def q_turnoutlaw15_some (a0 : Int) : RS ro_turnoutlaw15_some rh_turnoutlaw15_some := RS.get (Q_turnoutlaw15_some a0)
/-! ### graph_to -/
abbrev ro_graph_to : List EK := [.ty .bool]
abbrev rh_graph_to : List HK := []
noncomputable def M_graph_to (n : Nat) (a0 : Int) : Option Res :=
 cond (decide (a0 ≥ (0 : Int)))
 (some (encRes ro_graph_to rh_graph_to (((decide (a0 ≤ (65535 : Int))), ()), ())))
 (some (encRes ro_graph_to rh_graph_to ((false, ()), ())))
noncomputable def Q_graph_to (a0 : Int) : Option (RS ro_graph_to rh_graph_to) := decRes ro_graph_to rh_graph_to (M_graph_to FUEL a0)
noncomputable def ok_graph_to (a0 : Int) : Bool := (Q_graph_to a0).isSome
noncomputable def q_graph_to (a0 : Int) : RS ro_graph_to rh_graph_to := RS.get (Q_graph_to a0)
/-! ### graph_span_may -/
abbrev ro_graph_span_may : List EK := [.ty .bool]
abbrev rh_graph_span_may : List HK := []
noncomputable def M_graph_span_may (n : Nat) (a0 : SpanS) : Option Res :=
 cond (a0.2.1 == (0 : Int))
 (some (encRes ro_graph_span_may rh_graph_span_may (((a0.1 == (0 : Int)), ()), ())))
 (cond (decide (a0.2.1 > (0 : Int)))
 (cond (decide (a0.2.1 ≤ a0.2.2.1))
 (cond (decide (a0.1 ≥ (0 : Int)))
 (some (encRes ro_graph_span_may rh_graph_span_may (((decide (a0.1 ≤ (2048 : Int))), ()), ())))
 (some (encRes ro_graph_span_may rh_graph_span_may ((false, ()), ()))))
 (some (encRes ro_graph_span_may rh_graph_span_may ((false, ()), ()))))
 (some (encRes ro_graph_span_may rh_graph_span_may ((false, ()), ()))))
noncomputable def Q_graph_span_may (a0 : SpanS) : Option (RS ro_graph_span_may rh_graph_span_may) := decRes ro_graph_span_may rh_graph_span_may (M_graph_span_may FUEL a0)
noncomputable def ok_graph_span_may (a0 : SpanS) : Bool := (Q_graph_span_may a0).isSome
noncomputable def q_graph_span_may (a0 : SpanS) : RS ro_graph_span_may rh_graph_span_may := RS.get (Q_graph_span_may a0)
/-! ### graph_unit -/
abbrev ro_graph_unit : List EK := [.ty .bool]
abbrev rh_graph_unit : List HK := []
noncomputable def M_graph_unit (n : Nat) (a0 : NodeS) : Option Res :=
 cond (a0.2.2.2.1 == (0 : Int))
 (some (encRes ro_graph_unit rh_graph_unit (((a0.2.2.2.2.1 == (0 : Int)), ()), ())))
 (cond (decide (a0.2.2.2.2.1 ≥ (1 : Int)))
 (some (encRes ro_graph_unit rh_graph_unit (((decide (a0.2.2.2.2.1 ≤ (256 : Int))), ()), ())))
 (some (encRes ro_graph_unit rh_graph_unit ((false, ()), ()))))
noncomputable def Q_graph_unit (a0 : NodeS) : Option (RS ro_graph_unit rh_graph_unit) := decRes ro_graph_unit rh_graph_unit (M_graph_unit FUEL a0)
noncomputable def ok_graph_unit (a0 : NodeS) : Bool := (Q_graph_unit a0).isSome
noncomputable def q_graph_unit (a0 : NodeS) : RS ro_graph_unit rh_graph_unit := RS.get (Q_graph_unit a0)
/-! ### graph_Form -/
abbrev ro_graph_Form : List EK := [.ty .bool]
abbrev rh_graph_Form : List HK := []
noncomputable def F_graph_Form_0 (n : Nat) (k_r : Bool → Option Res) (k_t0 : Unit → Option Res) (x0_0 : (List ArmS)) (x0_1 : Int) (x0_3 : NodeS) (rec : Int → Option Res) (x0_2 : Int) : Option Res :=
 cond (decide (x0_2 < x0_1))
 (cond (decide ((0 : Int) ≤ x0_2 ∧ x0_2 < (((List.length x0_0) : Nat) : Int)))
 (cond (decide ((0 : Int) ≤ x0_3.2.2.2.2.2.2.1))
 (let y5 : Int := (Int.fdiv (IntKind.wrap .u64 (rdd zArmS x0_0 (Int.toNat x0_2)).1) (2 ^ (min (Int.toNat x0_3.2.2.2.2.2.2.1) (IntKind.bits .u64))))
 cond (decide (y5 > (0 : Int)))
 (k_r false)
 (cond (x0_3.2.2.2.2.2.2.1 == (0 : Int))
 (k_r false)
 (cond (decide (x0_2 > (0 : Int)))
 (cond (decide ((0 : Int) ≤ (IntKind.wrap .i64 (x0_2 - (1 : Int))) ∧ (IntKind.wrap .i64 (x0_2 - (1 : Int))) < (((List.length x0_3.2.2.2.2.2.2.2.1) : Nat) : Int)))
 (cond (decide ((rdd zArmS x0_0 (Int.toNat x0_2)).1 ≤ (rdd zArmS x0_3.2.2.2.2.2.2.2.1 (Int.toNat (IntKind.wrap .i64 (x0_2 - (1 : Int))))).1))
 (k_r false)
 (let y6 : ((Bool × Unit) × Unit) := (q_graph_to ((rdd zArmS x0_0 (Int.toNat x0_2)).2.1))
 cond (ok_graph_to ((rdd zArmS x0_0 (Int.toNat x0_2)).2.1))
 (cond (!y6.1.1)
 (k_r false)
 (rec (IntKind.wrap .i64 (x0_2 + (1 : Int)))))
 (none)))
 (none))
 (let y7 : ((Bool × Unit) × Unit) := (q_graph_to ((rdd zArmS x0_0 (Int.toNat x0_2)).2.1))
 cond (ok_graph_to ((rdd zArmS x0_0 (Int.toNat x0_2)).2.1))
 (cond (!y7.1.1)
 (k_r false)
 (rec (IntKind.wrap .i64 (x0_2 + (1 : Int)))))
 (none)))))
 (none))
 (none))
 (k_t0 ())
noncomputable def L_graph_Form_0 (n : Nat) (k_r : Bool → Option Res) (k_t0 : Unit → Option Res) (x0_0 : (List ArmS)) (x0_1 : Int) (x0_3 : NodeS) : Nat → Int → Option Res
  | 0, _ => none
  | m + 1, x0_2 => F_graph_Form_0 n k_r k_t0 x0_0 x0_1 x0_3 (L_graph_Form_0 n k_r k_t0 x0_0 x0_1 x0_3 m) x0_2
noncomputable def M_graph_Form (n : Nat) (a0 : NodeS) : Option Res :=
 cond (decide (a0.1 < (1 : Int)))
 (some (encRes ro_graph_Form rh_graph_Form ((false, ()), ())))
 (cond (decide (a0.1 > (65534 : Int)))
 (some (encRes ro_graph_Form rh_graph_Form ((false, ()), ())))
 (cond (decide (a0.2.1 < (0 : Int)))
 (some (encRes ro_graph_Form rh_graph_Form ((false, ()), ())))
 (cond (decide (a0.2.1 > (256 : Int)))
 (some (encRes ro_graph_Form rh_graph_Form ((false, ()), ())))
 (let y1 : ((Bool × Unit) × Unit) := (q_graph_to a0.2.2.2.2.2.2.2.2.1)
 cond (ok_graph_to a0.2.2.2.2.2.2.2.2.1)
 (cond (!y1.1.1)
 (some (encRes ro_graph_Form rh_graph_Form ((false, ()), ())))
 (cond (decide ((((List.length a0.2.2.2.2.2.2.2.1) : Nat) : Int) > (32 : Int)))
 (some (encRes ro_graph_Form rh_graph_Form ((false, ()), ())))
 (let y2 : ((Bool × Unit) × Unit) := (q_graph_span_may (a0.2.2.1, (a0.2.2.2.1, ((16 : Int), ()))))
 cond (ok_graph_span_may (a0.2.2.1, (a0.2.2.2.1, ((16 : Int), ()))))
 (cond (!y2.1.1)
 (some (encRes ro_graph_Form rh_graph_Form ((false, ()), ())))
 (let y3 : ((Bool × Unit) × Unit) := (q_graph_unit a0)
 cond (ok_graph_unit a0)
 (cond (!y3.1.1)
 (some (encRes ro_graph_Form rh_graph_Form ((false, ()), ())))
 (let y4 : ((Bool × Unit) × Unit) := (q_graph_span_may (a0.2.2.2.2.2.1, (a0.2.2.2.2.2.2.1, ((32 : Int), ()))))
 cond (ok_graph_span_may (a0.2.2.2.2.2.1, (a0.2.2.2.2.2.2.1, ((32 : Int), ()))))
 (cond (!y4.1.1)
 (some (encRes ro_graph_Form rh_graph_Form ((false, ()), ())))
 (L_graph_Form_0 n
  (fun y8 => some (encRes ro_graph_Form rh_graph_Form ((y8, ()), ())))
  (fun _ => some (encRes ro_graph_Form rh_graph_Form ((true, ()), ())))
  a0.2.2.2.2.2.2.2.1
  (((List.length a0.2.2.2.2.2.2.2.1) : Nat) : Int)
  a0
  n
  (0 : Int)))
 (none)))
 (none)))
 (none))))
 (none)))))
noncomputable def Q_graph_Form (a0 : NodeS) : Option (RS ro_graph_Form rh_graph_Form) := decRes ro_graph_Form rh_graph_Form (M_graph_Form FUEL a0)
noncomputable def ok_graph_Form (a0 : NodeS) : Bool := (Q_graph_Form a0).isSome
noncomputable def q_graph_Form (a0 : NodeS) : RS ro_graph_Form rh_graph_Form := RS.get (Q_graph_Form a0)
/-! ### graph_form -/
abbrev ro_graph_form : List EK := [.ty .bool]
abbrev rh_graph_form : List HK := []
noncomputable def F_graph_form_0 (n : Nat) (k_r : Bool → Option Res) (k_t0 : Unit → Option Res) (x0_0 : (List NodeS)) (x0_1 : (List NodeS)) (x0_2 : Int) (rec : Int → Option Res) (x0_3 : Int) : Option Res :=
 cond (decide (x0_3 < x0_2))
 (cond (decide ((0 : Int) ≤ x0_3 ∧ x0_3 < (((List.length x0_1) : Nat) : Int)))
 (let y1 : ((Bool × Unit) × Unit) := (q_graph_Form (rdd zNodeS x0_1 (Int.toNat x0_3)))
 cond (ok_graph_Form (rdd zNodeS x0_1 (Int.toNat x0_3)))
 (cond (!y1.1.1)
 (k_r false)
 (cond (decide (x0_3 > (0 : Int)))
 (cond (decide ((0 : Int) ≤ (IntKind.wrap .i64 (x0_3 - (1 : Int))) ∧ (IntKind.wrap .i64 (x0_3 - (1 : Int))) < (((List.length x0_0) : Nat) : Int)))
 (cond (decide ((rdd zNodeS x0_1 (Int.toNat x0_3)).1 ≤ (rdd zNodeS x0_0 (Int.toNat (IntKind.wrap .i64 (x0_3 - (1 : Int))))).1))
 (k_r false)
 (rec (IntKind.wrap .i64 (x0_3 + (1 : Int)))))
 (none))
 (rec (IntKind.wrap .i64 (x0_3 + (1 : Int))))))
 (none))
 (none))
 (k_t0 ())
noncomputable def L_graph_form_0 (n : Nat) (k_r : Bool → Option Res) (k_t0 : Unit → Option Res) (x0_0 : (List NodeS)) (x0_1 : (List NodeS)) (x0_2 : Int) : Nat → Int → Option Res
  | 0, _ => none
  | m + 1, x0_3 => F_graph_form_0 n k_r k_t0 x0_0 x0_1 x0_2 (L_graph_form_0 n k_r k_t0 x0_0 x0_1 x0_2 m) x0_3
noncomputable def M_graph_form (n : Nat) (a0 : (List NodeS)) : Option Res :=
 L_graph_form_0 n
  (fun y2 => some (encRes ro_graph_form rh_graph_form ((y2, ()), ())))
  (fun _ => some (encRes ro_graph_form rh_graph_form ((true, ()), ())))
  a0
  a0
  (((List.length a0) : Nat) : Int)
  n
  (0 : Int)
noncomputable def Q_graph_form (a0 : (List NodeS)) : Option (RS ro_graph_form rh_graph_form) := decRes ro_graph_form rh_graph_form (M_graph_form FUEL a0)
noncomputable def ok_graph_form (a0 : (List NodeS)) : Bool := (Q_graph_form a0).isSome
noncomputable def q_graph_form (a0 : (List NodeS)) : RS ro_graph_form rh_graph_form := RS.get (Q_graph_form a0)
/-! ### graph_goes -/
abbrev ro_graph_goes : List EK := [.hs 0 0]
abbrev rh_graph_goes : List HK := [.row (.int .i64)]
noncomputable def F_graph_goes_0 (n : Nat) (k_t0 : Nat → (List Int) → Option Res) (x0_1 : (List ArmS)) (x0_2 : Int) (rec : Nat → Int → (List Int) → Option Res) (x0_0 : Nat) (x0_3 : Int) (x0_4 : (List Int)) : Option Res :=
 cond (decide (x0_3 < x0_2))
 (cond (decide ((0 : Int) ≤ x0_3 ∧ x0_3 < (((List.length x0_1) : Nat) : Int)))
 (cond (decide (((List.length (cutL (0 : Int) x0_4 0 x0_0)) + 1) * 8 ≤ 2 ^ 46 ∧ ((List.length (cutL (0 : Int) x0_4 0 x0_0)) + 1) ≤ 2 ^ 46))
 (rec ((List.length (cutL (0 : Int) x0_4 0 x0_0)) + 1) (IntKind.wrap .i64 (x0_3 + (1 : Int))) ((cutL (0 : Int) x0_4 0 x0_0) ++ [(rdd zArmS x0_1 (Int.toNat x0_3)).2.1]))
 (none))
 (none))
 (k_t0 x0_0 x0_4)
noncomputable def L_graph_goes_0 (n : Nat) (k_t0 : Nat → (List Int) → Option Res) (x0_1 : (List ArmS)) (x0_2 : Int) : Nat → Nat → Int → (List Int) → Option Res
  | 0, _, _, _ => none
  | m + 1, x0_0, x0_3, x0_4 => F_graph_goes_0 n k_t0 x0_1 x0_2 (L_graph_goes_0 n k_t0 x0_1 x0_2 m) x0_0 x0_3 x0_4
noncomputable def M_graph_goes (n : Nat) (a0 : NodeS) : Option Res :=
 L_graph_goes_0 n
  (fun y1 y2 => some (encRes ro_graph_goes rh_graph_goes ((y1, ()), (y2, ()))))
  a0.2.2.2.2.2.2.2.1
  (((List.length a0.2.2.2.2.2.2.2.1) : Nat) : Int)
  n
  1
  (0 : Int)
  ([a0.2.2.2.2.2.2.2.2.1])
noncomputable def Q_graph_goes (a0 : NodeS) : Option (RS ro_graph_goes rh_graph_goes) := decRes ro_graph_goes rh_graph_goes (M_graph_goes FUEL a0)
noncomputable def ok_graph_goes (a0 : NodeS) : Bool := (Q_graph_goes a0).isSome
noncomputable def q_graph_goes (a0 : NodeS) : RS ro_graph_goes rh_graph_goes := RS.get (Q_graph_goes a0)
/-! ### graph_Find -/
abbrev ro_graph_Find : List EK := [.agg NodeT, .ty .bool]
abbrev rh_graph_Find : List HK := []
noncomputable def F_graph_Find_0 (n : Nat) (k_r : Bool → NodeS → Option Res) (k_t0 : Unit → Option Res) (x0_0 : Int) (x0_1 : (List NodeS)) (x0_2 : Int) (x0_4 : NodeS) (rec : Int → Option Res) (x0_3 : Int) : Option Res :=
 cond (decide (x0_3 < x0_2))
 (cond (decide ((0 : Int) ≤ x0_3 ∧ x0_3 < (((List.length x0_1) : Nat) : Int)))
 (cond ((rdd zNodeS x0_1 (Int.toNat x0_3)).1 == x0_0)
 (k_r true (rdd zNodeS x0_1 (Int.toNat x0_3)))
 (rec (IntKind.wrap .i64 (x0_3 + (1 : Int)))))
 (none))
 (k_t0 ())
noncomputable def L_graph_Find_0 (n : Nat) (k_r : Bool → NodeS → Option Res) (k_t0 : Unit → Option Res) (x0_0 : Int) (x0_1 : (List NodeS)) (x0_2 : Int) (x0_4 : NodeS) : Nat → Int → Option Res
  | 0, _ => none
  | m + 1, x0_3 => F_graph_Find_0 n k_r k_t0 x0_0 x0_1 x0_2 x0_4 (L_graph_Find_0 n k_r k_t0 x0_0 x0_1 x0_2 x0_4 m) x0_3
noncomputable def M_graph_Find (n : Nat) (a0 : (List NodeS)) (a1 : Int) : Option Res :=
 L_graph_Find_0 n
  (fun y1 y2 => some (encRes ro_graph_Find rh_graph_Find ((y2, (y1, ())), ())))
  (fun _ => some (encRes ro_graph_Find rh_graph_Find ((((0 : Int), ((0 : Int), ((0 : Int), ((0 : Int), ((0 : Int), ((0 : Int), ((0 : Int), ([], ((0 : Int), ()))))))))), (false, ())), ())))
  a1
  a0
  (((List.length a0) : Nat) : Int)
  ((0 : Int), ((0 : Int), ((0 : Int), ((0 : Int), ((0 : Int), ((0 : Int), ((0 : Int), ([], ((0 : Int), ())))))))))
  n
  (0 : Int)
noncomputable def Q_graph_Find (a0 : (List NodeS)) (a1 : Int) : Option (RS ro_graph_Find rh_graph_Find) := decRes ro_graph_Find rh_graph_Find (M_graph_Find FUEL a0 a1)
noncomputable def ok_graph_Find (a0 : (List NodeS)) (a1 : Int) : Bool := (Q_graph_Find a0 a1).isSome
noncomputable def q_graph_Find (a0 : (List NodeS)) (a1 : Int) : RS ro_graph_Find rh_graph_Find := RS.get (Q_graph_Find a0 a1)
/-! ### graph_refs -/
abbrev ro_graph_refs : List EK := [.ty .bool]
abbrev rh_graph_refs : List HK := []
noncomputable def F_graph_refs_2 (n : Nat) (k_r : Bool → Option Res) (k_t2 : Unit → Option Res) (x2_0 : (List NodeS)) (x2_1 : (List NodeS)) (x2_2 : Int) (x2_3 : Int) (x2_4 : Nat) (x2_5 : Int) (x2_7 : (List Int)) (rec : Int → Option Res) (x2_6 : Int) : Option Res :=
 cond (decide (x2_6 < x2_5))
 (cond (decide ((0 : Int) ≤ x2_6 ∧ x2_6 < ((x2_4 : Nat) : Int)))
 (let y2 : ((NodeS × (Bool × Unit)) × Unit) := (q_graph_Find x2_0 (rdd (0 : Int) x2_7 (Int.toNat x2_6)))
 cond (ok_graph_Find x2_0 (rdd (0 : Int) x2_7 (Int.toNat x2_6)))
 (cond (!y2.1.2.1)
 (cond ((rdd (0 : Int) x2_7 (Int.toNat x2_6)) != (0 : Int))
 (cond ((rdd (0 : Int) x2_7 (Int.toNat x2_6)) != (65535 : Int))
 (k_r false)
 (rec (IntKind.wrap .i64 (x2_6 + (1 : Int)))))
 (rec (IntKind.wrap .i64 (x2_6 + (1 : Int)))))
 (rec (IntKind.wrap .i64 (x2_6 + (1 : Int)))))
 (none))
 (none))
 (k_t2 ())
noncomputable def L_graph_refs_2 (n : Nat) (k_r : Bool → Option Res) (k_t2 : Unit → Option Res) (x2_0 : (List NodeS)) (x2_1 : (List NodeS)) (x2_2 : Int) (x2_3 : Int) (x2_4 : Nat) (x2_5 : Int) (x2_7 : (List Int)) : Nat → Int → Option Res
  | 0, _ => none
  | m + 1, x2_6 => F_graph_refs_2 n k_r k_t2 x2_0 x2_1 x2_2 x2_3 x2_4 x2_5 x2_7 (L_graph_refs_2 n k_r k_t2 x2_0 x2_1 x2_2 x2_3 x2_4 x2_5 x2_7 m) x2_6
noncomputable def F_graph_refs_0 (n : Nat) (k_r : Bool → Option Res) (k_t0 : Unit → Option Res) (x0_0 : (List NodeS)) (x0_1 : (List NodeS)) (x0_2 : Int) (rec : Int → Option Res) (x0_3 : Int) : Option Res :=
 cond (decide (x0_3 < x0_2))
 (cond (decide ((0 : Int) ≤ x0_3 ∧ x0_3 < (((List.length x0_1) : Nat) : Int)))
 (let y1 : ((Nat × Unit) × ((List Int) × Unit)) := (q_graph_goes (rdd zNodeS x0_1 (Int.toNat x0_3)))
 cond (ok_graph_goes (rdd zNodeS x0_1 (Int.toNat x0_3)))
 (L_graph_refs_2 n
  (fun y3 => k_r y3)
  (fun _ => rec (IntKind.wrap .i64 (x0_3 + (1 : Int))))
  x0_0
  x0_1
  x0_2
  x0_3
  y1.1.1
  ((y1.1.1 : Nat) : Int)
  y1.2.1
  n
  (0 : Int))
 (none))
 (none))
 (k_t0 ())
noncomputable def L_graph_refs_0 (n : Nat) (k_r : Bool → Option Res) (k_t0 : Unit → Option Res) (x0_0 : (List NodeS)) (x0_1 : (List NodeS)) (x0_2 : Int) : Nat → Int → Option Res
  | 0, _ => none
  | m + 1, x0_3 => F_graph_refs_0 n k_r k_t0 x0_0 x0_1 x0_2 (L_graph_refs_0 n k_r k_t0 x0_0 x0_1 x0_2 m) x0_3
noncomputable def M_graph_refs (n : Nat) (a0 : (List NodeS)) : Option Res :=
 L_graph_refs_0 n
  (fun y4 => some (encRes ro_graph_refs rh_graph_refs ((y4, ()), ())))
  (fun _ => some (encRes ro_graph_refs rh_graph_refs ((true, ()), ())))
  a0
  a0
  (((List.length a0) : Nat) : Int)
  n
  (0 : Int)
noncomputable def Q_graph_refs (a0 : (List NodeS)) : Option (RS ro_graph_refs rh_graph_refs) := decRes ro_graph_refs rh_graph_refs (M_graph_refs FUEL a0)
noncomputable def ok_graph_refs (a0 : (List NodeS)) : Bool := (Q_graph_refs a0).isSome
noncomputable def q_graph_refs (a0 : (List NodeS)) : RS ro_graph_refs rh_graph_refs := RS.get (Q_graph_refs a0)
/-! ### graph_longest_walk -/
abbrev ro_graph_longest_walk : List EK := [.ty (.int .i64)]
abbrev rh_graph_longest_walk : List HK := [.one true [.ty (.slice NodeT)], .one false [.mp 2], .mf (.int .i64) (.int .i64), .one true [.ty .bool], .one false [.mp 5], .mf (.int .i64) (.int .i64), .one false [.fn 31 [(0, 0, 0), (1, 0, 0), (3, 0, 0), (4, 0, 0), (6, 0, 0)]]]
noncomputable def F_graph_longest_walk_1 (n : Nat) (qr_graph_longest_walk : Int → (List NodeS) → (Int → Option (Int)) → Bool → (Int → Option (Int)) → Option (RS ro_graph_longest_walk rh_graph_longest_walk)) (k_t1 : Int → (List NodeS) → (Int → Option (Int)) → Bool → (Int → Option (Int)) → Option Res) (x1_0 : Int) (x1_2 : Nat) (x1_3 : Int) (x1_9 : (List Int)) (rec : Int → Int → (List NodeS) → (Int → Option (Int)) → Bool → (Int → Option (Int)) → Option Res) (x1_1 : Int) (x1_4 : Int) (x1_5 : (List NodeS)) (x1_6 : (Int → Option (Int))) (x1_7 : Bool) (x1_8 : (Int → Option (Int))) : Option Res :=
 cond (decide (x1_4 < x1_3))
 (cond (decide ((0 : Int) ≤ x1_4 ∧ x1_4 < ((x1_2 : Nat) : Int)))
 (let y3 : ((Int × Unit) × (((List NodeS) × Unit) × ((Unit × Unit) × ((Int → Option (Int)) × ((Bool × Unit) × ((Unit × Unit) × ((Int → Option (Int)) × ((Unit × Unit) × Unit)))))))) := (RS.get (qr_graph_longest_walk (rdd (0 : Int) x1_9 (Int.toNat x1_4)) x1_5 x1_6 x1_7 x1_8))
 cond (Option.isSome (qr_graph_longest_walk (rdd (0 : Int) x1_9 (Int.toNat x1_4)) x1_5 x1_6 x1_7 x1_8))
 (rec (if y3.1.1 > x1_1 then y3.1.1 else x1_1) (IntKind.wrap .i64 (x1_4 + (1 : Int))) y3.2.1.1 y3.2.2.2.1 y3.2.2.2.2.1.1 y3.2.2.2.2.2.2.1)
 (none))
 (none))
 (k_t1 x1_1 x1_5 x1_6 x1_7 x1_8)
noncomputable def L_graph_longest_walk_1 (n : Nat) (qr_graph_longest_walk : Int → (List NodeS) → (Int → Option (Int)) → Bool → (Int → Option (Int)) → Option (RS ro_graph_longest_walk rh_graph_longest_walk)) (k_t1 : Int → (List NodeS) → (Int → Option (Int)) → Bool → (Int → Option (Int)) → Option Res) (x1_0 : Int) (x1_2 : Nat) (x1_3 : Int) (x1_9 : (List Int)) : Nat → Int → Int → (List NodeS) → (Int → Option (Int)) → Bool → (Int → Option (Int)) → Option Res
  | 0, _, _, _, _, _, _ => none
  | m + 1, x1_1, x1_4, x1_5, x1_6, x1_7, x1_8 => F_graph_longest_walk_1 n qr_graph_longest_walk k_t1 x1_0 x1_2 x1_3 x1_9 (L_graph_longest_walk_1 n qr_graph_longest_walk k_t1 x1_0 x1_2 x1_3 x1_9 m) x1_1 x1_4 x1_5 x1_6 x1_7 x1_8
noncomputable def M_graph_longest_walk (n : Nat) (qr_graph_longest_walk : Int → (List NodeS) → (Int → Option (Int)) → Bool → (Int → Option (Int)) → Option (RS ro_graph_longest_walk rh_graph_longest_walk)) (a0 : Int) (a1 : (List NodeS)) (a2 : (Int → Option (Int))) (a3 : Bool) (a4 : (Int → Option (Int))) : Option Res :=
 let y1 : ((NodeS × (Bool × Unit)) × Unit) := (q_graph_Find a1 a0)
 cond (ok_graph_Find a1 a0)
 (cond (!y1.1.2.1)
 (some (encRes ro_graph_longest_walk rh_graph_longest_walk (((0 : Int), ()), ((a1, ()), (((), ()), (a2, ((a3, ()), (((), ()), (a4, (((), ()), ()))))))))))
 (cond (decide ((Option.getD (a2 a0) (0 : Int)) > (0 : Int)))
 (some (encRes ro_graph_longest_walk rh_graph_longest_walk (((0 : Int), ()), ((a1, ()), (((), ()), (a2, ((false, ()), (((), ()), (a4, (((), ()), ()))))))))))
 (cond (decide ((Option.getD (a4 a0) (0 : Int)) > (0 : Int)))
 (some (encRes ro_graph_longest_walk rh_graph_longest_walk (((Option.getD (a4 a0) (0 : Int)), ()), ((a1, ()), (((), ()), (a2, ((a3, ()), (((), ()), (a4, (((), ()), ()))))))))))
 (let y2 : ((Nat × Unit) × ((List Int) × Unit)) := (q_graph_goes y1.1.1)
 cond (ok_graph_goes y1.1.1)
 (L_graph_longest_walk_1 n qr_graph_longest_walk
  (fun y4 y5 y6 y7 y8 => some (encRes ro_graph_longest_walk rh_graph_longest_walk (((IntKind.wrap .i64 (y4 + (1 : Int))), ()), ((y5, ()), (((), ()), ((fun i => cond (decide (i = a0)) (some (IntKind.wrap .i64 ((Option.getD (y6 a0) (0 : Int)) - (1 : Int)))) (y6 i)), ((y7, ()), (((), ()), ((fun i => cond (decide (i = a0)) (some (IntKind.wrap .i64 (y4 + (1 : Int)))) (y8 i)), (((), ()), ()))))))))))
  a0
  y2.1.1
  ((y2.1.1 : Nat) : Int)
  y2.2.1
  n
  (0 : Int)
  (0 : Int)
  a1
  (fun i => cond (decide (i = a0)) (some (IntKind.wrap .i64 ((Option.getD (a2 a0) (0 : Int)) + (1 : Int)))) (a2 i))
  a3
  a4)
 (none)))))
 (none)
noncomputable def Qd_graph_longest_walk : Nat → Int → (List NodeS) → (Int → Option (Int)) → Bool → (Int → Option (Int)) → Option (RS ro_graph_longest_walk rh_graph_longest_walk)
  | 0, _, _, _, _, _ => none
  | dp + 1, a0, a1, a2, a3, a4 => decRes ro_graph_longest_walk rh_graph_longest_walk (M_graph_longest_walk FUEL (Qd_graph_longest_walk dp) a0 a1 a2 a3 a4)
noncomputable def Q_graph_longest_walk (a0 : Int) (a1 : (List NodeS)) (a2 : (Int → Option (Int))) (a3 : Bool) (a4 : (Int → Option (Int))) : Option (RS ro_graph_longest_walk rh_graph_longest_walk) := Qd_graph_longest_walk FUEL a0 a1 a2 a3 a4
noncomputable def ok_graph_longest_walk (a0 : Int) (a1 : (List NodeS)) (a2 : (Int → Option (Int))) (a3 : Bool) (a4 : (Int → Option (Int))) : Bool := (Q_graph_longest_walk a0 a1 a2 a3 a4).isSome
noncomputable def q_graph_longest_walk (a0 : Int) (a1 : (List NodeS)) (a2 : (Int → Option (Int))) (a3 : Bool) (a4 : (Int → Option (Int))) : RS ro_graph_longest_walk rh_graph_longest_walk := RS.get (Q_graph_longest_walk a0 a1 a2 a3 a4)
/-! ### graph_longest -/
abbrev ro_graph_longest : List EK := [.fn 31 [(0, 0, 0), (1, 0, 0), (3, 0, 0), (4, 0, 0), (6, 0, 0)], .ty .bool]
abbrev rh_graph_longest : List HK := [.one true [.ty (.slice NodeT)], .one false [.mp 2], .mf (.int .i64) (.int .i64), .one true [.ty .bool], .one false [.mp 5], .mf (.int .i64) (.int .i64), .one false [.fn 31 [(0, 0, 0), (1, 0, 0), (3, 0, 0), (4, 0, 0), (6, 0, 0)]]]
noncomputable def F_graph_longest_0 (n : Nat) (k_t0 : Bool → (List NodeS) → (Int → Option (Int)) → (Int → Option (Int)) → Option Res) (x0_0 : (List NodeS)) (x0_1 : Int) (rec : Int → Bool → (List NodeS) → (Int → Option (Int)) → (Int → Option (Int)) → Option Res) (x0_2 : Int) (x0_3 : Bool) (x0_4 : (List NodeS)) (x0_5 : (Int → Option (Int))) (x0_6 : (Int → Option (Int))) : Option Res :=
 cond (decide (x0_2 < x0_1))
 (cond (decide ((0 : Int) ≤ x0_2 ∧ x0_2 < (((List.length x0_0) : Nat) : Int)))
 (let y1 : ((Int × Unit) × (((List NodeS) × Unit) × ((Unit × Unit) × ((Int → Option (Int)) × ((Bool × Unit) × ((Unit × Unit) × ((Int → Option (Int)) × ((Unit × Unit) × Unit)))))))) := (q_graph_longest_walk ((rdd zNodeS x0_0 (Int.toNat x0_2)).1) x0_4 x0_5 x0_3 x0_6)
 cond (ok_graph_longest_walk ((rdd zNodeS x0_0 (Int.toNat x0_2)).1) x0_4 x0_5 x0_3 x0_6)
 (rec (IntKind.wrap .i64 (x0_2 + (1 : Int))) y1.2.2.2.2.1.1 y1.2.1.1 y1.2.2.2.1 y1.2.2.2.2.2.2.1)
 (none))
 (none))
 (k_t0 x0_3 x0_4 x0_5 x0_6)
noncomputable def L_graph_longest_0 (n : Nat) (k_t0 : Bool → (List NodeS) → (Int → Option (Int)) → (Int → Option (Int)) → Option Res) (x0_0 : (List NodeS)) (x0_1 : Int) : Nat → Int → Bool → (List NodeS) → (Int → Option (Int)) → (Int → Option (Int)) → Option Res
  | 0, _, _, _, _, _ => none
  | m + 1, x0_2, x0_3, x0_4, x0_5, x0_6 => F_graph_longest_0 n k_t0 x0_0 x0_1 (L_graph_longest_0 n k_t0 x0_0 x0_1 m) x0_2 x0_3 x0_4 x0_5 x0_6
noncomputable def M_graph_longest (n : Nat) (a0 : (List NodeS)) : Option Res :=
 L_graph_longest_0 n
  (fun y2 y3 y4 y5 => some (encRes ro_graph_longest rh_graph_longest (((), (y2, ())), ((y3, ()), (((), ()), (y4, ((y2, ()), (((), ()), (y5, (((), ()), ()))))))))))
  a0
  (((List.length a0) : Nat) : Int)
  n
  (0 : Int)
  true
  a0
  (fun _ => none)
  (fun _ => none)
noncomputable def Q_graph_longest (a0 : (List NodeS)) : Option (RS ro_graph_longest rh_graph_longest) := decRes ro_graph_longest rh_graph_longest (M_graph_longest FUEL a0)
noncomputable def ok_graph_longest (a0 : (List NodeS)) : Bool := (Q_graph_longest a0).isSome
noncomputable def q_graph_longest (a0 : (List NodeS)) : RS ro_graph_longest rh_graph_longest := RS.get (Q_graph_longest a0)
/-! ### graph_May -/
abbrev ro_graph_May : List EK := [.ty (.int .i64)]
abbrev rh_graph_May : List HK := []
noncomputable def M_graph_May (n : Nat) (a0 : (List NodeS)) : Option Res :=
 let y1 : ((Bool × Unit) × Unit) := (q_graph_form a0)
 cond (ok_graph_form a0)
 (cond (!y1.1.1)
 (some (encRes ro_graph_May rh_graph_May (((3 : Int), ()), ())))
 (cond (decide ((((List.length a0) : Nat) : Int) > (32 : Int)))
 (some (encRes ro_graph_May rh_graph_May (((12 : Int), ()), ())))
 (let y2 : ((Bool × Unit) × Unit) := (q_graph_refs a0)
 cond (ok_graph_refs a0)
 (cond (!y2.1.1)
 (some (encRes ro_graph_May rh_graph_May (((8 : Int), ()), ())))
 (let y3 : ((Unit × (Bool × Unit)) × (((List NodeS) × Unit) × ((Unit × Unit) × ((Int → Option (Int)) × ((Bool × Unit) × ((Unit × Unit) × ((Int → Option (Int)) × ((Unit × Unit) × Unit)))))))) := (q_graph_longest a0)
 cond (ok_graph_longest a0)
 (cond (!y3.1.2.1)
 (some (encRes ro_graph_May rh_graph_May (((10 : Int), ()), ())))
 (some (encRes ro_graph_May rh_graph_May (((0 : Int), ()), ()))))
 (none)))
 (none))))
 (none)
noncomputable def Q_graph_May (a0 : (List NodeS)) : Option (RS ro_graph_May rh_graph_May) := decRes ro_graph_May rh_graph_May (M_graph_May FUEL a0)
noncomputable def ok_graph_May (a0 : (List NodeS)) : Bool := (Q_graph_May a0).isSome
noncomputable def q_graph_May (a0 : (List NodeS)) : RS ro_graph_May rh_graph_May := RS.get (Q_graph_May a0)
/-! ### graph_Longest -/
abbrev ro_graph_Longest : List EK := [.ty (.int .i64)]
abbrev rh_graph_Longest : List HK := []
noncomputable def M_graph_Longest (n : Nat) (a0 : (List NodeS)) : Option Res :=
 let y1 : ((Int × Unit) × Unit) := (q_graph_May a0)
 cond (ok_graph_May a0)
 (cond (y1.1.1 != (0 : Int))
 (some (encRes ro_graph_Longest rh_graph_Longest (((0 : Int), ()), ())))
 (let y2 : ((Unit × (Bool × Unit)) × (((List NodeS) × Unit) × ((Unit × Unit) × ((Int → Option (Int)) × ((Bool × Unit) × ((Unit × Unit) × ((Int → Option (Int)) × ((Unit × Unit) × Unit)))))))) := (q_graph_longest a0)
 cond (ok_graph_longest a0)
 (let y3 : ((Int × Unit) × (((List NodeS) × Unit) × ((Unit × Unit) × ((Int → Option (Int)) × ((Bool × Unit) × ((Unit × Unit) × ((Int → Option (Int)) × ((Unit × Unit) × Unit)))))))) := (q_graph_longest_walk (1 : Int) y2.2.1.1 y2.2.2.2.1 y2.2.2.2.2.1.1 y2.2.2.2.2.2.2.1)
 cond (ok_graph_longest_walk (1 : Int) y2.2.1.1 y2.2.2.2.1 y2.2.2.2.2.1.1 y2.2.2.2.2.2.2.1)
 (some (encRes ro_graph_Longest rh_graph_Longest ((y3.1.1, ()), ())))
 (none))
 (none)))
 (none)
noncomputable def Q_graph_Longest (a0 : (List NodeS)) : Option (RS ro_graph_Longest rh_graph_Longest) := decRes ro_graph_Longest rh_graph_Longest (M_graph_Longest FUEL a0)
noncomputable def ok_graph_Longest (a0 : (List NodeS)) : Bool := (Q_graph_Longest a0).isSome
noncomputable def q_graph_Longest (a0 : (List NodeS)) : RS ro_graph_Longest rh_graph_Longest := RS.get (Q_graph_Longest a0)
/-! ### graph_Next -/
abbrev ro_graph_Next : List EK := [.ty (.int .i64)]
abbrev rh_graph_Next : List HK := []
noncomputable def F_graph_Next_0 (n : Nat) (k_r : Int → Option Res) (k_t0 : Unit → Option Res) (x0_0 : Int) (x0_1 : (List ArmS)) (x0_2 : Int) (x0_4 : NodeS) (rec : Int → Option Res) (x0_3 : Int) : Option Res :=
 cond (decide (x0_3 < x0_2))
 (cond (decide ((0 : Int) ≤ x0_3 ∧ x0_3 < (((List.length x0_1) : Nat) : Int)))
 (cond ((rdd zArmS x0_1 (Int.toNat x0_3)).1 == x0_0)
 (k_r ((rdd zArmS x0_1 (Int.toNat x0_3)).2.1))
 (rec (IntKind.wrap .i64 (x0_3 + (1 : Int)))))
 (none))
 (k_t0 ())
noncomputable def L_graph_Next_0 (n : Nat) (k_r : Int → Option Res) (k_t0 : Unit → Option Res) (x0_0 : Int) (x0_1 : (List ArmS)) (x0_2 : Int) (x0_4 : NodeS) : Nat → Int → Option Res
  | 0, _ => none
  | m + 1, x0_3 => F_graph_Next_0 n k_r k_t0 x0_0 x0_1 x0_2 x0_4 (L_graph_Next_0 n k_r k_t0 x0_0 x0_1 x0_2 x0_4 m) x0_3
noncomputable def M_graph_Next (n : Nat) (a0 : (List NodeS)) (a1 : Int) (a2 : Int) : Option Res :=
 let y1 : ((NodeS × (Bool × Unit)) × Unit) := (q_graph_Find a0 a1)
 cond (ok_graph_Find a0 a1)
 (L_graph_Next_0 n
  (fun y2 => some (encRes ro_graph_Next rh_graph_Next ((y2, ()), ())))
  (fun _ => some (encRes ro_graph_Next rh_graph_Next ((y1.1.1.2.2.2.2.2.2.2.2.1, ()), ())))
  a2
  y1.1.1.2.2.2.2.2.2.2.1
  (((List.length y1.1.1.2.2.2.2.2.2.2.1) : Nat) : Int)
  y1.1.1
  n
  (0 : Int))
 (none)
noncomputable def Q_graph_Next (a0 : (List NodeS)) (a1 : Int) (a2 : Int) : Option (RS ro_graph_Next rh_graph_Next) := decRes ro_graph_Next rh_graph_Next (M_graph_Next FUEL a0 a1 a2)
noncomputable def ok_graph_Next (a0 : (List NodeS)) (a1 : Int) (a2 : Int) : Bool := (Q_graph_Next a0 a1 a2).isSome
noncomputable def q_graph_Next (a0 : (List NodeS)) (a1 : Int) (a2 : Int) : RS ro_graph_Next rh_graph_Next := RS.get (Q_graph_Next a0 a1 a2)
/-! ### turnoutlaw15_awake -/
abbrev ro_turnoutlaw15_awake : List EK := [.ty .bool]
abbrev rh_turnoutlaw15_awake : List HK := []
noncomputable def M_turnoutlaw15_awake (n : Nat) : Option Res :=
 let y1 : ((Nat × Unit) × ((List NodeS) × Unit)) := (q_turnoutlaw15_some (0 : Int))
 cond (ok_turnoutlaw15_some (0 : Int))
 (let y2 : ((Int × Unit) × Unit) := (q_graph_May (cutL zNodeS y1.2.1 0 y1.1.1))
 cond (ok_graph_May (cutL zNodeS y1.2.1 0 y1.1.1))
 (cond (y2.1.1 == (0 : Int))
 (let y3 : ((Int × Unit) × Unit) := (q_graph_Longest (cutL zNodeS y1.2.1 0 y1.1.1))
 cond (ok_graph_Longest (cutL zNodeS y1.2.1 0 y1.1.1))
 (cond (y3.1.1 == (3 : Int))
 (let y4 : ((Int × Unit) × Unit) := (q_graph_Next (cutL zNodeS y1.2.1 0 y1.1.1) (1 : Int) (2048 : Int))
 cond (ok_graph_Next (cutL zNodeS y1.2.1 0 y1.1.1) (1 : Int) (2048 : Int))
 (cond (y4.1.1 == (2 : Int))
 (let y5 : ((Int × Unit) × Unit) := (q_graph_Next (cutL zNodeS y1.2.1 0 y1.1.1) (1 : Int) (5 : Int))
 cond (ok_graph_Next (cutL zNodeS y1.2.1 0 y1.1.1) (1 : Int) (5 : Int))
 (cond (y5.1.1 == (0 : Int))
 (let y6 : ((Int × Unit) × Unit) := (q_graph_Next (cutL zNodeS y1.2.1 0 y1.1.1) (3 : Int) (7 : Int))
 cond (ok_graph_Next (cutL zNodeS y1.2.1 0 y1.1.1) (3 : Int) (7 : Int))
 (cond (y6.1.1 == (4 : Int))
 (let y7 : ((Nat × Unit) × ((List NodeS) × Unit)) := (q_turnoutlaw15_some (1 : Int))
 cond (ok_turnoutlaw15_some (1 : Int))
 (let y8 : ((Int × Unit) × Unit) := (q_graph_May (cutL zNodeS y7.2.1 0 y7.1.1))
 cond (ok_graph_May (cutL zNodeS y7.2.1 0 y7.1.1))
 (cond (y8.1.1 == (10 : Int))
 (let y9 : ((Nat × Unit) × ((List NodeS) × Unit)) := (q_turnoutlaw15_some (9 : Int))
 cond (ok_turnoutlaw15_some (9 : Int))
 (let y10 : ((Int × Unit) × Unit) := (q_graph_May (cutL zNodeS y9.2.1 0 y9.1.1))
 cond (ok_graph_May (cutL zNodeS y9.2.1 0 y9.1.1))
 (cond (y10.1.1 == (8 : Int))
 (let y11 : ((Nat × Unit) × ((List NodeS) × Unit)) := (q_turnoutlaw15_some (65535 : Int))
 cond (ok_turnoutlaw15_some (65535 : Int))
 (let y12 : ((Int × Unit) × Unit) := (q_graph_May (cutL zNodeS y11.2.1 0 y11.1.1))
 cond (ok_graph_May (cutL zNodeS y11.2.1 0 y11.1.1))
 (cond (y12.1.1 == (0 : Int))
 (let y13 : ((Int × Unit) × Unit) := (q_graph_May ([]))
 cond (ok_graph_May ([]))
 (cond (y13.1.1 == (0 : Int))
 (let y14 : ((Int × Unit) × Unit) := (q_graph_Longest ([]))
 cond (ok_graph_Longest ([]))
 (some (encRes ro_turnoutlaw15_awake rh_turnoutlaw15_awake (((y14.1.1 == (0 : Int)), ()), ())))
 (none))
 (some (encRes ro_turnoutlaw15_awake rh_turnoutlaw15_awake ((false, ()), ()))))
 (none))
 (some (encRes ro_turnoutlaw15_awake rh_turnoutlaw15_awake ((false, ()), ()))))
 (none))
 (none))
 (some (encRes ro_turnoutlaw15_awake rh_turnoutlaw15_awake ((false, ()), ()))))
 (none))
 (none))
 (some (encRes ro_turnoutlaw15_awake rh_turnoutlaw15_awake ((false, ()), ()))))
 (none))
 (none))
 (some (encRes ro_turnoutlaw15_awake rh_turnoutlaw15_awake ((false, ()), ()))))
 (none))
 (some (encRes ro_turnoutlaw15_awake rh_turnoutlaw15_awake ((false, ()), ()))))
 (none))
 (some (encRes ro_turnoutlaw15_awake rh_turnoutlaw15_awake ((false, ()), ()))))
 (none))
 (some (encRes ro_turnoutlaw15_awake rh_turnoutlaw15_awake ((false, ()), ()))))
 (none))
 (some (encRes ro_turnoutlaw15_awake rh_turnoutlaw15_awake ((false, ()), ()))))
 (none))
 (none)
noncomputable def Q_turnoutlaw15_awake : Option (RS ro_turnoutlaw15_awake rh_turnoutlaw15_awake) := decRes ro_turnoutlaw15_awake rh_turnoutlaw15_awake (M_turnoutlaw15_awake FUEL)
noncomputable def ok_turnoutlaw15_awake : Bool := (Q_turnoutlaw15_awake).isSome
noncomputable def q_turnoutlaw15_awake : RS ro_turnoutlaw15_awake rh_turnoutlaw15_awake := RS.get (Q_turnoutlaw15_awake)
/-! ### turnoutlaw15_GraphNames -/
abbrev ro_turnoutlaw15_GraphNames : List EK := [.ty .bool]
abbrev rh_turnoutlaw15_GraphNames : List HK := []
noncomputable def F_turnoutlaw15_GraphNames_0 (n : Nat) (k_t0 : (List ArmS) → Option Res) (x0_0 : Nat) (rec : Int → (List ArmS) → Option Res) (x0_1 : Int) (x0_2 : (List ArmS)) : Option Res :=
 cond (decide (x0_1 < (33 : Int)))
 (cond (decide ((0 : Int) ≤ x0_1 ∧ x0_1 < ((x0_0 : Nat) : Int)))
 (rec (IntKind.wrap .i64 (x0_1 + (1 : Int))) (List.set x0_2 (Int.toNat x0_1) ((IntKind.wrap .u32 x0_1), (rdd zArmS x0_2 (Int.toNat x0_1)).2)))
 (none))
 (k_t0 x0_2)
noncomputable def L_turnoutlaw15_GraphNames_0 (n : Nat) (k_t0 : (List ArmS) → Option Res) (x0_0 : Nat) : Nat → Int → (List ArmS) → Option Res
  | 0, _, _ => none
  | m + 1, x0_1, x0_2 => F_turnoutlaw15_GraphNames_0 n k_t0 x0_0 (L_turnoutlaw15_GraphNames_0 n k_t0 x0_0 m) x0_1 x0_2
noncomputable def F_turnoutlaw15_GraphNames_2 (n : Nat) (k_r : Bool → Option Res) (k_t2 : Unit → Option Res) (x2_0 : (List ArmS)) (x2_1 : Nat) (x2_2 : Int) (x2_4 : (List NodeS)) (rec : Int → Option Res) (x2_3 : Int) : Option Res :=
 cond (decide (x2_3 < x2_2))
 (cond (decide ((0 : Int) ≤ x2_3 ∧ x2_3 < ((x2_1 : Nat) : Int)))
 (let y3 : ((Bool × Unit) × Unit) := (q_graph_Form (rdd zNodeS x2_4 (Int.toNat x2_3)))
 cond (ok_graph_Form (rdd zNodeS x2_4 (Int.toNat x2_3)))
 (cond (!y3.1.1)
 (k_r false)
 (rec (IntKind.wrap .i64 (x2_3 + (1 : Int)))))
 (none))
 (none))
 (k_t2 ())
noncomputable def L_turnoutlaw15_GraphNames_2 (n : Nat) (k_r : Bool → Option Res) (k_t2 : Unit → Option Res) (x2_0 : (List ArmS)) (x2_1 : Nat) (x2_2 : Int) (x2_4 : (List NodeS)) : Nat → Int → Option Res
  | 0, _ => none
  | m + 1, x2_3 => F_turnoutlaw15_GraphNames_2 n k_r k_t2 x2_0 x2_1 x2_2 x2_4 (L_turnoutlaw15_GraphNames_2 n k_r k_t2 x2_0 x2_1 x2_2 x2_4 m) x2_3
noncomputable def F_turnoutlaw15_GraphNames_4 (n : Nat) (k_r : Bool → Option Res) (k_t4 : Unit → Option Res) (x4_0 : Nat) (x4_1 : Int) (x4_3 : (List NodeS)) (rec : Int → Option Res) (x4_2 : Int) : Option Res :=
 cond (decide (x4_2 < x4_1))
 (cond (decide ((0 : Int) ≤ x4_2 ∧ x4_2 < ((x4_0 : Nat) : Int)))
 (let y5 : ((Bool × Unit) × Unit) := (q_graph_Form (rdd zNodeS x4_3 (Int.toNat x4_2)))
 cond (ok_graph_Form (rdd zNodeS x4_3 (Int.toNat x4_2)))
 (cond y5.1.1
 (k_r false)
 (let y6 : ((Int × Unit) × Unit) := (q_graph_May ([(rdd zNodeS x4_3 (Int.toNat x4_2))]))
 cond (ok_graph_May ([(rdd zNodeS x4_3 (Int.toNat x4_2))]))
 (cond (y6.1.1 != (3 : Int))
 (k_r false)
 (rec (IntKind.wrap .i64 (x4_2 + (1 : Int)))))
 (none)))
 (none))
 (none))
 (k_t4 ())
noncomputable def L_turnoutlaw15_GraphNames_4 (n : Nat) (k_r : Bool → Option Res) (k_t4 : Unit → Option Res) (x4_0 : Nat) (x4_1 : Int) (x4_3 : (List NodeS)) : Nat → Int → Option Res
  | 0, _ => none
  | m + 1, x4_2 => F_turnoutlaw15_GraphNames_4 n k_r k_t4 x4_0 x4_1 x4_3 (L_turnoutlaw15_GraphNames_4 n k_r k_t4 x4_0 x4_1 x4_3 m) x4_2
noncomputable def F_turnoutlaw15_GraphNames_6 (n : Nat) (k_t6 : Nat → (List NodeS) → Option Res) (rec : Nat → Int → (List NodeS) → Option Res) (x6_0 : Nat) (x6_1 : Int) (x6_2 : (List NodeS)) : Option Res :=
 cond (decide (x6_1 < (33 : Int)))
 (cond (decide (((List.length (cutL zNodeS x6_2 0 x6_0)) + 1) * 88 ≤ 2 ^ 46 ∧ ((List.length (cutL zNodeS x6_2 0 x6_0)) + 1) ≤ 2 ^ 46))
 (rec ((List.length (cutL zNodeS x6_2 0 x6_0)) + 1) (IntKind.wrap .i64 (x6_1 + (1 : Int))) ((cutL zNodeS x6_2 0 x6_0) ++ [((IntKind.wrap .i64 (x6_1 + (1 : Int))), ((0 : Int), ((0 : Int), ((0 : Int), ((0 : Int), ((0 : Int), ((0 : Int), ([], ((IntKind.wrap .i64 (x6_1 + (2 : Int))), ())))))))))]))
 (none))
 (k_t6 x6_0 x6_2)
noncomputable def L_turnoutlaw15_GraphNames_6 (n : Nat) (k_t6 : Nat → (List NodeS) → Option Res) : Nat → Nat → Int → (List NodeS) → Option Res
  | 0, _, _, _ => none
  | m + 1, x6_0, x6_1, x6_2 => F_turnoutlaw15_GraphNames_6 n k_t6 (L_turnoutlaw15_GraphNames_6 n k_t6 m) x6_0 x6_1 x6_2
noncomputable def M_turnoutlaw15_GraphNames (n : Nat) : Option Res :=
 let y1 : ((Bool × Unit) × Unit) := q_turnoutlaw15_awake
 cond ok_turnoutlaw15_awake
 (cond (!y1.1.1)
 (some (encRes ro_turnoutlaw15_GraphNames rh_turnoutlaw15_GraphNames ((false, ()), ())))
 (cond (decide ((0 : Int) ≤ (33 : Int) ∧ (33 : Int) ≤ (33 : Int) ∧ (16 : Nat) * (33 : Int) ≤ (2 : Int) ^ 46))
 (L_turnoutlaw15_GraphNames_0 n
  (fun y2 => cond (decide ((0 : Int) ≤ (0 : Int) ∧ (0 : Int) ≤ (32 : Int) ∧ (32 : Int) ≤ (((Int.toNat (33 : Int)) : Nat) : Int) ∧ (((Int.toNat (33 : Int)) : Nat) : Int) ≤ (((Int.toNat (33 : Int)) : Nat) : Int)))
 (cond (decide ((0 : Int) ≤ (0 : Int) ∧ (0 : Int) ≤ (32 : Int) ∧ (32 : Int) ≤ (((Int.toNat (33 : Int)) : Nat) : Int) ∧ (((Int.toNat (33 : Int)) : Nat) : Int) ≤ (((Int.toNat (33 : Int)) : Nat) : Int)))
 (L_turnoutlaw15_GraphNames_2 n
  (fun y4 => some (encRes ro_turnoutlaw15_GraphNames rh_turnoutlaw15_GraphNames ((y4, ()), ())))
  (fun _ => cond (decide ((0 : Int) ≤ (0 : Int) ∧ (0 : Int) ≤ (1 : Int) ∧ (1 : Int) ≤ (((List.length (cutL zArmS y2 0 (Int.toNat (33 : Int)))) : Nat) : Int) ∧ (((List.length (cutL zArmS y2 0 (Int.toNat (33 : Int)))) : Nat) : Int) ≤ (((List.length (cutL zArmS y2 0 (Int.toNat (33 : Int)))) : Nat) : Int)))
 (cond (decide ((0 : Int) ≤ (0 : Int) ∧ (0 : Int) ≤ (17 : Int) ∧ (17 : Int) ≤ (((List.length (cutL zArmS y2 0 (Int.toNat (33 : Int)))) : Nat) : Int) ∧ (((List.length (cutL zArmS y2 0 (Int.toNat (33 : Int)))) : Nat) : Int) ≤ (((List.length (cutL zArmS y2 0 (Int.toNat (33 : Int)))) : Nat) : Int)))
 (L_turnoutlaw15_GraphNames_4 n
  (fun y7 => some (encRes ro_turnoutlaw15_GraphNames rh_turnoutlaw15_GraphNames ((y7, ()), ())))
  (fun _ => L_turnoutlaw15_GraphNames_6 n
  (fun y8 y9 => let y10 : ((Int × Unit) × Unit) := (q_graph_May (cutL zNodeS y9 0 y8))
 cond (ok_graph_May (cutL zNodeS y9 0 y8))
 (cond (y10.1.1 != (12 : Int))
 (some (encRes ro_turnoutlaw15_GraphNames rh_turnoutlaw15_GraphNames ((false, ()), ())))
 (cond (decide ((0 : Int) ≤ (0 : Int) ∧ (0 : Int) ≤ (32 : Int) ∧ (32 : Int) ≤ ((y8 : Nat) : Int) ∧ ((y8 : Nat) : Int) ≤ ((y8 : Nat) : Int)))
 (let y11 : ((Int × Unit) × Unit) := (q_graph_May (cutL zNodeS y9 0 (Int.toNat (32 : Int) - Int.toNat (0 : Int))))
 cond (ok_graph_May (cutL zNodeS y9 0 (Int.toNat (32 : Int) - Int.toNat (0 : Int))))
 (cond (y11.1.1 != (8 : Int))
 (some (encRes ro_turnoutlaw15_GraphNames rh_turnoutlaw15_GraphNames ((false, ()), ())))
 (cond (decide ((0 : Int) ≤ (31 : Int) ∧ (31 : Int) < ((y8 : Nat) : Int)))
 (cond (decide ((0 : Int) ≤ (0 : Int) ∧ (0 : Int) ≤ (32 : Int) ∧ (32 : Int) ≤ ((y8 : Nat) : Int) ∧ ((y8 : Nat) : Int) ≤ ((y8 : Nat) : Int)))
 (let y12 : ((Int × Unit) × Unit) := (q_graph_May (cutL zNodeS (List.set y9 31 ((rdd zNodeS y9 31).1, ((rdd zNodeS y9 31).2.1, ((rdd zNodeS y9 31).2.2.1, ((rdd zNodeS y9 31).2.2.2.1, ((rdd zNodeS y9 31).2.2.2.2.1, ((rdd zNodeS y9 31).2.2.2.2.2.1, ((rdd zNodeS y9 31).2.2.2.2.2.2.1, ((rdd zNodeS y9 31).2.2.2.2.2.2.2.1, ((0 : Int), ())))))))))) 0 (Int.toNat (32 : Int) - Int.toNat (0 : Int))))
 cond (ok_graph_May (cutL zNodeS (List.set y9 31 ((rdd zNodeS y9 31).1, ((rdd zNodeS y9 31).2.1, ((rdd zNodeS y9 31).2.2.1, ((rdd zNodeS y9 31).2.2.2.1, ((rdd zNodeS y9 31).2.2.2.2.1, ((rdd zNodeS y9 31).2.2.2.2.2.1, ((rdd zNodeS y9 31).2.2.2.2.2.2.1, ((rdd zNodeS y9 31).2.2.2.2.2.2.2.1, ((0 : Int), ())))))))))) 0 (Int.toNat (32 : Int) - Int.toNat (0 : Int))))
 (cond (y12.1.1 != (0 : Int))
 (some (encRes ro_turnoutlaw15_GraphNames rh_turnoutlaw15_GraphNames ((false, ()), ())))
 (cond (decide ((0 : Int) ≤ (0 : Int) ∧ (0 : Int) ≤ (32 : Int) ∧ (32 : Int) ≤ ((y8 : Nat) : Int) ∧ ((y8 : Nat) : Int) ≤ ((y8 : Nat) : Int)))
 (let y13 : ((Int × Unit) × Unit) := (q_graph_Longest (cutL zNodeS (List.set y9 31 ((rdd zNodeS y9 31).1, ((rdd zNodeS y9 31).2.1, ((rdd zNodeS y9 31).2.2.1, ((rdd zNodeS y9 31).2.2.2.1, ((rdd zNodeS y9 31).2.2.2.2.1, ((rdd zNodeS y9 31).2.2.2.2.2.1, ((rdd zNodeS y9 31).2.2.2.2.2.2.1, ((rdd zNodeS y9 31).2.2.2.2.2.2.2.1, ((0 : Int), ())))))))))) 0 (Int.toNat (32 : Int) - Int.toNat (0 : Int))))
 cond (ok_graph_Longest (cutL zNodeS (List.set y9 31 ((rdd zNodeS y9 31).1, ((rdd zNodeS y9 31).2.1, ((rdd zNodeS y9 31).2.2.1, ((rdd zNodeS y9 31).2.2.2.1, ((rdd zNodeS y9 31).2.2.2.2.1, ((rdd zNodeS y9 31).2.2.2.2.2.1, ((rdd zNodeS y9 31).2.2.2.2.2.2.1, ((rdd zNodeS y9 31).2.2.2.2.2.2.2.1, ((0 : Int), ())))))))))) 0 (Int.toNat (32 : Int) - Int.toNat (0 : Int))))
 (cond (y13.1.1 != (32 : Int))
 (some (encRes ro_turnoutlaw15_GraphNames rh_turnoutlaw15_GraphNames ((false, ()), ())))
 (let y14 : ((Int × Unit) × Unit) := (q_graph_Longest (cutL zNodeS (List.set y9 31 ((rdd zNodeS y9 31).1, ((rdd zNodeS y9 31).2.1, ((rdd zNodeS y9 31).2.2.1, ((rdd zNodeS y9 31).2.2.2.1, ((rdd zNodeS y9 31).2.2.2.2.1, ((rdd zNodeS y9 31).2.2.2.2.2.1, ((rdd zNodeS y9 31).2.2.2.2.2.2.1, ((rdd zNodeS y9 31).2.2.2.2.2.2.2.1, ((0 : Int), ())))))))))) 0 y8))
 cond (ok_graph_Longest (cutL zNodeS (List.set y9 31 ((rdd zNodeS y9 31).1, ((rdd zNodeS y9 31).2.1, ((rdd zNodeS y9 31).2.2.1, ((rdd zNodeS y9 31).2.2.2.1, ((rdd zNodeS y9 31).2.2.2.2.1, ((rdd zNodeS y9 31).2.2.2.2.2.1, ((rdd zNodeS y9 31).2.2.2.2.2.2.1, ((rdd zNodeS y9 31).2.2.2.2.2.2.2.1, ((0 : Int), ())))))))))) 0 y8))
 (cond (y14.1.1 != (0 : Int))
 (some (encRes ro_turnoutlaw15_GraphNames rh_turnoutlaw15_GraphNames ((false, ()), ())))
 (cond (decide ((0 : Int) ≤ (31 : Int) ∧ (31 : Int) < ((y8 : Nat) : Int)))
 (cond (decide ((0 : Int) ≤ (0 : Int) ∧ (0 : Int) ≤ (32 : Int) ∧ (32 : Int) ≤ ((y8 : Nat) : Int) ∧ ((y8 : Nat) : Int) ≤ ((y8 : Nat) : Int)))
 (let y15 : ((Int × Unit) × Unit) := (q_graph_May (cutL zNodeS (List.set (List.set y9 31 ((rdd zNodeS y9 31).1, ((rdd zNodeS y9 31).2.1, ((rdd zNodeS y9 31).2.2.1, ((rdd zNodeS y9 31).2.2.2.1, ((rdd zNodeS y9 31).2.2.2.2.1, ((rdd zNodeS y9 31).2.2.2.2.2.1, ((rdd zNodeS y9 31).2.2.2.2.2.2.1, ((rdd zNodeS y9 31).2.2.2.2.2.2.2.1, ((0 : Int), ())))))))))) 31 ((rdd zNodeS (List.set y9 31 ((rdd zNodeS y9 31).1, ((rdd zNodeS y9 31).2.1, ((rdd zNodeS y9 31).2.2.1, ((rdd zNodeS y9 31).2.2.2.1, ((rdd zNodeS y9 31).2.2.2.2.1, ((rdd zNodeS y9 31).2.2.2.2.2.1, ((rdd zNodeS y9 31).2.2.2.2.2.2.1, ((rdd zNodeS y9 31).2.2.2.2.2.2.2.1, ((0 : Int), ())))))))))) 31).1, ((rdd zNodeS (List.set y9 31 ((rdd zNodeS y9 31).1, ((rdd zNodeS y9 31).2.1, ((rdd zNodeS y9 31).2.2.1, ((rdd zNodeS y9 31).2.2.2.1, ((rdd zNodeS y9 31).2.2.2.2.1, ((rdd zNodeS y9 31).2.2.2.2.2.1, ((rdd zNodeS y9 31).2.2.2.2.2.2.1, ((rdd zNodeS y9 31).2.2.2.2.2.2.2.1, ((0 : Int), ())))))))))) 31).2.1, ((rdd zNodeS (List.set y9 31 ((rdd zNodeS y9 31).1, ((rdd zNodeS y9 31).2.1, ((rdd zNodeS y9 31).2.2.1, ((rdd zNodeS y9 31).2.2.2.1, ((rdd zNodeS y9 31).2.2.2.2.1, ((rdd zNodeS y9 31).2.2.2.2.2.1, ((rdd zNodeS y9 31).2.2.2.2.2.2.1, ((rdd zNodeS y9 31).2.2.2.2.2.2.2.1, ((0 : Int), ())))))))))) 31).2.2.1, ((rdd zNodeS (List.set y9 31 ((rdd zNodeS y9 31).1, ((rdd zNodeS y9 31).2.1, ((rdd zNodeS y9 31).2.2.1, ((rdd zNodeS y9 31).2.2.2.1, ((rdd zNodeS y9 31).2.2.2.2.1, ((rdd zNodeS y9 31).2.2.2.2.2.1, ((rdd zNodeS y9 31).2.2.2.2.2.2.1, ((rdd zNodeS y9 31).2.2.2.2.2.2.2.1, ((0 : Int), ())))))))))) 31).2.2.2.1, ((rdd zNodeS (List.set y9 31 ((rdd zNodeS y9 31).1, ((rdd zNodeS y9 31).2.1, ((rdd zNodeS y9 31).2.2.1, ((rdd zNodeS y9 31).2.2.2.1, ((rdd zNodeS y9 31).2.2.2.2.1, ((rdd zNodeS y9 31).2.2.2.2.2.1, ((rdd zNodeS y9 31).2.2.2.2.2.2.1, ((rdd zNodeS y9 31).2.2.2.2.2.2.2.1, ((0 : Int), ())))))))))) 31).2.2.2.2.1, ((rdd zNodeS (List.set y9 31 ((rdd zNodeS y9 31).1, ((rdd zNodeS y9 31).2.1, ((rdd zNodeS y9 31).2.2.1, ((rdd zNodeS y9 31).2.2.2.1, ((rdd zNodeS y9 31).2.2.2.2.1, ((rdd zNodeS y9 31).2.2.2.2.2.1, ((rdd zNodeS y9 31).2.2.2.2.2.2.1, ((rdd zNodeS y9 31).2.2.2.2.2.2.2.1, ((0 : Int), ())))))))))) 31).2.2.2.2.2.1, ((rdd zNodeS (List.set y9 31 ((rdd zNodeS y9 31).1, ((rdd zNodeS y9 31).2.1, ((rdd zNodeS y9 31).2.2.1, ((rdd zNodeS y9 31).2.2.2.1, ((rdd zNodeS y9 31).2.2.2.2.1, ((rdd zNodeS y9 31).2.2.2.2.2.1, ((rdd zNodeS y9 31).2.2.2.2.2.2.1, ((rdd zNodeS y9 31).2.2.2.2.2.2.2.1, ((0 : Int), ())))))))))) 31).2.2.2.2.2.2.1, ((rdd zNodeS (List.set y9 31 ((rdd zNodeS y9 31).1, ((rdd zNodeS y9 31).2.1, ((rdd zNodeS y9 31).2.2.1, ((rdd zNodeS y9 31).2.2.2.1, ((rdd zNodeS y9 31).2.2.2.2.1, ((rdd zNodeS y9 31).2.2.2.2.2.1, ((rdd zNodeS y9 31).2.2.2.2.2.2.1, ((rdd zNodeS y9 31).2.2.2.2.2.2.2.1, ((0 : Int), ())))))))))) 31).2.2.2.2.2.2.2.1, ((32 : Int), ())))))))))) 0 (Int.toNat (32 : Int) - Int.toNat (0 : Int))))
 cond (ok_graph_May (cutL zNodeS (List.set (List.set y9 31 ((rdd zNodeS y9 31).1, ((rdd zNodeS y9 31).2.1, ((rdd zNodeS y9 31).2.2.1, ((rdd zNodeS y9 31).2.2.2.1, ((rdd zNodeS y9 31).2.2.2.2.1, ((rdd zNodeS y9 31).2.2.2.2.2.1, ((rdd zNodeS y9 31).2.2.2.2.2.2.1, ((rdd zNodeS y9 31).2.2.2.2.2.2.2.1, ((0 : Int), ())))))))))) 31 ((rdd zNodeS (List.set y9 31 ((rdd zNodeS y9 31).1, ((rdd zNodeS y9 31).2.1, ((rdd zNodeS y9 31).2.2.1, ((rdd zNodeS y9 31).2.2.2.1, ((rdd zNodeS y9 31).2.2.2.2.1, ((rdd zNodeS y9 31).2.2.2.2.2.1, ((rdd zNodeS y9 31).2.2.2.2.2.2.1, ((rdd zNodeS y9 31).2.2.2.2.2.2.2.1, ((0 : Int), ())))))))))) 31).1, ((rdd zNodeS (List.set y9 31 ((rdd zNodeS y9 31).1, ((rdd zNodeS y9 31).2.1, ((rdd zNodeS y9 31).2.2.1, ((rdd zNodeS y9 31).2.2.2.1, ((rdd zNodeS y9 31).2.2.2.2.1, ((rdd zNodeS y9 31).2.2.2.2.2.1, ((rdd zNodeS y9 31).2.2.2.2.2.2.1, ((rdd zNodeS y9 31).2.2.2.2.2.2.2.1, ((0 : Int), ())))))))))) 31).2.1, ((rdd zNodeS (List.set y9 31 ((rdd zNodeS y9 31).1, ((rdd zNodeS y9 31).2.1, ((rdd zNodeS y9 31).2.2.1, ((rdd zNodeS y9 31).2.2.2.1, ((rdd zNodeS y9 31).2.2.2.2.1, ((rdd zNodeS y9 31).2.2.2.2.2.1, ((rdd zNodeS y9 31).2.2.2.2.2.2.1, ((rdd zNodeS y9 31).2.2.2.2.2.2.2.1, ((0 : Int), ())))))))))) 31).2.2.1, ((rdd zNodeS (List.set y9 31 ((rdd zNodeS y9 31).1, ((rdd zNodeS y9 31).2.1, ((rdd zNodeS y9 31).2.2.1, ((rdd zNodeS y9 31).2.2.2.1, ((rdd zNodeS y9 31).2.2.2.2.1, ((rdd zNodeS y9 31).2.2.2.2.2.1, ((rdd zNodeS y9 31).2.2.2.2.2.2.1, ((rdd zNodeS y9 31).2.2.2.2.2.2.2.1, ((0 : Int), ())))))))))) 31).2.2.2.1, ((rdd zNodeS (List.set y9 31 ((rdd zNodeS y9 31).1, ((rdd zNodeS y9 31).2.1, ((rdd zNodeS y9 31).2.2.1, ((rdd zNodeS y9 31).2.2.2.1, ((rdd zNodeS y9 31).2.2.2.2.1, ((rdd zNodeS y9 31).2.2.2.2.2.1, ((rdd zNodeS y9 31).2.2.2.2.2.2.1, ((rdd zNodeS y9 31).2.2.2.2.2.2.2.1, ((0 : Int), ())))))))))) 31).2.2.2.2.1, ((rdd zNodeS (List.set y9 31 ((rdd zNodeS y9 31).1, ((rdd zNodeS y9 31).2.1, ((rdd zNodeS y9 31).2.2.1, ((rdd zNodeS y9 31).2.2.2.1, ((rdd zNodeS y9 31).2.2.2.2.1, ((rdd zNodeS y9 31).2.2.2.2.2.1, ((rdd zNodeS y9 31).2.2.2.2.2.2.1, ((rdd zNodeS y9 31).2.2.2.2.2.2.2.1, ((0 : Int), ())))))))))) 31).2.2.2.2.2.1, ((rdd zNodeS (List.set y9 31 ((rdd zNodeS y9 31).1, ((rdd zNodeS y9 31).2.1, ((rdd zNodeS y9 31).2.2.1, ((rdd zNodeS y9 31).2.2.2.1, ((rdd zNodeS y9 31).2.2.2.2.1, ((rdd zNodeS y9 31).2.2.2.2.2.1, ((rdd zNodeS y9 31).2.2.2.2.2.2.1, ((rdd zNodeS y9 31).2.2.2.2.2.2.2.1, ((0 : Int), ())))))))))) 31).2.2.2.2.2.2.1, ((rdd zNodeS (List.set y9 31 ((rdd zNodeS y9 31).1, ((rdd zNodeS y9 31).2.1, ((rdd zNodeS y9 31).2.2.1, ((rdd zNodeS y9 31).2.2.2.1, ((rdd zNodeS y9 31).2.2.2.2.1, ((rdd zNodeS y9 31).2.2.2.2.2.1, ((rdd zNodeS y9 31).2.2.2.2.2.2.1, ((rdd zNodeS y9 31).2.2.2.2.2.2.2.1, ((0 : Int), ())))))))))) 31).2.2.2.2.2.2.2.1, ((32 : Int), ())))))))))) 0 (Int.toNat (32 : Int) - Int.toNat (0 : Int))))
 (cond (y15.1.1 != (10 : Int))
 (some (encRes ro_turnoutlaw15_GraphNames rh_turnoutlaw15_GraphNames ((false, ()), ())))
 (let y16 : ((Int × Unit) × Unit) := (q_graph_May ([((2 : Int), ((0 : Int), ((0 : Int), ((0 : Int), ((0 : Int), ((0 : Int), ((0 : Int), ([], ((0 : Int), ()))))))))), ((1 : Int), ((0 : Int), ((0 : Int), ((0 : Int), ((0 : Int), ((0 : Int), ((0 : Int), ([], ((0 : Int), ())))))))))]))
 cond (ok_graph_May ([((2 : Int), ((0 : Int), ((0 : Int), ((0 : Int), ((0 : Int), ((0 : Int), ((0 : Int), ([], ((0 : Int), ()))))))))), ((1 : Int), ((0 : Int), ((0 : Int), ((0 : Int), ((0 : Int), ((0 : Int), ((0 : Int), ([], ((0 : Int), ())))))))))]))
 (cond (y16.1.1 == (3 : Int))
 (let y17 : ((Int × Unit) × Unit) := (q_graph_May ([((1 : Int), ((0 : Int), ((0 : Int), ((0 : Int), ((0 : Int), ((0 : Int), ((0 : Int), ([], ((0 : Int), ()))))))))), ((1 : Int), ((0 : Int), ((0 : Int), ((0 : Int), ((0 : Int), ((0 : Int), ((0 : Int), ([], ((0 : Int), ())))))))))]))
 cond (ok_graph_May ([((1 : Int), ((0 : Int), ((0 : Int), ((0 : Int), ((0 : Int), ((0 : Int), ((0 : Int), ([], ((0 : Int), ()))))))))), ((1 : Int), ((0 : Int), ((0 : Int), ((0 : Int), ((0 : Int), ((0 : Int), ((0 : Int), ([], ((0 : Int), ())))))))))]))
 (cond (y17.1.1 == (3 : Int))
 (let y18 : ((Int × Unit) × Unit) := (q_graph_May ([((3 : Int), ((0 : Int), ((0 : Int), ((0 : Int), ((0 : Int), ((0 : Int), ((0 : Int), ([], ((3 : Int), ()))))))))), ((4 : Int), ((0 : Int), ((0 : Int), ((0 : Int), ((0 : Int), ((0 : Int), ((0 : Int), ([], ((9 : Int), ())))))))))]))
 cond (ok_graph_May ([((3 : Int), ((0 : Int), ((0 : Int), ((0 : Int), ((0 : Int), ((0 : Int), ((0 : Int), ([], ((3 : Int), ()))))))))), ((4 : Int), ((0 : Int), ((0 : Int), ((0 : Int), ((0 : Int), ((0 : Int), ((0 : Int), ([], ((9 : Int), ())))))))))]))
 (cond (y18.1.1 == (8 : Int))
 (let y19 : ((Int × Unit) × Unit) := (q_graph_Longest ([((2 : Int), ((0 : Int), ((0 : Int), ((0 : Int), ((0 : Int), ((0 : Int), ((0 : Int), ([], ((0 : Int), ())))))))))]))
 cond (ok_graph_Longest ([((2 : Int), ((0 : Int), ((0 : Int), ((0 : Int), ((0 : Int), ((0 : Int), ((0 : Int), ([], ((0 : Int), ())))))))))]))
 (cond (y19.1.1 == (0 : Int))
 (let y20 : ((Int × Unit) × Unit) := (q_graph_Next ([]) (1 : Int) (5 : Int))
 cond (ok_graph_Next ([]) (1 : Int) (5 : Int))
 (cond (y20.1.1 == (0 : Int))
 (let y21 : ((Int × Unit) × Unit) := (q_graph_Next ([((7 : Int), ((0 : Int), ((0 : Int), ((0 : Int), ((0 : Int), ((0 : Int), ((0 : Int), ([], ((4 : Int), ())))))))))]) (7 : Int) (5 : Int))
 cond (ok_graph_Next ([((7 : Int), ((0 : Int), ((0 : Int), ((0 : Int), ((0 : Int), ((0 : Int), ((0 : Int), ([], ((4 : Int), ())))))))))]) (7 : Int) (5 : Int))
 (some (encRes ro_turnoutlaw15_GraphNames rh_turnoutlaw15_GraphNames (((y21.1.1 == (4 : Int)), ()), ())))
 (none))
 (some (encRes ro_turnoutlaw15_GraphNames rh_turnoutlaw15_GraphNames ((false, ()), ()))))
 (none))
 (some (encRes ro_turnoutlaw15_GraphNames rh_turnoutlaw15_GraphNames ((false, ()), ()))))
 (none))
 (some (encRes ro_turnoutlaw15_GraphNames rh_turnoutlaw15_GraphNames ((false, ()), ()))))
 (none))
 (some (encRes ro_turnoutlaw15_GraphNames rh_turnoutlaw15_GraphNames ((false, ()), ()))))
 (none))
 (some (encRes ro_turnoutlaw15_GraphNames rh_turnoutlaw15_GraphNames ((false, ()), ()))))
 (none)))
 (none))
 (none))
 (none)))
 (none)))
 (none))
 (none)))
 (none))
 (none))
 (none)))
 (none))
 (none)))
 (none))
  n
  0
  (0 : Int)
  ([]))
  27
  ((27 : Nat) : Int)
  ([((0 : Int), ((0 : Int), ((0 : Int), ((0 : Int), ((0 : Int), ((0 : Int), ((0 : Int), ([], ((0 : Int), ()))))))))), ((-1 : Int), ((0 : Int), ((0 : Int), ((0 : Int), ((0 : Int), ((0 : Int), ((0 : Int), ([], ((0 : Int), ()))))))))), ((65535 : Int), ((0 : Int), ((0 : Int), ((0 : Int), ((0 : Int), ((0 : Int), ((0 : Int), ([], ((0 : Int), ()))))))))), ((1 : Int), ((-1 : Int), ((0 : Int), ((0 : Int), ((0 : Int), ((0 : Int), ((0 : Int), ([], ((0 : Int), ()))))))))), ((1 : Int), ((257 : Int), ((0 : Int), ((0 : Int), ((0 : Int), ((0 : Int), ((0 : Int), ([], ((0 : Int), ()))))))))), ((1 : Int), ((0 : Int), ((0 : Int), ((0 : Int), ((0 : Int), ((0 : Int), ((0 : Int), ([], ((-1 : Int), ()))))))))), ((1 : Int), ((0 : Int), ((0 : Int), ((0 : Int), ((0 : Int), ((0 : Int), ((0 : Int), ([], ((65536 : Int), ()))))))))), ((1 : Int), ((0 : Int), ((1 : Int), ((0 : Int), ((0 : Int), ((0 : Int), ((0 : Int), ([], ((0 : Int), ()))))))))), ((1 : Int), ((0 : Int), ((0 : Int), ((0 : Int), ((1 : Int), ((0 : Int), ((0 : Int), ([], ((0 : Int), ()))))))))), ((1 : Int), ((0 : Int), ((0 : Int), ((1 : Int), ((0 : Int), ((0 : Int), ((0 : Int), ([], ((0 : Int), ()))))))))), ((1 : Int), ((0 : Int), ((0 : Int), ((17 : Int), ((1 : Int), ((0 : Int), ((0 : Int), ([], ((0 : Int), ()))))))))), ((1 : Int), ((0 : Int), ((0 : Int), ((-1 : Int), ((1 : Int), ((0 : Int), ((0 : Int), ([], ((0 : Int), ()))))))))), ((1 : Int), ((0 : Int), ((0 : Int), ((1 : Int), ((257 : Int), ((0 : Int), ((0 : Int), ([], ((0 : Int), ()))))))))), ((1 : Int), ((0 : Int), ((-1 : Int), ((1 : Int), ((1 : Int), ((0 : Int), ((0 : Int), ([], ((0 : Int), ()))))))))), ((1 : Int), ((0 : Int), ((2049 : Int), ((1 : Int), ((1 : Int), ((0 : Int), ((0 : Int), ([], ((0 : Int), ()))))))))), ((1 : Int), ((0 : Int), ((0 : Int), ((0 : Int), ((0 : Int), ((1 : Int), ((0 : Int), ([], ((0 : Int), ()))))))))), ((1 : Int), ((0 : Int), ((0 : Int), ((0 : Int), ((0 : Int), ((0 : Int), ((0 : Int), ((cutL zArmS (cutL zArmS y2 0 (Int.toNat (33 : Int))) (Int.toNat (0 : Int)) (Int.toNat (1 : Int) - Int.toNat (0 : Int))), ((0 : Int), ()))))))))), ((1 : Int), ((0 : Int), ((0 : Int), ((0 : Int), ((0 : Int), ((0 : Int), ((33 : Int), ([], ((0 : Int), ()))))))))), ((1 : Int), ((0 : Int), ((0 : Int), ((0 : Int), ((0 : Int), ((0 : Int), ((-1 : Int), ([], ((0 : Int), ()))))))))), ((1 : Int), ((0 : Int), ((0 : Int), ((0 : Int), ((0 : Int), ((-1 : Int), ((1 : Int), ([], ((0 : Int), ()))))))))), ((1 : Int), ((0 : Int), ((0 : Int), ((0 : Int), ((0 : Int), ((2049 : Int), ((1 : Int), ([], ((0 : Int), ()))))))))), ((1 : Int), ((0 : Int), ((0 : Int), ((0 : Int), ((0 : Int), ((0 : Int), ((6 : Int), ((cutL zArmS y2 0 (Int.toNat (33 : Int))), ((0 : Int), ()))))))))), ((1 : Int), ((0 : Int), ((0 : Int), ((0 : Int), ((0 : Int), ((0 : Int), ((4 : Int), ((cutL zArmS (cutL zArmS y2 0 (Int.toNat (33 : Int))) (Int.toNat (0 : Int)) (Int.toNat (17 : Int) - Int.toNat (0 : Int))), ((0 : Int), ()))))))))), ((1 : Int), ((0 : Int), ((0 : Int), ((0 : Int), ((0 : Int), ((0 : Int), ((4 : Int), ([((1 : Int), ((0 : Int), ())), ((1 : Int), ((0 : Int), ()))], ((0 : Int), ()))))))))), ((1 : Int), ((0 : Int), ((0 : Int), ((0 : Int), ((0 : Int), ((0 : Int), ((4 : Int), ([((2 : Int), ((0 : Int), ())), ((1 : Int), ((0 : Int), ()))], ((0 : Int), ()))))))))), ((1 : Int), ((0 : Int), ((0 : Int), ((0 : Int), ((0 : Int), ((0 : Int), ((4 : Int), ([((0 : Int), ((-1 : Int), ()))], ((0 : Int), ()))))))))), ((1 : Int), ((0 : Int), ((0 : Int), ((0 : Int), ((0 : Int), ((0 : Int), ((4 : Int), ([((0 : Int), ((65536 : Int), ()))], ((0 : Int), ())))))))))])
  n
  (0 : Int))
 (none))
 (none))
  (cutL zArmS y2 0 (Int.toNat (33 : Int)))
  8
  ((8 : Nat) : Int)
  ([((1 : Int), ((0 : Int), ((0 : Int), ((0 : Int), ((0 : Int), ((0 : Int), ((0 : Int), ([], ((0 : Int), ()))))))))), ((65534 : Int), ((256 : Int), ((0 : Int), ((0 : Int), ((0 : Int), ((0 : Int), ((0 : Int), ([], ((65535 : Int), ()))))))))), ((1 : Int), ((0 : Int), ((2048 : Int), ((16 : Int), ((256 : Int), ((0 : Int), ((0 : Int), ([], ((0 : Int), ()))))))))), ((1 : Int), ((0 : Int), ((0 : Int), ((1 : Int), ((1 : Int), ((0 : Int), ((0 : Int), ([], ((0 : Int), ()))))))))), ((1 : Int), ((0 : Int), ((0 : Int), ((0 : Int), ((0 : Int), ((2048 : Int), ((32 : Int), ([((4294967295 : Int), ((65535 : Int), ()))], ((0 : Int), ()))))))))), ((1 : Int), ((0 : Int), ((0 : Int), ((0 : Int), ((0 : Int), ((0 : Int), ((1 : Int), ([], ((0 : Int), ()))))))))), ((1 : Int), ((0 : Int), ((0 : Int), ((0 : Int), ((0 : Int), ((0 : Int), ((6 : Int), ((cutL zArmS y2 0 (Int.toNat (32 : Int) - Int.toNat (0 : Int))), ((0 : Int), ()))))))))), ((1 : Int), ((0 : Int), ((0 : Int), ((0 : Int), ((0 : Int), ((0 : Int), ((5 : Int), ((cutL zArmS y2 0 (Int.toNat (32 : Int) - Int.toNat (0 : Int))), ((0 : Int), ())))))))))])
  n
  (0 : Int))
 (none))
 (none))
  (Int.toNat (33 : Int))
  n
  (0 : Int)
  (List.replicate (Int.toNat (33 : Int)) ((0 : Int), ((0 : Int), ()))))
 (none)))
 (none)
noncomputable def Q_turnoutlaw15_GraphNames : Option (RS ro_turnoutlaw15_GraphNames rh_turnoutlaw15_GraphNames) := decRes ro_turnoutlaw15_GraphNames rh_turnoutlaw15_GraphNames (M_turnoutlaw15_GraphNames FUEL)
noncomputable def ok_turnoutlaw15_GraphNames : Bool := (Q_turnoutlaw15_GraphNames).isSome
noncomputable def q_turnoutlaw15_GraphNames : RS ro_turnoutlaw15_GraphNames rh_turnoutlaw15_GraphNames := RS.get (Q_turnoutlaw15_GraphNames)
/-! ### turnoutlaw15_Long -/
abbrev ro_turnoutlaw15_Long : List EK := [.ty .bool]
abbrev rh_turnoutlaw15_Long : List HK := []
noncomputable def F_turnoutlaw15_Long_0 (n : Nat) (k_t0 : Int → Option Res) (x0_0 : (List NodeS)) (rec : Int → Int → Option Res) (x0_1 : Int) (x0_2 : Int) : Option Res :=
 cond (decide (x0_2 < (((List.length x0_0) : Nat) : Int)))
 (cond (decide (x0_1 < (1500 : Int)))
 (cond (decide ((0 : Int) ≤ x0_2 ∧ x0_2 < (((List.length x0_0) : Nat) : Int)))
 (let y1 : Int := (if (((List.length (rdd zNodeS x0_0 (Int.toNat x0_2)).2.2.2.2.2.2.2.1) : Nat) : Int) < (1500 : Int) then (((List.length (rdd zNodeS x0_0 (Int.toNat x0_2)).2.2.2.2.2.2.2.1) : Nat) : Int) else (1500 : Int))
 rec (IntKind.wrap .i64 ((IntKind.wrap .i64 (x0_1 + (10 : Int))) + y1)) (IntKind.wrap .i64 (x0_2 + (1 : Int))))
 (none))
 (k_t0 x0_1))
 (k_t0 x0_1)
noncomputable def L_turnoutlaw15_Long_0 (n : Nat) (k_t0 : Int → Option Res) (x0_0 : (List NodeS)) : Nat → Int → Int → Option Res
  | 0, _, _ => none
  | m + 1, x0_1, x0_2 => F_turnoutlaw15_Long_0 n k_t0 x0_0 (L_turnoutlaw15_Long_0 n k_t0 x0_0 m) x0_1 x0_2
noncomputable def M_turnoutlaw15_Long (n : Nat) (a0 : (List NodeS)) : Option Res :=
 L_turnoutlaw15_Long_0 n
  (fun y2 => some (encRes ro_turnoutlaw15_Long rh_turnoutlaw15_Long (((decide (y2 ≥ (1500 : Int))), ()), ())))
  a0
  n
  (0 : Int)
  (0 : Int)
noncomputable def Q_turnoutlaw15_Long (a0 : (List NodeS)) : Option (RS ro_turnoutlaw15_Long rh_turnoutlaw15_Long) := decRes ro_turnoutlaw15_Long rh_turnoutlaw15_Long (M_turnoutlaw15_Long FUEL a0)
noncomputable def ok_turnoutlaw15_Long (a0 : (List NodeS)) : Bool := (Q_turnoutlaw15_Long a0).isSome
noncomputable def q_turnoutlaw15_Long (a0 : (List NodeS)) : RS ro_turnoutlaw15_Long rh_turnoutlaw15_Long := RS.get (Q_turnoutlaw15_Long a0)
/-! ### turnoutref15_Form -/
abbrev ro_turnoutref15_Form : List EK := [.ty .bool]
abbrev rh_turnoutref15_Form : List HK := []
noncomputable def F_turnoutref15_Form_0 (n : Nat) (k_t0 : Int → Option Res) (x0_2 : NodeS) (rec : Int → Int → Option Res) (x0_0 : Int) (x0_1 : Int) : Option Res :=
 cond (decide (x0_1 < x0_2.2.2.2.2.2.2.1))
 (rec (IntKind.wrap .u64 (x0_0 * (2 : Int))) (IntKind.wrap .i64 (x0_1 + (1 : Int))))
 (k_t0 x0_0)
noncomputable def L_turnoutref15_Form_0 (n : Nat) (k_t0 : Int → Option Res) (x0_2 : NodeS) : Nat → Int → Int → Option Res
  | 0, _, _ => none
  | m + 1, x0_0, x0_1 => F_turnoutref15_Form_0 n k_t0 x0_2 (L_turnoutref15_Form_0 n k_t0 x0_2 m) x0_0 x0_1
noncomputable def F_turnoutref15_Form_2 (n : Nat) (k_r : Bool → Option Res) (k_t2 : Unit → Option Res) (x2_0 : Int) (x2_2 : NodeS) (rec : Int → Option Res) (x2_1 : Int) : Option Res :=
 cond (decide (x2_1 < (((List.length x2_2.2.2.2.2.2.2.2.1) : Nat) : Int)))
 (cond (decide ((0 : Int) ≤ x2_1 ∧ x2_1 < (((List.length x2_2.2.2.2.2.2.2.2.1) : Nat) : Int)))
 (cond (decide ((IntKind.wrap .u64 (rdd zArmS x2_2.2.2.2.2.2.2.2.1 (Int.toNat x2_1)).1) ≥ x2_0))
 (k_r false)
 (cond (decide (x2_1 > (0 : Int)))
 (cond (decide ((0 : Int) ≤ (IntKind.wrap .i64 (x2_1 - (1 : Int))) ∧ (IntKind.wrap .i64 (x2_1 - (1 : Int))) < (((List.length x2_2.2.2.2.2.2.2.2.1) : Nat) : Int)))
 (cond (decide ((rdd zArmS x2_2.2.2.2.2.2.2.2.1 (Int.toNat x2_1)).1 ≤ (rdd zArmS x2_2.2.2.2.2.2.2.2.1 (Int.toNat (IntKind.wrap .i64 (x2_1 - (1 : Int))))).1))
 (k_r false)
 (cond (decide ((rdd zArmS x2_2.2.2.2.2.2.2.2.1 (Int.toNat x2_1)).2.1 < (0 : Int)))
 (k_r false)
 (cond (decide ((rdd zArmS x2_2.2.2.2.2.2.2.2.1 (Int.toNat x2_1)).2.1 > (65535 : Int)))
 (k_r false)
 (rec (IntKind.wrap .i64 (x2_1 + (1 : Int)))))))
 (none))
 (cond (decide ((rdd zArmS x2_2.2.2.2.2.2.2.2.1 (Int.toNat x2_1)).2.1 < (0 : Int)))
 (k_r false)
 (cond (decide ((rdd zArmS x2_2.2.2.2.2.2.2.2.1 (Int.toNat x2_1)).2.1 > (65535 : Int)))
 (k_r false)
 (rec (IntKind.wrap .i64 (x2_1 + (1 : Int))))))))
 (none))
 (k_t2 ())
noncomputable def L_turnoutref15_Form_2 (n : Nat) (k_r : Bool → Option Res) (k_t2 : Unit → Option Res) (x2_0 : Int) (x2_2 : NodeS) : Nat → Int → Option Res
  | 0, _ => none
  | m + 1, x2_1 => F_turnoutref15_Form_2 n k_r k_t2 x2_0 x2_2 (L_turnoutref15_Form_2 n k_r k_t2 x2_0 x2_2 m) x2_1
noncomputable def M_turnoutref15_Form (n : Nat) (a0 : NodeS) : Option Res :=
 cond (decide (a0.1 < (1 : Int)))
 (some (encRes ro_turnoutref15_Form rh_turnoutref15_Form ((false, ()), ())))
 (cond (decide (a0.1 > (65534 : Int)))
 (some (encRes ro_turnoutref15_Form rh_turnoutref15_Form ((false, ()), ())))
 (cond (decide (a0.2.1 < (0 : Int)))
 (some (encRes ro_turnoutref15_Form rh_turnoutref15_Form ((false, ()), ())))
 (cond (decide (a0.2.1 > (256 : Int)))
 (some (encRes ro_turnoutref15_Form rh_turnoutref15_Form ((false, ()), ())))
 (cond (decide (a0.2.2.2.2.2.2.2.2.1 < (0 : Int)))
 (some (encRes ro_turnoutref15_Form rh_turnoutref15_Form ((false, ()), ())))
 (cond (decide (a0.2.2.2.2.2.2.2.2.1 > (65535 : Int)))
 (some (encRes ro_turnoutref15_Form rh_turnoutref15_Form ((false, ()), ())))
 (cond (a0.2.2.2.1 == (0 : Int))
 (cond (a0.2.2.1 != (0 : Int))
 (some (encRes ro_turnoutref15_Form rh_turnoutref15_Form ((false, ()), ())))
 (cond (a0.2.2.2.2.1 != (0 : Int))
 (some (encRes ro_turnoutref15_Form rh_turnoutref15_Form ((false, ()), ())))
 (cond (a0.2.2.2.1 != (0 : Int))
 (cond (decide (a0.2.2.2.1 < (1 : Int)))
 (some (encRes ro_turnoutref15_Form rh_turnoutref15_Form ((false, ()), ())))
 (cond (decide (a0.2.2.2.1 > (16 : Int)))
 (some (encRes ro_turnoutref15_Form rh_turnoutref15_Form ((false, ()), ())))
 (cond (decide (a0.2.2.2.2.1 < (1 : Int)))
 (some (encRes ro_turnoutref15_Form rh_turnoutref15_Form ((false, ()), ())))
 (cond (decide (a0.2.2.2.2.1 > (256 : Int)))
 (some (encRes ro_turnoutref15_Form rh_turnoutref15_Form ((false, ()), ())))
 (cond (decide (a0.2.2.1 < (0 : Int)))
 (some (encRes ro_turnoutref15_Form rh_turnoutref15_Form ((false, ()), ())))
 (cond (decide (a0.2.2.1 > (2048 : Int)))
 (some (encRes ro_turnoutref15_Form rh_turnoutref15_Form ((false, ()), ())))
 (cond (a0.2.2.2.2.2.2.1 == (0 : Int))
 (cond (a0.2.2.2.2.2.1 != (0 : Int))
 (some (encRes ro_turnoutref15_Form rh_turnoutref15_Form ((false, ()), ())))
 (cond (decide ((((List.length a0.2.2.2.2.2.2.2.1) : Nat) : Int) > (0 : Int)))
 (some (encRes ro_turnoutref15_Form rh_turnoutref15_Form ((false, ()), ())))
 (cond (a0.2.2.2.2.2.2.1 != (0 : Int))
 (cond (decide (a0.2.2.2.2.2.2.1 < (1 : Int)))
 (some (encRes ro_turnoutref15_Form rh_turnoutref15_Form ((false, ()), ())))
 (cond (decide (a0.2.2.2.2.2.2.1 > (32 : Int)))
 (some (encRes ro_turnoutref15_Form rh_turnoutref15_Form ((false, ()), ())))
 (cond (decide (a0.2.2.2.2.2.1 < (0 : Int)))
 (some (encRes ro_turnoutref15_Form rh_turnoutref15_Form ((false, ()), ())))
 (cond (decide (a0.2.2.2.2.2.1 > (2048 : Int)))
 (some (encRes ro_turnoutref15_Form rh_turnoutref15_Form ((false, ()), ())))
 (cond (decide ((((List.length a0.2.2.2.2.2.2.2.1) : Nat) : Int) > (32 : Int)))
 (some (encRes ro_turnoutref15_Form rh_turnoutref15_Form ((false, ()), ())))
 (L_turnoutref15_Form_0 n
  (fun y1 => L_turnoutref15_Form_2 n
  (fun y2 => some (encRes ro_turnoutref15_Form rh_turnoutref15_Form ((y2, ()), ())))
  (fun _ => some (encRes ro_turnoutref15_Form rh_turnoutref15_Form ((true, ()), ())))
  y1
  a0
  n
  (0 : Int))
  a0
  n
  (1 : Int)
  (0 : Int)))))))
 (cond (decide ((((List.length a0.2.2.2.2.2.2.2.1) : Nat) : Int) > (32 : Int)))
 (some (encRes ro_turnoutref15_Form rh_turnoutref15_Form ((false, ()), ())))
 (L_turnoutref15_Form_0 n
  (fun y3 => L_turnoutref15_Form_2 n
  (fun y4 => some (encRes ro_turnoutref15_Form rh_turnoutref15_Form ((y4, ()), ())))
  (fun _ => some (encRes ro_turnoutref15_Form rh_turnoutref15_Form ((true, ()), ())))
  y3
  a0
  n
  (0 : Int))
  a0
  n
  (1 : Int)
  (0 : Int))))))
 (cond (a0.2.2.2.2.2.2.1 != (0 : Int))
 (cond (decide (a0.2.2.2.2.2.2.1 < (1 : Int)))
 (some (encRes ro_turnoutref15_Form rh_turnoutref15_Form ((false, ()), ())))
 (cond (decide (a0.2.2.2.2.2.2.1 > (32 : Int)))
 (some (encRes ro_turnoutref15_Form rh_turnoutref15_Form ((false, ()), ())))
 (cond (decide (a0.2.2.2.2.2.1 < (0 : Int)))
 (some (encRes ro_turnoutref15_Form rh_turnoutref15_Form ((false, ()), ())))
 (cond (decide (a0.2.2.2.2.2.1 > (2048 : Int)))
 (some (encRes ro_turnoutref15_Form rh_turnoutref15_Form ((false, ()), ())))
 (cond (decide ((((List.length a0.2.2.2.2.2.2.2.1) : Nat) : Int) > (32 : Int)))
 (some (encRes ro_turnoutref15_Form rh_turnoutref15_Form ((false, ()), ())))
 (L_turnoutref15_Form_0 n
  (fun y5 => L_turnoutref15_Form_2 n
  (fun y6 => some (encRes ro_turnoutref15_Form rh_turnoutref15_Form ((y6, ()), ())))
  (fun _ => some (encRes ro_turnoutref15_Form rh_turnoutref15_Form ((true, ()), ())))
  y5
  a0
  n
  (0 : Int))
  a0
  n
  (1 : Int)
  (0 : Int)))))))
 (cond (decide ((((List.length a0.2.2.2.2.2.2.2.1) : Nat) : Int) > (32 : Int)))
 (some (encRes ro_turnoutref15_Form rh_turnoutref15_Form ((false, ()), ())))
 (L_turnoutref15_Form_0 n
  (fun y7 => L_turnoutref15_Form_2 n
  (fun y8 => some (encRes ro_turnoutref15_Form rh_turnoutref15_Form ((y8, ()), ())))
  (fun _ => some (encRes ro_turnoutref15_Form rh_turnoutref15_Form ((true, ()), ())))
  y7
  a0
  n
  (0 : Int))
  a0
  n
  (1 : Int)
  (0 : Int)))))))))))
 (cond (a0.2.2.2.2.2.2.1 == (0 : Int))
 (cond (a0.2.2.2.2.2.1 != (0 : Int))
 (some (encRes ro_turnoutref15_Form rh_turnoutref15_Form ((false, ()), ())))
 (cond (decide ((((List.length a0.2.2.2.2.2.2.2.1) : Nat) : Int) > (0 : Int)))
 (some (encRes ro_turnoutref15_Form rh_turnoutref15_Form ((false, ()), ())))
 (cond (a0.2.2.2.2.2.2.1 != (0 : Int))
 (cond (decide (a0.2.2.2.2.2.2.1 < (1 : Int)))
 (some (encRes ro_turnoutref15_Form rh_turnoutref15_Form ((false, ()), ())))
 (cond (decide (a0.2.2.2.2.2.2.1 > (32 : Int)))
 (some (encRes ro_turnoutref15_Form rh_turnoutref15_Form ((false, ()), ())))
 (cond (decide (a0.2.2.2.2.2.1 < (0 : Int)))
 (some (encRes ro_turnoutref15_Form rh_turnoutref15_Form ((false, ()), ())))
 (cond (decide (a0.2.2.2.2.2.1 > (2048 : Int)))
 (some (encRes ro_turnoutref15_Form rh_turnoutref15_Form ((false, ()), ())))
 (cond (decide ((((List.length a0.2.2.2.2.2.2.2.1) : Nat) : Int) > (32 : Int)))
 (some (encRes ro_turnoutref15_Form rh_turnoutref15_Form ((false, ()), ())))
 (L_turnoutref15_Form_0 n
  (fun y9 => L_turnoutref15_Form_2 n
  (fun y10 => some (encRes ro_turnoutref15_Form rh_turnoutref15_Form ((y10, ()), ())))
  (fun _ => some (encRes ro_turnoutref15_Form rh_turnoutref15_Form ((true, ()), ())))
  y9
  a0
  n
  (0 : Int))
  a0
  n
  (1 : Int)
  (0 : Int)))))))
 (cond (decide ((((List.length a0.2.2.2.2.2.2.2.1) : Nat) : Int) > (32 : Int)))
 (some (encRes ro_turnoutref15_Form rh_turnoutref15_Form ((false, ()), ())))
 (L_turnoutref15_Form_0 n
  (fun y11 => L_turnoutref15_Form_2 n
  (fun y12 => some (encRes ro_turnoutref15_Form rh_turnoutref15_Form ((y12, ()), ())))
  (fun _ => some (encRes ro_turnoutref15_Form rh_turnoutref15_Form ((true, ()), ())))
  y11
  a0
  n
  (0 : Int))
  a0
  n
  (1 : Int)
  (0 : Int))))))
 (cond (a0.2.2.2.2.2.2.1 != (0 : Int))
 (cond (decide (a0.2.2.2.2.2.2.1 < (1 : Int)))
 (some (encRes ro_turnoutref15_Form rh_turnoutref15_Form ((false, ()), ())))
 (cond (decide (a0.2.2.2.2.2.2.1 > (32 : Int)))
 (some (encRes ro_turnoutref15_Form rh_turnoutref15_Form ((false, ()), ())))
 (cond (decide (a0.2.2.2.2.2.1 < (0 : Int)))
 (some (encRes ro_turnoutref15_Form rh_turnoutref15_Form ((false, ()), ())))
 (cond (decide (a0.2.2.2.2.2.1 > (2048 : Int)))
 (some (encRes ro_turnoutref15_Form rh_turnoutref15_Form ((false, ()), ())))
 (cond (decide ((((List.length a0.2.2.2.2.2.2.2.1) : Nat) : Int) > (32 : Int)))
 (some (encRes ro_turnoutref15_Form rh_turnoutref15_Form ((false, ()), ())))
 (L_turnoutref15_Form_0 n
  (fun y13 => L_turnoutref15_Form_2 n
  (fun y14 => some (encRes ro_turnoutref15_Form rh_turnoutref15_Form ((y14, ()), ())))
  (fun _ => some (encRes ro_turnoutref15_Form rh_turnoutref15_Form ((true, ()), ())))
  y13
  a0
  n
  (0 : Int))
  a0
  n
  (1 : Int)
  (0 : Int)))))))
 (cond (decide ((((List.length a0.2.2.2.2.2.2.2.1) : Nat) : Int) > (32 : Int)))
 (some (encRes ro_turnoutref15_Form rh_turnoutref15_Form ((false, ()), ())))
 (L_turnoutref15_Form_0 n
  (fun y15 => L_turnoutref15_Form_2 n
  (fun y16 => some (encRes ro_turnoutref15_Form rh_turnoutref15_Form ((y16, ()), ())))
  (fun _ => some (encRes ro_turnoutref15_Form rh_turnoutref15_Form ((true, ()), ())))
  y15
  a0
  n
  (0 : Int))
  a0
  n
  (1 : Int)
  (0 : Int))))))))
 (cond (a0.2.2.2.1 != (0 : Int))
 (cond (decide (a0.2.2.2.1 < (1 : Int)))
 (some (encRes ro_turnoutref15_Form rh_turnoutref15_Form ((false, ()), ())))
 (cond (decide (a0.2.2.2.1 > (16 : Int)))
 (some (encRes ro_turnoutref15_Form rh_turnoutref15_Form ((false, ()), ())))
 (cond (decide (a0.2.2.2.2.1 < (1 : Int)))
 (some (encRes ro_turnoutref15_Form rh_turnoutref15_Form ((false, ()), ())))
 (cond (decide (a0.2.2.2.2.1 > (256 : Int)))
 (some (encRes ro_turnoutref15_Form rh_turnoutref15_Form ((false, ()), ())))
 (cond (decide (a0.2.2.1 < (0 : Int)))
 (some (encRes ro_turnoutref15_Form rh_turnoutref15_Form ((false, ()), ())))
 (cond (decide (a0.2.2.1 > (2048 : Int)))
 (some (encRes ro_turnoutref15_Form rh_turnoutref15_Form ((false, ()), ())))
 (cond (a0.2.2.2.2.2.2.1 == (0 : Int))
 (cond (a0.2.2.2.2.2.1 != (0 : Int))
 (some (encRes ro_turnoutref15_Form rh_turnoutref15_Form ((false, ()), ())))
 (cond (decide ((((List.length a0.2.2.2.2.2.2.2.1) : Nat) : Int) > (0 : Int)))
 (some (encRes ro_turnoutref15_Form rh_turnoutref15_Form ((false, ()), ())))
 (cond (a0.2.2.2.2.2.2.1 != (0 : Int))
 (cond (decide (a0.2.2.2.2.2.2.1 < (1 : Int)))
 (some (encRes ro_turnoutref15_Form rh_turnoutref15_Form ((false, ()), ())))
 (cond (decide (a0.2.2.2.2.2.2.1 > (32 : Int)))
 (some (encRes ro_turnoutref15_Form rh_turnoutref15_Form ((false, ()), ())))
 (cond (decide (a0.2.2.2.2.2.1 < (0 : Int)))
 (some (encRes ro_turnoutref15_Form rh_turnoutref15_Form ((false, ()), ())))
 (cond (decide (a0.2.2.2.2.2.1 > (2048 : Int)))
 (some (encRes ro_turnoutref15_Form rh_turnoutref15_Form ((false, ()), ())))
 (cond (decide ((((List.length a0.2.2.2.2.2.2.2.1) : Nat) : Int) > (32 : Int)))
 (some (encRes ro_turnoutref15_Form rh_turnoutref15_Form ((false, ()), ())))
 (L_turnoutref15_Form_0 n
  (fun y17 => L_turnoutref15_Form_2 n
  (fun y18 => some (encRes ro_turnoutref15_Form rh_turnoutref15_Form ((y18, ()), ())))
  (fun _ => some (encRes ro_turnoutref15_Form rh_turnoutref15_Form ((true, ()), ())))
  y17
  a0
  n
  (0 : Int))
  a0
  n
  (1 : Int)
  (0 : Int)))))))
 (cond (decide ((((List.length a0.2.2.2.2.2.2.2.1) : Nat) : Int) > (32 : Int)))
 (some (encRes ro_turnoutref15_Form rh_turnoutref15_Form ((false, ()), ())))
 (L_turnoutref15_Form_0 n
  (fun y19 => L_turnoutref15_Form_2 n
  (fun y20 => some (encRes ro_turnoutref15_Form rh_turnoutref15_Form ((y20, ()), ())))
  (fun _ => some (encRes ro_turnoutref15_Form rh_turnoutref15_Form ((true, ()), ())))
  y19
  a0
  n
  (0 : Int))
  a0
  n
  (1 : Int)
  (0 : Int))))))
 (cond (a0.2.2.2.2.2.2.1 != (0 : Int))
 (cond (decide (a0.2.2.2.2.2.2.1 < (1 : Int)))
 (some (encRes ro_turnoutref15_Form rh_turnoutref15_Form ((false, ()), ())))
 (cond (decide (a0.2.2.2.2.2.2.1 > (32 : Int)))
 (some (encRes ro_turnoutref15_Form rh_turnoutref15_Form ((false, ()), ())))
 (cond (decide (a0.2.2.2.2.2.1 < (0 : Int)))
 (some (encRes ro_turnoutref15_Form rh_turnoutref15_Form ((false, ()), ())))
 (cond (decide (a0.2.2.2.2.2.1 > (2048 : Int)))
 (some (encRes ro_turnoutref15_Form rh_turnoutref15_Form ((false, ()), ())))
 (cond (decide ((((List.length a0.2.2.2.2.2.2.2.1) : Nat) : Int) > (32 : Int)))
 (some (encRes ro_turnoutref15_Form rh_turnoutref15_Form ((false, ()), ())))
 (L_turnoutref15_Form_0 n
  (fun y21 => L_turnoutref15_Form_2 n
  (fun y22 => some (encRes ro_turnoutref15_Form rh_turnoutref15_Form ((y22, ()), ())))
  (fun _ => some (encRes ro_turnoutref15_Form rh_turnoutref15_Form ((true, ()), ())))
  y21
  a0
  n
  (0 : Int))
  a0
  n
  (1 : Int)
  (0 : Int)))))))
 (cond (decide ((((List.length a0.2.2.2.2.2.2.2.1) : Nat) : Int) > (32 : Int)))
 (some (encRes ro_turnoutref15_Form rh_turnoutref15_Form ((false, ()), ())))
 (L_turnoutref15_Form_0 n
  (fun y23 => L_turnoutref15_Form_2 n
  (fun y24 => some (encRes ro_turnoutref15_Form rh_turnoutref15_Form ((y24, ()), ())))
  (fun _ => some (encRes ro_turnoutref15_Form rh_turnoutref15_Form ((true, ()), ())))
  y23
  a0
  n
  (0 : Int))
  a0
  n
  (1 : Int)
  (0 : Int)))))))))))
 (cond (a0.2.2.2.2.2.2.1 == (0 : Int))
 (cond (a0.2.2.2.2.2.1 != (0 : Int))
 (some (encRes ro_turnoutref15_Form rh_turnoutref15_Form ((false, ()), ())))
 (cond (decide ((((List.length a0.2.2.2.2.2.2.2.1) : Nat) : Int) > (0 : Int)))
 (some (encRes ro_turnoutref15_Form rh_turnoutref15_Form ((false, ()), ())))
 (cond (a0.2.2.2.2.2.2.1 != (0 : Int))
 (cond (decide (a0.2.2.2.2.2.2.1 < (1 : Int)))
 (some (encRes ro_turnoutref15_Form rh_turnoutref15_Form ((false, ()), ())))
 (cond (decide (a0.2.2.2.2.2.2.1 > (32 : Int)))
 (some (encRes ro_turnoutref15_Form rh_turnoutref15_Form ((false, ()), ())))
 (cond (decide (a0.2.2.2.2.2.1 < (0 : Int)))
 (some (encRes ro_turnoutref15_Form rh_turnoutref15_Form ((false, ()), ())))
 (cond (decide (a0.2.2.2.2.2.1 > (2048 : Int)))
 (some (encRes ro_turnoutref15_Form rh_turnoutref15_Form ((false, ()), ())))
 (cond (decide ((((List.length a0.2.2.2.2.2.2.2.1) : Nat) : Int) > (32 : Int)))
 (some (encRes ro_turnoutref15_Form rh_turnoutref15_Form ((false, ()), ())))
 (L_turnoutref15_Form_0 n
  (fun y25 => L_turnoutref15_Form_2 n
  (fun y26 => some (encRes ro_turnoutref15_Form rh_turnoutref15_Form ((y26, ()), ())))
  (fun _ => some (encRes ro_turnoutref15_Form rh_turnoutref15_Form ((true, ()), ())))
  y25
  a0
  n
  (0 : Int))
  a0
  n
  (1 : Int)
  (0 : Int)))))))
 (cond (decide ((((List.length a0.2.2.2.2.2.2.2.1) : Nat) : Int) > (32 : Int)))
 (some (encRes ro_turnoutref15_Form rh_turnoutref15_Form ((false, ()), ())))
 (L_turnoutref15_Form_0 n
  (fun y27 => L_turnoutref15_Form_2 n
  (fun y28 => some (encRes ro_turnoutref15_Form rh_turnoutref15_Form ((y28, ()), ())))
  (fun _ => some (encRes ro_turnoutref15_Form rh_turnoutref15_Form ((true, ()), ())))
  y27
  a0
  n
  (0 : Int))
  a0
  n
  (1 : Int)
  (0 : Int))))))
 (cond (a0.2.2.2.2.2.2.1 != (0 : Int))
 (cond (decide (a0.2.2.2.2.2.2.1 < (1 : Int)))
 (some (encRes ro_turnoutref15_Form rh_turnoutref15_Form ((false, ()), ())))
 (cond (decide (a0.2.2.2.2.2.2.1 > (32 : Int)))
 (some (encRes ro_turnoutref15_Form rh_turnoutref15_Form ((false, ()), ())))
 (cond (decide (a0.2.2.2.2.2.1 < (0 : Int)))
 (some (encRes ro_turnoutref15_Form rh_turnoutref15_Form ((false, ()), ())))
 (cond (decide (a0.2.2.2.2.2.1 > (2048 : Int)))
 (some (encRes ro_turnoutref15_Form rh_turnoutref15_Form ((false, ()), ())))
 (cond (decide ((((List.length a0.2.2.2.2.2.2.2.1) : Nat) : Int) > (32 : Int)))
 (some (encRes ro_turnoutref15_Form rh_turnoutref15_Form ((false, ()), ())))
 (L_turnoutref15_Form_0 n
  (fun y29 => L_turnoutref15_Form_2 n
  (fun y30 => some (encRes ro_turnoutref15_Form rh_turnoutref15_Form ((y30, ()), ())))
  (fun _ => some (encRes ro_turnoutref15_Form rh_turnoutref15_Form ((true, ()), ())))
  y29
  a0
  n
  (0 : Int))
  a0
  n
  (1 : Int)
  (0 : Int)))))))
 (cond (decide ((((List.length a0.2.2.2.2.2.2.2.1) : Nat) : Int) > (32 : Int)))
 (some (encRes ro_turnoutref15_Form rh_turnoutref15_Form ((false, ()), ())))
 (L_turnoutref15_Form_0 n
  (fun y31 => L_turnoutref15_Form_2 n
  (fun y32 => some (encRes ro_turnoutref15_Form rh_turnoutref15_Form ((y32, ()), ())))
  (fun _ => some (encRes ro_turnoutref15_Form rh_turnoutref15_Form ((true, ()), ())))
  y31
  a0
  n
  (0 : Int))
  a0
  n
  (1 : Int)
  (0 : Int))))))))))))
noncomputable def Q_turnoutref15_Form (a0 : NodeS) : Option (RS ro_turnoutref15_Form rh_turnoutref15_Form) := decRes ro_turnoutref15_Form rh_turnoutref15_Form (M_turnoutref15_Form FUEL a0)
noncomputable def ok_turnoutref15_Form (a0 : NodeS) : Bool := (Q_turnoutref15_Form a0).isSome
noncomputable def q_turnoutref15_Form (a0 : NodeS) : RS ro_turnoutref15_Form rh_turnoutref15_Form := RS.get (Q_turnoutref15_Form a0)
/-! ### turnoutlaw15_GraphForms -/
abbrev ro_turnoutlaw15_GraphForms : List EK := [.ty .bool]
abbrev rh_turnoutlaw15_GraphForms : List HK := []
noncomputable def M_turnoutlaw15_GraphForms (n : Nat) (a0 : NodeS) : Option Res :=
 let y1 : ((Bool × Unit) × Unit) := (q_turnoutlaw15_Long ([a0]))
 cond (ok_turnoutlaw15_Long ([a0]))
 (cond y1.1.1
 (let y2 : ((Bool × Unit) × Unit) := q_turnoutlaw15_awake
 cond ok_turnoutlaw15_awake
 (some (encRes ro_turnoutlaw15_GraphForms rh_turnoutlaw15_GraphForms ((y2.1.1, ()), ())))
 (none))
 (let y3 : ((Bool × Unit) × Unit) := (q_graph_Form a0)
 cond (ok_graph_Form a0)
 (let y4 : ((Bool × Unit) × Unit) := (q_turnoutref15_Form a0)
 cond (ok_turnoutref15_Form a0)
 (cond (y3.1.1 == y4.1.1)
 (let y5 : ((Bool × Unit) × Unit) := q_turnoutlaw15_awake
 cond ok_turnoutlaw15_awake
 (some (encRes ro_turnoutlaw15_GraphForms rh_turnoutlaw15_GraphForms ((y5.1.1, ()), ())))
 (none))
 (some (encRes ro_turnoutlaw15_GraphForms rh_turnoutlaw15_GraphForms ((false, ()), ()))))
 (none))
 (none)))
 (none)
noncomputable def Q_turnoutlaw15_GraphForms (a0 : NodeS) : Option (RS ro_turnoutlaw15_GraphForms rh_turnoutlaw15_GraphForms) := decRes ro_turnoutlaw15_GraphForms rh_turnoutlaw15_GraphForms (M_turnoutlaw15_GraphForms FUEL a0)
noncomputable def ok_turnoutlaw15_GraphForms (a0 : NodeS) : Bool := (Q_turnoutlaw15_GraphForms a0).isSome
noncomputable def q_turnoutlaw15_GraphForms (a0 : NodeS) : RS ro_turnoutlaw15_GraphForms rh_turnoutlaw15_GraphForms := RS.get (Q_turnoutlaw15_GraphForms a0)
/-! ### turnoutref15_Goes -/
abbrev ro_turnoutref15_Goes : List EK := [.hs 0 0]
abbrev rh_turnoutref15_Goes : List HK := [.row (.int .i64)]
noncomputable def F_turnoutref15_Goes_0 (n : Nat) (k_t0 : Nat → (List Int) → Option Res) (x0_2 : NodeS) (rec : Nat → Int → (List Int) → Option Res) (x0_0 : Nat) (x0_1 : Int) (x0_3 : (List Int)) : Option Res :=
 cond (decide (x0_1 < (((List.length x0_2.2.2.2.2.2.2.2.1) : Nat) : Int)))
 (cond (decide ((0 : Int) ≤ x0_1 ∧ x0_1 < (((List.length x0_2.2.2.2.2.2.2.2.1) : Nat) : Int)))
 (cond (decide (((List.length (cutL (0 : Int) x0_3 0 x0_0)) + 1) * 8 ≤ 2 ^ 46 ∧ ((List.length (cutL (0 : Int) x0_3 0 x0_0)) + 1) ≤ 2 ^ 46))
 (rec ((List.length (cutL (0 : Int) x0_3 0 x0_0)) + 1) (IntKind.wrap .i64 (x0_1 + (1 : Int))) ((cutL (0 : Int) x0_3 0 x0_0) ++ [(rdd zArmS x0_2.2.2.2.2.2.2.2.1 (Int.toNat x0_1)).2.1]))
 (none))
 (none))
 (k_t0 x0_0 x0_3)
noncomputable def L_turnoutref15_Goes_0 (n : Nat) (k_t0 : Nat → (List Int) → Option Res) (x0_2 : NodeS) : Nat → Nat → Int → (List Int) → Option Res
  | 0, _, _, _ => none
  | m + 1, x0_0, x0_1, x0_3 => F_turnoutref15_Goes_0 n k_t0 x0_2 (L_turnoutref15_Goes_0 n k_t0 x0_2 m) x0_0 x0_1 x0_3
noncomputable def M_turnoutref15_Goes (n : Nat) (a0 : NodeS) : Option Res :=
 L_turnoutref15_Goes_0 n
  (fun y1 y2 => cond (decide (((List.length (cutL (0 : Int) y2 0 y1)) + 1) * 8 ≤ 2 ^ 46 ∧ ((List.length (cutL (0 : Int) y2 0 y1)) + 1) ≤ 2 ^ 46))
 (some (encRes ro_turnoutref15_Goes rh_turnoutref15_Goes ((((List.length (cutL (0 : Int) y2 0 y1)) + 1), ()), (((cutL (0 : Int) y2 0 y1) ++ [a0.2.2.2.2.2.2.2.2.1]), ()))))
 (none))
  a0
  n
  0
  (0 : Int)
  ([])
noncomputable def Q_turnoutref15_Goes (a0 : NodeS) : Option (RS ro_turnoutref15_Goes rh_turnoutref15_Goes) := decRes ro_turnoutref15_Goes rh_turnoutref15_Goes (M_turnoutref15_Goes FUEL a0)
noncomputable def ok_turnoutref15_Goes (a0 : NodeS) : Bool := (Q_turnoutref15_Goes a0).isSome
noncomputable def q_turnoutref15_Goes (a0 : NodeS) : RS ro_turnoutref15_Goes rh_turnoutref15_Goes := RS.get (Q_turnoutref15_Goes a0)
/-! ### turnoutlaw15_way -/
abbrev ro_turnoutlaw15_way : List EK := [.ty (.int .i64), .ty (.int .i64)]
abbrev rh_turnoutlaw15_way : List HK := []
noncomputable def F_turnoutlaw15_way_2 (n : Nat) (k_r : Int → Option Res) (k_t2 : Unit → Option Res) (x2_0 : (List NodeS)) (x2_1 : (List Int)) (x2_2 : Nat) (x2_3 : Int) (x2_4 : Int) (x2_6 : (List Int)) (x2_7 : NodeS) (rec : Int → Option Res) (x2_5 : Int) : Option Res :=
 cond (decide (x2_5 < ((x2_2 : Nat) : Int)))
 (cond (decide ((0 : Int) ≤ x2_5 ∧ x2_5 < ((x2_2 : Nat) : Int)))
 (cond ((rdd (0 : Int) x2_6 (Int.toNat x2_5)) == x2_3)
 (k_r (-1 : Int))
 (rec (IntKind.wrap .i64 (x2_5 + (1 : Int)))))
 (none))
 (k_t2 ())
noncomputable def L_turnoutlaw15_way_2 (n : Nat) (k_r : Int → Option Res) (k_t2 : Unit → Option Res) (x2_0 : (List NodeS)) (x2_1 : (List Int)) (x2_2 : Nat) (x2_3 : Int) (x2_4 : Int) (x2_6 : (List Int)) (x2_7 : NodeS) : Nat → Int → Option Res
  | 0, _ => none
  | m + 1, x2_5 => F_turnoutlaw15_way_2 n k_r k_t2 x2_0 x2_1 x2_2 x2_3 x2_4 x2_6 x2_7 (L_turnoutlaw15_way_2 n k_r k_t2 x2_0 x2_1 x2_2 x2_3 x2_4 x2_6 x2_7 m) x2_5
noncomputable def F_turnoutlaw15_way_0 (n : Nat) (k_r : Int → Int → Option Res) (k_t0 : Int → Option Res) (x0_0 : (List NodeS)) (x0_1 : (List Int)) (rec : Nat → Int → Int → (List Int) → Option Res) (x0_2 : Nat) (x0_3 : Int) (x0_4 : Int) (x0_5 : (List Int)) : Option Res :=
 cond (decide (x0_4 ≤ (((List.length x0_0) : Nat) : Int)))
 (let y1 : ((NodeS × (Bool × Unit)) × Unit) := (q_graph_Find x0_0 x0_3)
 cond (ok_graph_Find x0_0 x0_3)
 (cond (!y1.1.2.1)
 (k_r x0_4 x0_3)
 (L_turnoutlaw15_way_2 n
  (fun y2 => k_r y2 x0_3)
  (fun _ => cond (decide (((List.length (cutL (0 : Int) x0_5 0 x0_2)) + 1) * 8 ≤ 2 ^ 46 ∧ ((List.length (cutL (0 : Int) x0_5 0 x0_2)) + 1) ≤ 2 ^ 46))
 (let y3 : ((Nat × Unit) × ((List Int) × Unit)) := (q_turnoutref15_Goes y1.1.1)
 cond (ok_turnoutref15_Goes y1.1.1)
 (cond (decide (x0_4 < (((List.length x0_1) : Nat) : Int)))
 (cond (decide ((0 : Int) ≤ x0_4 ∧ x0_4 < (((List.length x0_1) : Nat) : Int)))
 (cond (((y3.1.1 : Nat) : Int) != 0)
 (let y4 : Int := (Int.tmod (IntKind.wrap .i64 (rdd (0 : Int) x0_1 (Int.toNat x0_4))) ((y3.1.1 : Nat) : Int))
 cond (decide ((0 : Int) ≤ y4 ∧ y4 < ((y3.1.1 : Nat) : Int)))
 (rec ((List.length (cutL (0 : Int) x0_5 0 x0_2)) + 1) (rdd (0 : Int) y3.2.1 (Int.toNat y4)) (IntKind.wrap .i64 (x0_4 + (1 : Int))) ((cutL (0 : Int) x0_5 0 x0_2) ++ [x0_3]))
 (none))
 (none))
 (none))
 (cond (((y3.1.1 : Nat) : Int) != 0)
 (cond (decide ((0 : Int) ≤ (Int.tmod (0 : Int) ((y3.1.1 : Nat) : Int)) ∧ (Int.tmod (0 : Int) ((y3.1.1 : Nat) : Int)) < ((y3.1.1 : Nat) : Int)))
 (rec ((List.length (cutL (0 : Int) x0_5 0 x0_2)) + 1) (rdd (0 : Int) y3.2.1 (Int.toNat (Int.tmod (0 : Int) ((y3.1.1 : Nat) : Int)))) (IntKind.wrap .i64 (x0_4 + (1 : Int))) ((cutL (0 : Int) x0_5 0 x0_2) ++ [x0_3]))
 (none))
 (none)))
 (none))
 (none))
  x0_0
  x0_1
  x0_2
  x0_3
  x0_4
  x0_5
  y1.1.1
  n
  (0 : Int)))
 (none))
 (k_t0 x0_3)
noncomputable def L_turnoutlaw15_way_0 (n : Nat) (k_r : Int → Int → Option Res) (k_t0 : Int → Option Res) (x0_0 : (List NodeS)) (x0_1 : (List Int)) : Nat → Nat → Int → Int → (List Int) → Option Res
  | 0, _, _, _, _ => none
  | m + 1, x0_2, x0_3, x0_4, x0_5 => F_turnoutlaw15_way_0 n k_r k_t0 x0_0 x0_1 (L_turnoutlaw15_way_0 n k_r k_t0 x0_0 x0_1 m) x0_2 x0_3 x0_4 x0_5
noncomputable def M_turnoutlaw15_way (n : Nat) (a0 : (List NodeS)) (a1 : (List Int)) : Option Res :=
 L_turnoutlaw15_way_0 n
  (fun y5 y6 => some (encRes ro_turnoutlaw15_way rh_turnoutlaw15_way ((y5, (y6, ())), ())))
  (fun y7 => some (encRes ro_turnoutlaw15_way rh_turnoutlaw15_way (((-1 : Int), (y7, ())), ())))
  a0
  a1
  n
  0
  (1 : Int)
  (0 : Int)
  ([])
noncomputable def Q_turnoutlaw15_way (a0 : (List NodeS)) (a1 : (List Int)) : Option (RS ro_turnoutlaw15_way rh_turnoutlaw15_way) := decRes ro_turnoutlaw15_way rh_turnoutlaw15_way (M_turnoutlaw15_way FUEL a0 a1)
noncomputable def ok_turnoutlaw15_way (a0 : (List NodeS)) (a1 : (List Int)) : Bool := (Q_turnoutlaw15_way a0 a1).isSome
noncomputable def q_turnoutlaw15_way (a0 : (List NodeS)) (a1 : (List Int)) : RS ro_turnoutlaw15_way rh_turnoutlaw15_way := RS.get (Q_turnoutlaw15_way a0 a1)
/-! ### turnoutlaw15_turned -/
abbrev ro_turnoutlaw15_turned : List EK := [.ty (.int .i64)]
abbrev rh_turnoutlaw15_turned : List HK := []
noncomputable def M_turnoutlaw15_turned (n : Nat) (a0 : Int) (a1 : Int) : Option Res :=
 cond (a0 == (1 : Int))
 (some (encRes ro_turnoutlaw15_turned rh_turnoutlaw15_turned ((a1, ()), ())))
 (cond (a0 == a1)
 (some (encRes ro_turnoutlaw15_turned rh_turnoutlaw15_turned (((1 : Int), ()), ())))
 (some (encRes ro_turnoutlaw15_turned rh_turnoutlaw15_turned ((a0, ()), ()))))
noncomputable def Q_turnoutlaw15_turned (a0 : Int) (a1 : Int) : Option (RS ro_turnoutlaw15_turned rh_turnoutlaw15_turned) := decRes ro_turnoutlaw15_turned rh_turnoutlaw15_turned (M_turnoutlaw15_turned FUEL a0 a1)
noncomputable def ok_turnoutlaw15_turned (a0 : Int) (a1 : Int) : Bool := (Q_turnoutlaw15_turned a0 a1).isSome
noncomputable def q_turnoutlaw15_turned (a0 : Int) (a1 : Int) : RS ro_turnoutlaw15_turned rh_turnoutlaw15_turned := RS.get (Q_turnoutlaw15_turned a0 a1)
/-! ### turnoutlaw15_from -/
abbrev ro_turnoutlaw15_from : List EK := [.ty (.int .i64)]
abbrev rh_turnoutlaw15_from : List HK := []
noncomputable def F_turnoutlaw15_from_2 (n : Nat) (k_t2 : (List ArmS) → Option Res) (x2_0 : (List NodeS)) (x2_1 : Int) (x2_2 : Nat) (x2_3 : Int) (x2_5 : (List NodeS)) (x2_6 : Int) (x2_7 : Int) (x2_8 : Int) (x2_9 : Int) (x2_10 : Int) (x2_11 : Int) (x2_12 : Int) (x2_13 : Nat) (x2_14 : Int) (rec : Int → (List ArmS) → Option Res) (x2_4 : Int) (x2_15 : (List ArmS)) : Option Res :=
 cond (decide (x2_4 < ((x2_13 : Nat) : Int)))
 (cond (decide ((0 : Int) ≤ x2_4 ∧ x2_4 < ((x2_13 : Nat) : Int)))
 (let y4 : ((Int × Unit) × Unit) := (q_turnoutlaw15_turned ((rdd zArmS x2_15 (Int.toNat x2_4)).2.1) x2_1)
 cond (ok_turnoutlaw15_turned ((rdd zArmS x2_15 (Int.toNat x2_4)).2.1) x2_1)
 (cond (decide ((0 : Int) ≤ x2_4 ∧ x2_4 < ((x2_13 : Nat) : Int)))
 (rec (IntKind.wrap .i64 (x2_4 + (1 : Int))) (List.set x2_15 (Int.toNat x2_4) ((rdd zArmS x2_15 (Int.toNat x2_4)).1, (y4.1.1, ()))))
 (none))
 (none))
 (none))
 (k_t2 x2_15)
noncomputable def L_turnoutlaw15_from_2 (n : Nat) (k_t2 : (List ArmS) → Option Res) (x2_0 : (List NodeS)) (x2_1 : Int) (x2_2 : Nat) (x2_3 : Int) (x2_5 : (List NodeS)) (x2_6 : Int) (x2_7 : Int) (x2_8 : Int) (x2_9 : Int) (x2_10 : Int) (x2_11 : Int) (x2_12 : Int) (x2_13 : Nat) (x2_14 : Int) : Nat → Int → (List ArmS) → Option Res
  | 0, _, _ => none
  | m + 1, x2_4, x2_15 => F_turnoutlaw15_from_2 n k_t2 x2_0 x2_1 x2_2 x2_3 x2_5 x2_6 x2_7 x2_8 x2_9 x2_10 x2_11 x2_12 x2_13 x2_14 (L_turnoutlaw15_from_2 n k_t2 x2_0 x2_1 x2_2 x2_3 x2_5 x2_6 x2_7 x2_8 x2_9 x2_10 x2_11 x2_12 x2_13 x2_14 m) x2_4 x2_15
noncomputable def F_turnoutlaw15_from_4 (n : Nat) (k_t4 : Int → Option Res) (x4_0 : (List NodeS)) (x4_1 : Int) (x4_2 : Nat) (x4_3 : Int) (x4_5 : (List NodeS)) (x4_6 : Int) (x4_7 : Int) (x4_8 : Int) (x4_9 : Int) (x4_10 : Int) (x4_11 : Int) (x4_12 : Int) (x4_13 : Nat) (x4_14 : Int) (x4_15 : (List ArmS)) (rec : Int → Option Res) (x4_4 : Int) : Option Res :=
 cond (decide (x4_4 < ((x4_2 : Nat) : Int)))
 (cond (decide ((0 : Int) ≤ x4_4 ∧ x4_4 < ((x4_2 : Nat) : Int)))
 (cond (decide ((rdd zNodeS x4_5 (Int.toNat x4_4)).1 < x4_6))
 (rec (IntKind.wrap .i64 (x4_4 + (1 : Int))))
 (k_t4 x4_4))
 (none))
 (k_t4 x4_4)
noncomputable def L_turnoutlaw15_from_4 (n : Nat) (k_t4 : Int → Option Res) (x4_0 : (List NodeS)) (x4_1 : Int) (x4_2 : Nat) (x4_3 : Int) (x4_5 : (List NodeS)) (x4_6 : Int) (x4_7 : Int) (x4_8 : Int) (x4_9 : Int) (x4_10 : Int) (x4_11 : Int) (x4_12 : Int) (x4_13 : Nat) (x4_14 : Int) (x4_15 : (List ArmS)) : Nat → Int → Option Res
  | 0, _ => none
  | m + 1, x4_4 => F_turnoutlaw15_from_4 n k_t4 x4_0 x4_1 x4_2 x4_3 x4_5 x4_6 x4_7 x4_8 x4_9 x4_10 x4_11 x4_12 x4_13 x4_14 x4_15 (L_turnoutlaw15_from_4 n k_t4 x4_0 x4_1 x4_2 x4_3 x4_5 x4_6 x4_7 x4_8 x4_9 x4_10 x4_11 x4_12 x4_13 x4_14 x4_15 m) x4_4
noncomputable def F_turnoutlaw15_from_0 (n : Nat) (k_t0 : Nat → (List NodeS) → Option Res) (x0_0 : (List NodeS)) (x0_1 : Int) (rec : Nat → Int → (List NodeS) → Option Res) (x0_2 : Nat) (x0_3 : Int) (x0_4 : (List NodeS)) : Option Res :=
 cond (decide (x0_3 < (((List.length x0_0) : Nat) : Int)))
 (cond (decide ((0 : Int) ≤ x0_3 ∧ x0_3 < (((List.length x0_0) : Nat) : Int)))
 (let y2 : ((Int × Unit) × Unit) := (q_turnoutlaw15_turned ((rdd zNodeS x0_0 (Int.toNat x0_3)).1) x0_1)
 cond (ok_turnoutlaw15_turned ((rdd zNodeS x0_0 (Int.toNat x0_3)).1) x0_1)
 (let y3 : ((Int × Unit) × Unit) := (q_turnoutlaw15_turned ((rdd zNodeS x0_0 (Int.toNat x0_3)).2.2.2.2.2.2.2.2.1) x0_1)
 cond (ok_turnoutlaw15_turned ((rdd zNodeS x0_0 (Int.toNat x0_3)).2.2.2.2.2.2.2.2.1) x0_1)
 (cond (decide ((0 + (List.length (rdd zNodeS x0_0 (Int.toNat x0_3)).2.2.2.2.2.2.2.1)) * 16 ≤ 2 ^ 46 ∧ (0 + (List.length (rdd zNodeS x0_0 (Int.toNat x0_3)).2.2.2.2.2.2.2.1)) ≤ 2 ^ 46))
 (L_turnoutlaw15_from_2 n
  (fun y5 => L_turnoutlaw15_from_4 n
  (fun y6 => cond (decide ((0 : Int) ≤ (0 : Int) ∧ (0 : Int) ≤ y6 ∧ y6 ≤ ((x0_2 : Nat) : Int) ∧ ((x0_2 : Nat) : Int) ≤ ((x0_2 : Nat) : Int)))
 (cond (decide ((0 + (List.length (cutL zNodeS x0_4 0 (Int.toNat y6 - Int.toNat (0 : Int))))) * 88 ≤ 2 ^ 46 ∧ (0 + (List.length (cutL zNodeS x0_4 0 (Int.toNat y6 - Int.toNat (0 : Int))))) ≤ 2 ^ 46))
 (cond (decide (((List.length (cutL zNodeS (cutL zNodeS x0_4 0 (Int.toNat y6 - Int.toNat (0 : Int))) 0 (0 + (List.length (cutL zNodeS x0_4 0 (Int.toNat y6 - Int.toNat (0 : Int))))))) + 1) * 88 ≤ 2 ^ 46 ∧ ((List.length (cutL zNodeS (cutL zNodeS x0_4 0 (Int.toNat y6 - Int.toNat (0 : Int))) 0 (0 + (List.length (cutL zNodeS x0_4 0 (Int.toNat y6 - Int.toNat (0 : Int))))))) + 1) ≤ 2 ^ 46))
 (cond (decide ((0 : Int) ≤ y6 ∧ y6 ≤ ((x0_2 : Nat) : Int) ∧ ((x0_2 : Nat) : Int) ≤ ((x0_2 : Nat) : Int) ∧ ((x0_2 : Nat) : Int) ≤ ((x0_2 : Nat) : Int)))
 (cond (decide ((((List.length (cutL zNodeS (cutL zNodeS x0_4 0 (Int.toNat y6 - Int.toNat (0 : Int))) 0 (0 + (List.length (cutL zNodeS x0_4 0 (Int.toNat y6 - Int.toNat (0 : Int))))))) + 1) + (List.length (cutL zNodeS x0_4 (0 + Int.toNat y6) (Int.toNat ((x0_2 : Nat) : Int) - Int.toNat y6)))) * 88 ≤ 2 ^ 46 ∧ (((List.length (cutL zNodeS (cutL zNodeS x0_4 0 (Int.toNat y6 - Int.toNat (0 : Int))) 0 (0 + (List.length (cutL zNodeS x0_4 0 (Int.toNat y6 - Int.toNat (0 : Int))))))) + 1) + (List.length (cutL zNodeS x0_4 (0 + Int.toNat y6) (Int.toNat ((x0_2 : Nat) : Int) - Int.toNat y6)))) ≤ 2 ^ 46))
 (rec (((List.length (cutL zNodeS (cutL zNodeS x0_4 0 (Int.toNat y6 - Int.toNat (0 : Int))) 0 (0 + (List.length (cutL zNodeS x0_4 0 (Int.toNat y6 - Int.toNat (0 : Int))))))) + 1) + (List.length (cutL zNodeS x0_4 (0 + Int.toNat y6) (Int.toNat ((x0_2 : Nat) : Int) - Int.toNat y6)))) (IntKind.wrap .i64 (x0_3 + (1 : Int))) ((mkL ((List.length (cutL zNodeS (cutL zNodeS x0_4 0 (Int.toNat y6 - Int.toNat (0 : Int))) 0 (0 + (List.length (cutL zNodeS x0_4 0 (Int.toNat y6 - Int.toNat (0 : Int))))))) + 1) (fun i => (if i < (List.length (cutL zNodeS (cutL zNodeS x0_4 0 (Int.toNat y6 - Int.toNat (0 : Int))) 0 (0 + (List.length (cutL zNodeS x0_4 0 (Int.toNat y6 - Int.toNat (0 : Int))))))) then (rdd zNodeS (cutL zNodeS (cutL zNodeS x0_4 0 (Int.toNat y6 - Int.toNat (0 : Int))) 0 (0 + (List.length (cutL zNodeS x0_4 0 (Int.toNat y6 - Int.toNat (0 : Int)))))) i) else (y2.1.1, (((rdd zNodeS x0_0 (Int.toNat x0_3)).2.1), (((rdd zNodeS x0_0 (Int.toNat x0_3)).2.2.1), (((rdd zNodeS x0_0 (Int.toNat x0_3)).2.2.2.1), (((rdd zNodeS x0_0 (Int.toNat x0_3)).2.2.2.2.1), (((rdd zNodeS x0_0 (Int.toNat x0_3)).2.2.2.2.2.1), (((rdd zNodeS x0_0 (Int.toNat x0_3)).2.2.2.2.2.2.1), ((cutL zArmS y5 0 (0 + (List.length (rdd zNodeS x0_0 (Int.toNat x0_3)).2.2.2.2.2.2.2.1))), (y3.1.1, ())))))))))))) ++ (cutL zNodeS x0_4 (0 + Int.toNat y6) (Int.toNat ((x0_2 : Nat) : Int) - Int.toNat y6))))
 (none))
 (none))
 (none))
 (none))
 (none))
  x0_0
  x0_1
  x0_2
  x0_3
  x0_4
  y2.1.1
  ((rdd zNodeS x0_0 (Int.toNat x0_3)).2.1)
  ((rdd zNodeS x0_0 (Int.toNat x0_3)).2.2.1)
  ((rdd zNodeS x0_0 (Int.toNat x0_3)).2.2.2.1)
  ((rdd zNodeS x0_0 (Int.toNat x0_3)).2.2.2.2.1)
  ((rdd zNodeS x0_0 (Int.toNat x0_3)).2.2.2.2.2.1)
  ((rdd zNodeS x0_0 (Int.toNat x0_3)).2.2.2.2.2.2.1)
  (0 + (List.length (rdd zNodeS x0_0 (Int.toNat x0_3)).2.2.2.2.2.2.2.1))
  y3.1.1
  y5
  n
  (0 : Int))
  x0_0
  x0_1
  x0_2
  x0_3
  x0_4
  y2.1.1
  ((rdd zNodeS x0_0 (Int.toNat x0_3)).2.1)
  ((rdd zNodeS x0_0 (Int.toNat x0_3)).2.2.1)
  ((rdd zNodeS x0_0 (Int.toNat x0_3)).2.2.2.1)
  ((rdd zNodeS x0_0 (Int.toNat x0_3)).2.2.2.2.1)
  ((rdd zNodeS x0_0 (Int.toNat x0_3)).2.2.2.2.2.1)
  ((rdd zNodeS x0_0 (Int.toNat x0_3)).2.2.2.2.2.2.1)
  (0 + (List.length (rdd zNodeS x0_0 (Int.toNat x0_3)).2.2.2.2.2.2.2.1))
  y3.1.1
  n
  (0 : Int)
  ((rdd zNodeS x0_0 (Int.toNat x0_3)).2.2.2.2.2.2.2.1))
 (none))
 (none))
 (none))
 (none))
 (k_t0 x0_2 x0_4)
noncomputable def L_turnoutlaw15_from_0 (n : Nat) (k_t0 : Nat → (List NodeS) → Option Res) (x0_0 : (List NodeS)) (x0_1 : Int) : Nat → Nat → Int → (List NodeS) → Option Res
  | 0, _, _, _ => none
  | m + 1, x0_2, x0_3, x0_4 => F_turnoutlaw15_from_0 n k_t0 x0_0 x0_1 (L_turnoutlaw15_from_0 n k_t0 x0_0 x0_1 m) x0_2 x0_3 x0_4
noncomputable def M_turnoutlaw15_from (n : Nat) (a0 : (List NodeS)) (a1 : Int) : Option Res :=
 let y1 : ((NodeS × (Bool × Unit)) × Unit) := (q_graph_Find a0 a1)
 cond (ok_graph_Find a0 a1)
 (cond (!y1.1.2.1)
 (some (encRes ro_turnoutlaw15_from rh_turnoutlaw15_from (((0 : Int), ()), ())))
 (L_turnoutlaw15_from_0 n
  (fun y7 y8 => let y9 : ((Int × Unit) × Unit) := (q_graph_Longest (cutL zNodeS y8 0 y7))
 cond (ok_graph_Longest (cutL zNodeS y8 0 y7))
 (some (encRes ro_turnoutlaw15_from rh_turnoutlaw15_from ((y9.1.1, ()), ())))
 (none))
  a0
  a1
  n
  0
  (0 : Int)
  ([])))
 (none)
noncomputable def Q_turnoutlaw15_from (a0 : (List NodeS)) (a1 : Int) : Option (RS ro_turnoutlaw15_from rh_turnoutlaw15_from) := decRes ro_turnoutlaw15_from rh_turnoutlaw15_from (M_turnoutlaw15_from FUEL a0 a1)
noncomputable def ok_turnoutlaw15_from (a0 : (List NodeS)) (a1 : Int) : Bool := (Q_turnoutlaw15_from a0 a1).isSome
noncomputable def q_turnoutlaw15_from (a0 : (List NodeS)) (a1 : Int) : RS ro_turnoutlaw15_from rh_turnoutlaw15_from := RS.get (Q_turnoutlaw15_from a0 a1)
/-! ### turnoutlaw15_GraphLongest -/
abbrev ro_turnoutlaw15_GraphLongest : List EK := [.ty .bool]
abbrev rh_turnoutlaw15_GraphLongest : List HK := []
noncomputable def F_turnoutlaw15_GraphLongest_2 (n : Nat) (k_t2 : Int → Option Res) (x2_0 : (List NodeS)) (x2_1 : Int) (x2_3 : Int) (x2_4 : Nat) (x2_6 : (List Int)) (rec : Int → Int → Option Res) (x2_2 : Int) (x2_5 : Int) : Option Res :=
 cond (decide (x2_5 < ((x2_4 : Nat) : Int)))
 (cond (decide ((0 : Int) ≤ x2_5 ∧ x2_5 < ((x2_4 : Nat) : Int)))
 (let y13 : ((Int × Unit) × Unit) := (q_turnoutlaw15_from x2_0 (rdd (0 : Int) x2_6 (Int.toNat x2_5)))
 cond (ok_turnoutlaw15_from x2_0 (rdd (0 : Int) x2_6 (Int.toNat x2_5)))
 (cond (y13.1.1 == (IntKind.wrap .i64 (x2_3 - (1 : Int))))
 (cond (decide ((0 : Int) ≤ x2_5 ∧ x2_5 < ((x2_4 : Nat) : Int)))
 (rec (rdd (0 : Int) x2_6 (Int.toNat x2_5)) (IntKind.wrap .i64 (x2_5 + (1 : Int))))
 (none))
 (rec x2_2 (IntKind.wrap .i64 (x2_5 + (1 : Int)))))
 (none))
 (none))
 (k_t2 x2_2)
noncomputable def L_turnoutlaw15_GraphLongest_2 (n : Nat) (k_t2 : Int → Option Res) (x2_0 : (List NodeS)) (x2_1 : Int) (x2_3 : Int) (x2_4 : Nat) (x2_6 : (List Int)) : Nat → Int → Int → Option Res
  | 0, _, _ => none
  | m + 1, x2_2, x2_5 => F_turnoutlaw15_GraphLongest_2 n k_t2 x2_0 x2_1 x2_3 x2_4 x2_6 (L_turnoutlaw15_GraphLongest_2 n k_t2 x2_0 x2_1 x2_3 x2_4 x2_6 m) x2_2 x2_5
noncomputable def F_turnoutlaw15_GraphLongest_0 (n : Nat) (k_r : Bool → Option Res) (k_t0 : Int → Option Res) (x0_0 : (List NodeS)) (x0_1 : Int) (rec : Int → Int → Option Res) (x0_2 : Int) (x0_3 : Int) : Option Res :=
 cond (decide (x0_3 > (0 : Int)))
 (let y10 : ((NodeS × (Bool × Unit)) × Unit) := (q_graph_Find x0_0 x0_2)
 cond (ok_graph_Find x0_0 x0_2)
 (cond (!y10.1.2.1)
 (k_r false)
 (let y11 : ((Int × Unit) × Unit) := (q_turnoutlaw15_from x0_0 x0_2)
 cond (ok_turnoutlaw15_from x0_0 x0_2)
 (cond (y11.1.1 != x0_3)
 (k_r false)
 (let y12 : ((Nat × Unit) × ((List Int) × Unit)) := (q_turnoutref15_Goes y10.1.1)
 cond (ok_turnoutref15_Goes y10.1.1)
 (L_turnoutlaw15_GraphLongest_2 n
  (fun y14 => rec y14 (IntKind.wrap .i64 (x0_3 - (1 : Int))))
  x0_0
  x0_1
  x0_3
  y12.1.1
  y12.2.1
  n
  x0_2
  (0 : Int))
 (none)))
 (none)))
 (none))
 (k_t0 x0_2)
noncomputable def L_turnoutlaw15_GraphLongest_0 (n : Nat) (k_r : Bool → Option Res) (k_t0 : Int → Option Res) (x0_0 : (List NodeS)) (x0_1 : Int) : Nat → Int → Int → Option Res
  | 0, _, _ => none
  | m + 1, x0_2, x0_3 => F_turnoutlaw15_GraphLongest_0 n k_r k_t0 x0_0 x0_1 (L_turnoutlaw15_GraphLongest_0 n k_r k_t0 x0_0 x0_1 m) x0_2 x0_3
noncomputable def M_turnoutlaw15_GraphLongest (n : Nat) (a0 : (List NodeS)) (a1 : (List Int)) : Option Res :=
 let y1 : ((Bool × Unit) × Unit) := (q_turnoutlaw15_Long a0)
 cond (ok_turnoutlaw15_Long a0)
 (cond y1.1.1
 (let y2 : ((Bool × Unit) × Unit) := q_turnoutlaw15_awake
 cond ok_turnoutlaw15_awake
 (some (encRes ro_turnoutlaw15_GraphLongest rh_turnoutlaw15_GraphLongest ((y2.1.1, ()), ())))
 (none))
 (cond (decide ((((List.length a1) : Nat) : Int) > (100 : Int)))
 (let y3 : ((Bool × Unit) × Unit) := q_turnoutlaw15_awake
 cond ok_turnoutlaw15_awake
 (some (encRes ro_turnoutlaw15_GraphLongest rh_turnoutlaw15_GraphLongest ((y3.1.1, ()), ())))
 (none))
 (let y4 : ((Bool × Unit) × Unit) := q_turnoutlaw15_awake
 cond ok_turnoutlaw15_awake
 (cond (!y4.1.1)
 (let y5 : ((Bool × Unit) × Unit) := q_turnoutlaw15_awake
 cond ok_turnoutlaw15_awake
 (some (encRes ro_turnoutlaw15_GraphLongest rh_turnoutlaw15_GraphLongest ((y5.1.1, ()), ())))
 (none))
 (let y6 : ((Int × Unit) × Unit) := (q_graph_May a0)
 cond (ok_graph_May a0)
 (cond (y6.1.1 != (0 : Int))
 (let y7 : ((Int × Unit) × Unit) := (q_graph_Longest a0)
 cond (ok_graph_Longest a0)
 (some (encRes ro_turnoutlaw15_GraphLongest rh_turnoutlaw15_GraphLongest (((y7.1.1 == (0 : Int)), ()), ())))
 (none))
 (let y8 : ((Int × (Int × Unit)) × Unit) := (q_turnoutlaw15_way a0 a1)
 cond (ok_turnoutlaw15_way a0 a1)
 (let y9 : ((Int × Unit) × Unit) := (q_graph_Longest a0)
 cond (ok_graph_Longest a0)
 (cond (decide (y8.1.1 < (0 : Int)))
 (some (encRes ro_turnoutlaw15_GraphLongest rh_turnoutlaw15_GraphLongest ((false, ()), ())))
 (cond (decide (y8.1.1 > y9.1.1))
 (some (encRes ro_turnoutlaw15_GraphLongest rh_turnoutlaw15_GraphLongest ((false, ()), ())))
 (L_turnoutlaw15_GraphLongest_0 n
  (fun y15 => some (encRes ro_turnoutlaw15_GraphLongest rh_turnoutlaw15_GraphLongest ((y15, ()), ())))
  (fun y16 => let y17 : ((Int × Unit) × Unit) := (q_turnoutlaw15_from a0 y16)
 cond (ok_turnoutlaw15_from a0 y16)
 (cond (y17.1.1 == (0 : Int))
 (some (encRes ro_turnoutlaw15_GraphLongest rh_turnoutlaw15_GraphLongest ((true, ()), ())))
 (some (encRes ro_turnoutlaw15_GraphLongest rh_turnoutlaw15_GraphLongest (((y9.1.1 == (0 : Int)), ()), ()))))
 (none))
  a0
  y9.1.1
  n
  (1 : Int)
  y9.1.1)))
 (none))
 (none)))
 (none)))
 (none))))
 (none)
noncomputable def Q_turnoutlaw15_GraphLongest (a0 : (List NodeS)) (a1 : (List Int)) : Option (RS ro_turnoutlaw15_GraphLongest rh_turnoutlaw15_GraphLongest) := decRes ro_turnoutlaw15_GraphLongest rh_turnoutlaw15_GraphLongest (M_turnoutlaw15_GraphLongest FUEL a0 a1)
noncomputable def ok_turnoutlaw15_GraphLongest (a0 : (List NodeS)) (a1 : (List Int)) : Bool := (Q_turnoutlaw15_GraphLongest a0 a1).isSome
noncomputable def q_turnoutlaw15_GraphLongest (a0 : (List NodeS)) (a1 : (List Int)) : RS ro_turnoutlaw15_GraphLongest rh_turnoutlaw15_GraphLongest := RS.get (Q_turnoutlaw15_GraphLongest a0 a1)
/-! ### turnoutlaw15_GraphEnds -/
abbrev ro_turnoutlaw15_GraphEnds : List EK := [.ty .bool]
abbrev rh_turnoutlaw15_GraphEnds : List HK := []
noncomputable def F_turnoutlaw15_GraphEnds_2 (n : Nat) (k_t2 : Int → Option Res) (x2_0 : (List NodeS)) (x2_1 : (List Int)) (x2_2 : Int) (rec : Int → Int → Option Res) (x2_3 : Int) (x2_4 : Int) : Option Res :=
 cond (decide (x2_4 < (((List.length x2_0) : Nat) : Int)))
 (cond (x2_3 != (0 : Int))
 (cond (x2_3 != (65535 : Int))
 (cond (decide (x2_4 < (((List.length x2_1) : Nat) : Int)))
 (cond (decide ((0 : Int) ≤ x2_4 ∧ x2_4 < (((List.length x2_1) : Nat) : Int)))
 (let y9 : ((Int × Unit) × Unit) := (q_graph_Next x2_0 x2_3 (rdd (0 : Int) x2_1 (Int.toNat x2_4)))
 cond (ok_graph_Next x2_0 x2_3 (rdd (0 : Int) x2_1 (Int.toNat x2_4)))
 (rec y9.1.1 (IntKind.wrap .i64 (x2_4 + (1 : Int))))
 (none))
 (none))
 (let y10 : ((Int × Unit) × Unit) := (q_graph_Next x2_0 x2_3 (0 : Int))
 cond (ok_graph_Next x2_0 x2_3 (0 : Int))
 (rec y10.1.1 (IntKind.wrap .i64 (x2_4 + (1 : Int))))
 (none)))
 (k_t2 x2_3))
 (k_t2 x2_3))
 (k_t2 x2_3)
noncomputable def L_turnoutlaw15_GraphEnds_2 (n : Nat) (k_t2 : Int → Option Res) (x2_0 : (List NodeS)) (x2_1 : (List Int)) (x2_2 : Int) : Nat → Int → Int → Option Res
  | 0, _, _ => none
  | m + 1, x2_3, x2_4 => F_turnoutlaw15_GraphEnds_2 n k_t2 x2_0 x2_1 x2_2 (L_turnoutlaw15_GraphEnds_2 n k_t2 x2_0 x2_1 x2_2 m) x2_3 x2_4
noncomputable def F_turnoutlaw15_GraphEnds_0 (n : Nat) (k_r : Bool → Option Res) (k_t0 : Unit → Option Res) (x0_0 : (List NodeS)) (x0_1 : (List Int)) (rec : Int → Option Res) (x0_2 : Int) : Option Res :=
 cond (decide (x0_2 < (((List.length x0_0) : Nat) : Int)))
 (cond (decide ((0 : Int) ≤ x0_2 ∧ x0_2 < (((List.length x0_0) : Nat) : Int)))
 (L_turnoutlaw15_GraphEnds_2 n
  (fun y11 => cond (y11 != (0 : Int))
 (cond (y11 != (65535 : Int))
 (k_r false)
 (rec (IntKind.wrap .i64 (x0_2 + (1 : Int)))))
 (rec (IntKind.wrap .i64 (x0_2 + (1 : Int)))))
  x0_0
  x0_1
  x0_2
  n
  ((rdd zNodeS x0_0 (Int.toNat x0_2)).1)
  (0 : Int))
 (none))
 (k_t0 ())
noncomputable def L_turnoutlaw15_GraphEnds_0 (n : Nat) (k_r : Bool → Option Res) (k_t0 : Unit → Option Res) (x0_0 : (List NodeS)) (x0_1 : (List Int)) : Nat → Int → Option Res
  | 0, _ => none
  | m + 1, x0_2 => F_turnoutlaw15_GraphEnds_0 n k_r k_t0 x0_0 x0_1 (L_turnoutlaw15_GraphEnds_0 n k_r k_t0 x0_0 x0_1 m) x0_2
noncomputable def M_turnoutlaw15_GraphEnds (n : Nat) (a0 : (List NodeS)) (a1 : (List Int)) (a2 : (List Int)) : Option Res :=
 let y1 : ((Bool × Unit) × Unit) := (q_turnoutlaw15_Long a0)
 cond (ok_turnoutlaw15_Long a0)
 (cond y1.1.1
 (let y2 : ((Bool × Unit) × Unit) := q_turnoutlaw15_awake
 cond ok_turnoutlaw15_awake
 (some (encRes ro_turnoutlaw15_GraphEnds rh_turnoutlaw15_GraphEnds ((y2.1.1, ()), ())))
 (none))
 (cond (decide ((((List.length a1) : Nat) : Int) > (100 : Int)))
 (let y3 : ((Bool × Unit) × Unit) := q_turnoutlaw15_awake
 cond ok_turnoutlaw15_awake
 (some (encRes ro_turnoutlaw15_GraphEnds rh_turnoutlaw15_GraphEnds ((y3.1.1, ()), ())))
 (none))
 (cond (decide ((((List.length a2) : Nat) : Int) > (100 : Int)))
 (let y4 : ((Bool × Unit) × Unit) := q_turnoutlaw15_awake
 cond ok_turnoutlaw15_awake
 (some (encRes ro_turnoutlaw15_GraphEnds rh_turnoutlaw15_GraphEnds ((y4.1.1, ()), ())))
 (none))
 (let y5 : ((Bool × Unit) × Unit) := q_turnoutlaw15_awake
 cond ok_turnoutlaw15_awake
 (cond (!y5.1.1)
 (let y6 : ((Bool × Unit) × Unit) := q_turnoutlaw15_awake
 cond ok_turnoutlaw15_awake
 (some (encRes ro_turnoutlaw15_GraphEnds rh_turnoutlaw15_GraphEnds ((y6.1.1, ()), ())))
 (none))
 (let y7 : ((Int × Unit) × Unit) := (q_graph_May a0)
 cond (ok_graph_May a0)
 (cond (y7.1.1 != (0 : Int))
 (some (encRes ro_turnoutlaw15_GraphEnds rh_turnoutlaw15_GraphEnds ((true, ()), ())))
 (let y8 : ((Int × (Int × Unit)) × Unit) := (q_turnoutlaw15_way a0 a1)
 cond (ok_turnoutlaw15_way a0 a1)
 (cond (decide (y8.1.1 < (0 : Int)))
 (some (encRes ro_turnoutlaw15_GraphEnds rh_turnoutlaw15_GraphEnds ((false, ()), ())))
 (cond (y8.1.2.1 != (0 : Int))
 (cond (y8.1.2.1 != (65535 : Int))
 (cond (y8.1.2.1 != (1 : Int))
 (some (encRes ro_turnoutlaw15_GraphEnds rh_turnoutlaw15_GraphEnds ((false, ()), ())))
 (L_turnoutlaw15_GraphEnds_0 n
  (fun y12 => some (encRes ro_turnoutlaw15_GraphEnds rh_turnoutlaw15_GraphEnds ((y12, ()), ())))
  (fun _ => some (encRes ro_turnoutlaw15_GraphEnds rh_turnoutlaw15_GraphEnds ((true, ()), ())))
  a0
  a2
  n
  (0 : Int)))
 (L_turnoutlaw15_GraphEnds_0 n
  (fun y13 => some (encRes ro_turnoutlaw15_GraphEnds rh_turnoutlaw15_GraphEnds ((y13, ()), ())))
  (fun _ => some (encRes ro_turnoutlaw15_GraphEnds rh_turnoutlaw15_GraphEnds ((true, ()), ())))
  a0
  a2
  n
  (0 : Int)))
 (L_turnoutlaw15_GraphEnds_0 n
  (fun y14 => some (encRes ro_turnoutlaw15_GraphEnds rh_turnoutlaw15_GraphEnds ((y14, ()), ())))
  (fun _ => some (encRes ro_turnoutlaw15_GraphEnds rh_turnoutlaw15_GraphEnds ((true, ()), ())))
  a0
  a2
  n
  (0 : Int))))
 (none)))
 (none)))
 (none)))))
 (none)
noncomputable def Q_turnoutlaw15_GraphEnds (a0 : (List NodeS)) (a1 : (List Int)) (a2 : (List Int)) : Option (RS ro_turnoutlaw15_GraphEnds rh_turnoutlaw15_GraphEnds) := decRes ro_turnoutlaw15_GraphEnds rh_turnoutlaw15_GraphEnds (M_turnoutlaw15_GraphEnds FUEL a0 a1 a2)
noncomputable def ok_turnoutlaw15_GraphEnds (a0 : (List NodeS)) (a1 : (List Int)) (a2 : (List Int)) : Bool := (Q_turnoutlaw15_GraphEnds a0 a1 a2).isSome
noncomputable def q_turnoutlaw15_GraphEnds (a0 : (List NodeS)) (a1 : (List Int)) (a2 : (List Int)) : RS ro_turnoutlaw15_GraphEnds rh_turnoutlaw15_GraphEnds := RS.get (Q_turnoutlaw15_GraphEnds a0 a1 a2)
/-! ### turnoutlaw15_without -/
abbrev ro_turnoutlaw15_without : List EK := [.hs 0 0]
abbrev rh_turnoutlaw15_without : List HK := [.row NodeT]
noncomputable def M_turnoutlaw15_without (n : Nat) (a0 : (List NodeS)) (a1 : Int) : Option Res :=
 cond (decide ((0 : Int) ≤ (0 : Int) ∧ (0 : Int) ≤ a1 ∧ a1 ≤ (((List.length a0) : Nat) : Int) ∧ (((List.length a0) : Nat) : Int) ≤ (((List.length a0) : Nat) : Int)))
 (cond (decide ((0 + (List.length (cutL zNodeS a0 (Int.toNat (0 : Int)) (Int.toNat a1 - Int.toNat (0 : Int))))) * 88 ≤ 2 ^ 46 ∧ (0 + (List.length (cutL zNodeS a0 (Int.toNat (0 : Int)) (Int.toNat a1 - Int.toNat (0 : Int))))) ≤ 2 ^ 46))
 (cond (decide ((0 : Int) ≤ (IntKind.wrap .i64 (a1 + (1 : Int))) ∧ (IntKind.wrap .i64 (a1 + (1 : Int))) ≤ (((List.length a0) : Nat) : Int) ∧ (((List.length a0) : Nat) : Int) ≤ (((List.length a0) : Nat) : Int) ∧ (((List.length a0) : Nat) : Int) ≤ (((List.length a0) : Nat) : Int)))
 (cond (decide (((List.length (cutL zNodeS (cutL zNodeS a0 (Int.toNat (0 : Int)) (Int.toNat a1 - Int.toNat (0 : Int))) 0 (0 + (List.length (cutL zNodeS a0 (Int.toNat (0 : Int)) (Int.toNat a1 - Int.toNat (0 : Int))))))) + (List.length (cutL zNodeS a0 (Int.toNat (IntKind.wrap .i64 (a1 + (1 : Int)))) (Int.toNat (((List.length a0) : Nat) : Int) - Int.toNat (IntKind.wrap .i64 (a1 + (1 : Int))))))) * 88 ≤ 2 ^ 46 ∧ ((List.length (cutL zNodeS (cutL zNodeS a0 (Int.toNat (0 : Int)) (Int.toNat a1 - Int.toNat (0 : Int))) 0 (0 + (List.length (cutL zNodeS a0 (Int.toNat (0 : Int)) (Int.toNat a1 - Int.toNat (0 : Int))))))) + (List.length (cutL zNodeS a0 (Int.toNat (IntKind.wrap .i64 (a1 + (1 : Int)))) (Int.toNat (((List.length a0) : Nat) : Int) - Int.toNat (IntKind.wrap .i64 (a1 + (1 : Int))))))) ≤ 2 ^ 46))
 (some (encRes ro_turnoutlaw15_without rh_turnoutlaw15_without ((((List.length (cutL zNodeS (cutL zNodeS a0 (Int.toNat (0 : Int)) (Int.toNat a1 - Int.toNat (0 : Int))) 0 (0 + (List.length (cutL zNodeS a0 (Int.toNat (0 : Int)) (Int.toNat a1 - Int.toNat (0 : Int))))))) + (List.length (cutL zNodeS a0 (Int.toNat (IntKind.wrap .i64 (a1 + (1 : Int)))) (Int.toNat (((List.length a0) : Nat) : Int) - Int.toNat (IntKind.wrap .i64 (a1 + (1 : Int))))))), ()), (((cutL zNodeS (cutL zNodeS a0 (Int.toNat (0 : Int)) (Int.toNat a1 - Int.toNat (0 : Int))) 0 (0 + (List.length (cutL zNodeS a0 (Int.toNat (0 : Int)) (Int.toNat a1 - Int.toNat (0 : Int)))))) ++ (cutL zNodeS a0 (Int.toNat (IntKind.wrap .i64 (a1 + (1 : Int)))) (Int.toNat (((List.length a0) : Nat) : Int) - Int.toNat (IntKind.wrap .i64 (a1 + (1 : Int)))))), ()))))
 (none))
 (none))
 (none))
 (none)
noncomputable def Q_turnoutlaw15_without (a0 : (List NodeS)) (a1 : Int) : Option (RS ro_turnoutlaw15_without rh_turnoutlaw15_without) := decRes ro_turnoutlaw15_without rh_turnoutlaw15_without (M_turnoutlaw15_without FUEL a0 a1)
noncomputable def ok_turnoutlaw15_without (a0 : (List NodeS)) (a1 : Int) : Bool := (Q_turnoutlaw15_without a0 a1).isSome
noncomputable def q_turnoutlaw15_without (a0 : (List NodeS)) (a1 : Int) : RS ro_turnoutlaw15_without rh_turnoutlaw15_without := RS.get (Q_turnoutlaw15_without a0 a1)
/-! ### turnoutlaw15_named -/
abbrev ro_turnoutlaw15_named : List EK := [.ty .bool]
abbrev rh_turnoutlaw15_named : List HK := []
noncomputable def F_turnoutlaw15_named_2 (n : Nat) (k_r : Bool → Option Res) (k_t2 : Unit → Option Res) (x2_0 : (List NodeS)) (x2_1 : Int) (x2_2 : Int) (x2_3 : Nat) (x2_5 : (List Int)) (rec : Int → Option Res) (x2_4 : Int) : Option Res :=
 cond (decide (x2_4 < ((x2_3 : Nat) : Int)))
 (cond (decide ((0 : Int) ≤ x2_4 ∧ x2_4 < ((x2_3 : Nat) : Int)))
 (cond ((rdd (0 : Int) x2_5 (Int.toNat x2_4)) == x2_1)
 (k_r true)
 (rec (IntKind.wrap .i64 (x2_4 + (1 : Int)))))
 (none))
 (k_t2 ())
noncomputable def L_turnoutlaw15_named_2 (n : Nat) (k_r : Bool → Option Res) (k_t2 : Unit → Option Res) (x2_0 : (List NodeS)) (x2_1 : Int) (x2_2 : Int) (x2_3 : Nat) (x2_5 : (List Int)) : Nat → Int → Option Res
  | 0, _ => none
  | m + 1, x2_4 => F_turnoutlaw15_named_2 n k_r k_t2 x2_0 x2_1 x2_2 x2_3 x2_5 (L_turnoutlaw15_named_2 n k_r k_t2 x2_0 x2_1 x2_2 x2_3 x2_5 m) x2_4
noncomputable def F_turnoutlaw15_named_0 (n : Nat) (k_r : Bool → Option Res) (k_t0 : Unit → Option Res) (x0_0 : (List NodeS)) (x0_1 : Int) (rec : Int → Option Res) (x0_2 : Int) : Option Res :=
 cond (decide (x0_2 < (((List.length x0_0) : Nat) : Int)))
 (cond (decide ((0 : Int) ≤ x0_2 ∧ x0_2 < (((List.length x0_0) : Nat) : Int)))
 (let y1 : ((Nat × Unit) × ((List Int) × Unit)) := (q_turnoutref15_Goes (rdd zNodeS x0_0 (Int.toNat x0_2)))
 cond (ok_turnoutref15_Goes (rdd zNodeS x0_0 (Int.toNat x0_2)))
 (L_turnoutlaw15_named_2 n
  (fun y2 => k_r y2)
  (fun _ => rec (IntKind.wrap .i64 (x0_2 + (1 : Int))))
  x0_0
  x0_1
  x0_2
  y1.1.1
  y1.2.1
  n
  (0 : Int))
 (none))
 (none))
 (k_t0 ())
noncomputable def L_turnoutlaw15_named_0 (n : Nat) (k_r : Bool → Option Res) (k_t0 : Unit → Option Res) (x0_0 : (List NodeS)) (x0_1 : Int) : Nat → Int → Option Res
  | 0, _ => none
  | m + 1, x0_2 => F_turnoutlaw15_named_0 n k_r k_t0 x0_0 x0_1 (L_turnoutlaw15_named_0 n k_r k_t0 x0_0 x0_1 m) x0_2
noncomputable def M_turnoutlaw15_named (n : Nat) (a0 : (List NodeS)) (a1 : Int) : Option Res :=
 L_turnoutlaw15_named_0 n
  (fun y3 => some (encRes ro_turnoutlaw15_named rh_turnoutlaw15_named ((y3, ()), ())))
  (fun _ => some (encRes ro_turnoutlaw15_named rh_turnoutlaw15_named ((false, ()), ())))
  a0
  a1
  n
  (0 : Int)
noncomputable def Q_turnoutlaw15_named (a0 : (List NodeS)) (a1 : Int) : Option (RS ro_turnoutlaw15_named rh_turnoutlaw15_named) := decRes ro_turnoutlaw15_named rh_turnoutlaw15_named (M_turnoutlaw15_named FUEL a0 a1)
noncomputable def ok_turnoutlaw15_named (a0 : (List NodeS)) (a1 : Int) : Bool := (Q_turnoutlaw15_named a0 a1).isSome
noncomputable def q_turnoutlaw15_named (a0 : (List NodeS)) (a1 : Int) : RS ro_turnoutlaw15_named rh_turnoutlaw15_named := RS.get (Q_turnoutlaw15_named a0 a1)
/-! ### turnoutlaw15_GraphLess -/
abbrev ro_turnoutlaw15_GraphLess : List EK := [.ty .bool]
abbrev rh_turnoutlaw15_GraphLess : List HK := []
noncomputable def F_turnoutlaw15_GraphLess_0 (n : Nat) (k_t0 : Int → Option Res) (x0_0 : (List NodeS)) (x0_1 : Nat) (x0_3 : Nat) (x0_5 : (List NodeS)) (x0_6 : (List Int)) (rec : Int → Int → Option Res) (x0_2 : Int) (x0_4 : Int) : Option Res :=
 cond (decide (x0_4 < ((x0_3 : Nat) : Int)))
 (cond (decide ((0 : Int) ≤ x0_4 ∧ x0_4 < ((x0_3 : Nat) : Int)))
 (let y16 : ((Int × Unit) × Unit) := (q_turnoutlaw15_from (cutL zNodeS x0_5 0 x0_1) (rdd (0 : Int) x0_6 (Int.toNat x0_4)))
 cond (ok_turnoutlaw15_from (cutL zNodeS x0_5 0 x0_1) (rdd (0 : Int) x0_6 (Int.toNat x0_4)))
 (rec (if y16.1.1 > x0_2 then y16.1.1 else x0_2) (IntKind.wrap .i64 (x0_4 + (1 : Int))))
 (none))
 (none))
 (k_t0 x0_2)
noncomputable def L_turnoutlaw15_GraphLess_0 (n : Nat) (k_t0 : Int → Option Res) (x0_0 : (List NodeS)) (x0_1 : Nat) (x0_3 : Nat) (x0_5 : (List NodeS)) (x0_6 : (List Int)) : Nat → Int → Int → Option Res
  | 0, _, _ => none
  | m + 1, x0_2, x0_4 => F_turnoutlaw15_GraphLess_0 n k_t0 x0_0 x0_1 x0_3 x0_5 x0_6 (L_turnoutlaw15_GraphLess_0 n k_t0 x0_0 x0_1 x0_3 x0_5 x0_6 m) x0_2 x0_4
noncomputable def M_turnoutlaw15_GraphLess (n : Nat) (a0 : (List NodeS)) (a1 : Int) : Option Res :=
 let y1 : ((Bool × Unit) × Unit) := (q_turnoutlaw15_Long a0)
 cond (ok_turnoutlaw15_Long a0)
 (cond y1.1.1
 (let y2 : ((Bool × Unit) × Unit) := q_turnoutlaw15_awake
 cond ok_turnoutlaw15_awake
 (some (encRes ro_turnoutlaw15_GraphLess rh_turnoutlaw15_GraphLess ((y2.1.1, ()), ())))
 (none))
 (cond ((((List.length a0) : Nat) : Int) == (0 : Int))
 (let y3 : ((Bool × Unit) × Unit) := q_turnoutlaw15_awake
 cond ok_turnoutlaw15_awake
 (some (encRes ro_turnoutlaw15_GraphLess rh_turnoutlaw15_GraphLess ((y3.1.1, ()), ())))
 (none))
 (let y4 : ((Bool × Unit) × Unit) := q_turnoutlaw15_awake
 cond ok_turnoutlaw15_awake
 (cond (!y4.1.1)
 (let y5 : ((Bool × Unit) × Unit) := q_turnoutlaw15_awake
 cond ok_turnoutlaw15_awake
 (some (encRes ro_turnoutlaw15_GraphLess rh_turnoutlaw15_GraphLess ((y5.1.1, ()), ())))
 (none))
 (let y6 : ((Int × Unit) × Unit) := (q_graph_May a0)
 cond (ok_graph_May a0)
 (cond (y6.1.1 != (0 : Int))
 (some (encRes ro_turnoutlaw15_GraphLess rh_turnoutlaw15_GraphLess ((true, ()), ())))
 (cond ((IntKind.wrap .u64 (((List.length a0) : Nat) : Int)) != 0)
 (let y7 : Int := (IntKind.wrap .i64 (Int.tmod (IntKind.wrap .u64 a1) (IntKind.wrap .u64 (((List.length a0) : Nat) : Int))))
 let y8 : ((Nat × Unit) × ((List NodeS) × Unit)) := (q_turnoutlaw15_without a0 y7)
 cond (ok_turnoutlaw15_without a0 y7)
 (cond (decide ((0 : Int) ≤ y7 ∧ y7 < (((List.length a0) : Nat) : Int)))
 (let y9 : ((Bool × Unit) × Unit) := (q_turnoutlaw15_named (cutL zNodeS y8.2.1 0 y8.1.1) ((rdd zNodeS a0 (Int.toNat y7)).1))
 cond (ok_turnoutlaw15_named (cutL zNodeS y8.2.1 0 y8.1.1) ((rdd zNodeS a0 (Int.toNat y7)).1))
 (cond y9.1.1
 (let y10 : ((Int × Unit) × Unit) := (q_graph_May (cutL zNodeS y8.2.1 0 y8.1.1))
 cond (ok_graph_May (cutL zNodeS y8.2.1 0 y8.1.1))
 (cond (y10.1.1 == (8 : Int))
 (let y11 : ((Int × Unit) × Unit) := (q_graph_Longest (cutL zNodeS y8.2.1 0 y8.1.1))
 cond (ok_graph_Longest (cutL zNodeS y8.2.1 0 y8.1.1))
 (some (encRes ro_turnoutlaw15_GraphLess rh_turnoutlaw15_GraphLess (((y11.1.1 == (0 : Int)), ()), ())))
 (none))
 (some (encRes ro_turnoutlaw15_GraphLess rh_turnoutlaw15_GraphLess ((false, ()), ()))))
 (none))
 (let y12 : ((Int × Unit) × Unit) := (q_graph_May (cutL zNodeS y8.2.1 0 y8.1.1))
 cond (ok_graph_May (cutL zNodeS y8.2.1 0 y8.1.1))
 (cond (y12.1.1 != (0 : Int))
 (some (encRes ro_turnoutlaw15_GraphLess rh_turnoutlaw15_GraphLess ((false, ()), ())))
 (cond (decide ((0 : Int) ≤ y7 ∧ y7 < (((List.length a0) : Nat) : Int)))
 (cond ((rdd zNodeS a0 (Int.toNat y7)).1 != (1 : Int))
 (let y13 : ((Int × Unit) × Unit) := (q_graph_Longest (cutL zNodeS y8.2.1 0 y8.1.1))
 cond (ok_graph_Longest (cutL zNodeS y8.2.1 0 y8.1.1))
 (let y14 : ((Int × Unit) × Unit) := (q_graph_Longest a0)
 cond (ok_graph_Longest a0)
 (some (encRes ro_turnoutlaw15_GraphLess rh_turnoutlaw15_GraphLess (((y13.1.1 == y14.1.1), ()), ())))
 (none))
 (none))
 (cond (decide ((0 : Int) ≤ y7 ∧ y7 < (((List.length a0) : Nat) : Int)))
 (let y15 : ((Nat × Unit) × ((List Int) × Unit)) := (q_turnoutref15_Goes (rdd zNodeS a0 (Int.toNat y7)))
 cond (ok_turnoutref15_Goes (rdd zNodeS a0 (Int.toNat y7)))
 (L_turnoutlaw15_GraphLess_0 n
  (fun y17 => let y18 : ((Int × Unit) × Unit) := (q_graph_Longest (cutL zNodeS y8.2.1 0 y8.1.1))
 cond (ok_graph_Longest (cutL zNodeS y8.2.1 0 y8.1.1))
 (cond (y18.1.1 == (0 : Int))
 (let y19 : ((Int × Unit) × Unit) := (q_graph_Longest a0)
 cond (ok_graph_Longest a0)
 (some (encRes ro_turnoutlaw15_GraphLess rh_turnoutlaw15_GraphLess (((y19.1.1 == (IntKind.wrap .i64 ((1 : Int) + y17))), ()), ())))
 (none))
 (some (encRes ro_turnoutlaw15_GraphLess rh_turnoutlaw15_GraphLess ((false, ()), ()))))
 (none))
  a0
  y8.1.1
  y15.1.1
  y8.2.1
  y15.2.1
  n
  (0 : Int)
  (0 : Int))
 (none))
 (none)))
 (none)))
 (none)))
 (none))
 (none))
 (none))
 (none)))
 (none)))
 (none))))
 (none)
noncomputable def Q_turnoutlaw15_GraphLess (a0 : (List NodeS)) (a1 : Int) : Option (RS ro_turnoutlaw15_GraphLess rh_turnoutlaw15_GraphLess) := decRes ro_turnoutlaw15_GraphLess rh_turnoutlaw15_GraphLess (M_turnoutlaw15_GraphLess FUEL a0 a1)
noncomputable def ok_turnoutlaw15_GraphLess (a0 : (List NodeS)) (a1 : Int) : Bool := (Q_turnoutlaw15_GraphLess a0 a1).isSome
noncomputable def q_turnoutlaw15_GraphLess (a0 : (List NodeS)) (a1 : Int) : RS ro_turnoutlaw15_GraphLess rh_turnoutlaw15_GraphLess := RS.get (Q_turnoutlaw15_GraphLess a0 a1)
/-! ### turnoutlaw15_GraphRing -/
abbrev ro_turnoutlaw15_GraphRing : List EK := [.ty .bool]
abbrev rh_turnoutlaw15_GraphRing : List HK := []
noncomputable def F_turnoutlaw15_GraphRing_0 (n : Nat) (k_t0 : Nat → (List Int) → Option Res) (x0_0 : (List NodeS)) (x0_1 : (List Int)) (x0_2 : Int) (x0_3 : Int) (rec : Nat → Int → Int → (List Int) → Option Res) (x0_4 : Nat) (x0_5 : Int) (x0_6 : Int) (x0_7 : (List Int)) : Option Res :=
 cond (decide (x0_6 ≤ (((List.length x0_0) : Nat) : Int)))
 (let y7 : ((NodeS × (Bool × Unit)) × Unit) := (q_graph_Find x0_0 x0_5)
 cond (ok_graph_Find x0_0 x0_5)
 (cond (!y7.1.2.1)
 (k_t0 x0_4 x0_7)
 (cond (decide (((List.length (cutL (0 : Int) x0_7 0 x0_4)) + 1) * 8 ≤ 2 ^ 46 ∧ ((List.length (cutL (0 : Int) x0_7 0 x0_4)) + 1) ≤ 2 ^ 46))
 (let y8 : ((Nat × Unit) × ((List Int) × Unit)) := (q_turnoutref15_Goes y7.1.1)
 cond (ok_turnoutref15_Goes y7.1.1)
 (cond (decide (x0_6 < (((List.length x0_1) : Nat) : Int)))
 (cond (decide ((0 : Int) ≤ x0_6 ∧ x0_6 < (((List.length x0_1) : Nat) : Int)))
 (cond (((y8.1.1 : Nat) : Int) != 0)
 (let y9 : Int := (Int.tmod (IntKind.wrap .i64 (rdd (0 : Int) x0_1 (Int.toNat x0_6))) ((y8.1.1 : Nat) : Int))
 cond (decide ((0 : Int) ≤ y9 ∧ y9 < ((y8.1.1 : Nat) : Int)))
 (rec ((List.length (cutL (0 : Int) x0_7 0 x0_4)) + 1) (rdd (0 : Int) y8.2.1 (Int.toNat y9)) (IntKind.wrap .i64 (x0_6 + (1 : Int))) ((cutL (0 : Int) x0_7 0 x0_4) ++ [x0_5]))
 (none))
 (none))
 (none))
 (cond (((y8.1.1 : Nat) : Int) != 0)
 (cond (decide ((0 : Int) ≤ (Int.tmod (0 : Int) ((y8.1.1 : Nat) : Int)) ∧ (Int.tmod (0 : Int) ((y8.1.1 : Nat) : Int)) < ((y8.1.1 : Nat) : Int)))
 (rec ((List.length (cutL (0 : Int) x0_7 0 x0_4)) + 1) (rdd (0 : Int) y8.2.1 (Int.toNat (Int.tmod (0 : Int) ((y8.1.1 : Nat) : Int)))) (IntKind.wrap .i64 (x0_6 + (1 : Int))) ((cutL (0 : Int) x0_7 0 x0_4) ++ [x0_5]))
 (none))
 (none)))
 (none))
 (none)))
 (none))
 (k_t0 x0_4 x0_7)
noncomputable def L_turnoutlaw15_GraphRing_0 (n : Nat) (k_t0 : Nat → (List Int) → Option Res) (x0_0 : (List NodeS)) (x0_1 : (List Int)) (x0_2 : Int) (x0_3 : Int) : Nat → Nat → Int → Int → (List Int) → Option Res
  | 0, _, _, _, _ => none
  | m + 1, x0_4, x0_5, x0_6, x0_7 => F_turnoutlaw15_GraphRing_0 n k_t0 x0_0 x0_1 x0_2 x0_3 (L_turnoutlaw15_GraphRing_0 n k_t0 x0_0 x0_1 x0_2 x0_3 m) x0_4 x0_5 x0_6 x0_7
noncomputable def F_turnoutlaw15_GraphRing_2 (n : Nat) (k_t2 : (List NodeS) → Option Res) (x2_0 : Nat) (x2_1 : Int) (x2_2 : Int) (x2_3 : Nat) (x2_5 : (List Int)) (rec : Int → (List NodeS) → Option Res) (x2_4 : Int) (x2_6 : (List NodeS)) : Option Res :=
 cond (decide (x2_4 < ((x2_3 : Nat) : Int)))
 (cond (decide ((0 : Int) ≤ x2_4 ∧ x2_4 < ((x2_3 : Nat) : Int)))
 (cond (decide ((0 : Int) ≤ x2_1 ∧ x2_1 < ((x2_0 : Nat) : Int)))
 (cond ((rdd zNodeS x2_6 (Int.toNat x2_4)).1 == (rdd (0 : Int) x2_5 (Int.toNat x2_1)))
 (cond (decide ((0 : Int) ≤ x2_2 ∧ x2_2 < ((x2_0 : Nat) : Int)))
 (cond (decide ((0 : Int) ≤ x2_4 ∧ x2_4 < ((x2_3 : Nat) : Int)))
 (rec (IntKind.wrap .i64 (x2_4 + (1 : Int))) (List.set x2_6 (Int.toNat x2_4) ((rdd zNodeS x2_6 (Int.toNat x2_4)).1, ((rdd zNodeS x2_6 (Int.toNat x2_4)).2.1, ((rdd zNodeS x2_6 (Int.toNat x2_4)).2.2.1, ((rdd zNodeS x2_6 (Int.toNat x2_4)).2.2.2.1, ((rdd zNodeS x2_6 (Int.toNat x2_4)).2.2.2.2.1, ((rdd zNodeS x2_6 (Int.toNat x2_4)).2.2.2.2.2.1, ((rdd zNodeS x2_6 (Int.toNat x2_4)).2.2.2.2.2.2.1, ((rdd zNodeS x2_6 (Int.toNat x2_4)).2.2.2.2.2.2.2.1, ((rdd (0 : Int) x2_5 (Int.toNat x2_2)), ())))))))))))
 (none))
 (none))
 (rec (IntKind.wrap .i64 (x2_4 + (1 : Int))) x2_6))
 (none))
 (none))
 (k_t2 x2_6)
noncomputable def L_turnoutlaw15_GraphRing_2 (n : Nat) (k_t2 : (List NodeS) → Option Res) (x2_0 : Nat) (x2_1 : Int) (x2_2 : Int) (x2_3 : Nat) (x2_5 : (List Int)) : Nat → Int → (List NodeS) → Option Res
  | 0, _, _ => none
  | m + 1, x2_4, x2_6 => F_turnoutlaw15_GraphRing_2 n k_t2 x2_0 x2_1 x2_2 x2_3 x2_5 (L_turnoutlaw15_GraphRing_2 n k_t2 x2_0 x2_1 x2_2 x2_3 x2_5 m) x2_4 x2_6
noncomputable def M_turnoutlaw15_GraphRing (n : Nat) (a0 : (List NodeS)) (a1 : (List Int)) (a2 : Int) (a3 : Int) : Option Res :=
 let y1 : ((Bool × Unit) × Unit) := (q_turnoutlaw15_Long a0)
 cond (ok_turnoutlaw15_Long a0)
 (cond y1.1.1
 (let y2 : ((Bool × Unit) × Unit) := q_turnoutlaw15_awake
 cond ok_turnoutlaw15_awake
 (some (encRes ro_turnoutlaw15_GraphRing rh_turnoutlaw15_GraphRing ((y2.1.1, ()), ())))
 (none))
 (cond (decide ((((List.length a1) : Nat) : Int) > (100 : Int)))
 (let y3 : ((Bool × Unit) × Unit) := q_turnoutlaw15_awake
 cond ok_turnoutlaw15_awake
 (some (encRes ro_turnoutlaw15_GraphRing rh_turnoutlaw15_GraphRing ((y3.1.1, ()), ())))
 (none))
 (let y4 : ((Bool × Unit) × Unit) := q_turnoutlaw15_awake
 cond ok_turnoutlaw15_awake
 (cond (!y4.1.1)
 (let y5 : ((Bool × Unit) × Unit) := q_turnoutlaw15_awake
 cond ok_turnoutlaw15_awake
 (some (encRes ro_turnoutlaw15_GraphRing rh_turnoutlaw15_GraphRing ((y5.1.1, ()), ())))
 (none))
 (let y6 : ((Int × Unit) × Unit) := (q_graph_May a0)
 cond (ok_graph_May a0)
 (cond (y6.1.1 != (0 : Int))
 (some (encRes ro_turnoutlaw15_GraphRing rh_turnoutlaw15_GraphRing ((true, ()), ())))
 (L_turnoutlaw15_GraphRing_0 n
  (fun y10 y11 => cond (((y10 : Nat) : Int) == (0 : Int))
 (some (encRes ro_turnoutlaw15_GraphRing rh_turnoutlaw15_GraphRing (((((y10 : Nat) : Int) == (0 : Int)), ()), ())))
 (cond (decide (((y10 : Nat) : Int) > (((List.length a0) : Nat) : Int)))
 (some (encRes ro_turnoutlaw15_GraphRing rh_turnoutlaw15_GraphRing (((((y10 : Nat) : Int) == (0 : Int)), ()), ())))
 (cond ((IntKind.wrap .u64 ((y10 : Nat) : Int)) != 0)
 (let y12 : Int := (IntKind.wrap .i64 (Int.tmod (IntKind.wrap .u64 a2) (IntKind.wrap .u64 ((y10 : Nat) : Int))))
 cond ((IntKind.wrap .u64 (IntKind.wrap .i64 (y12 + (1 : Int)))) != 0)
 (let y13 : Int := (Int.tmod (IntKind.wrap .u64 a3) (IntKind.wrap .u64 (IntKind.wrap .i64 (y12 + (1 : Int)))))
 cond (decide ((0 + (List.length a0)) * 88 ≤ 2 ^ 46 ∧ (0 + (List.length a0)) ≤ 2 ^ 46))
 (L_turnoutlaw15_GraphRing_2 n
  (fun y14 => let y15 : ((Int × Unit) × Unit) := (q_graph_May (cutL zNodeS y14 0 (0 + (List.length a0))))
 cond (ok_graph_May (cutL zNodeS y14 0 (0 + (List.length a0))))
 (cond (y15.1.1 == (10 : Int))
 (let y16 : ((Int × Unit) × Unit) := (q_graph_Longest (cutL zNodeS y14 0 (0 + (List.length a0))))
 cond (ok_graph_Longest (cutL zNodeS y14 0 (0 + (List.length a0))))
 (some (encRes ro_turnoutlaw15_GraphRing rh_turnoutlaw15_GraphRing (((y16.1.1 == (0 : Int)), ()), ())))
 (none))
 (some (encRes ro_turnoutlaw15_GraphRing rh_turnoutlaw15_GraphRing ((false, ()), ()))))
 (none))
  y10
  y12
  (IntKind.wrap .i64 y13)
  (0 + (List.length a0))
  y11
  n
  (0 : Int)
  a0)
 (none))
 (none))
 (none))))
  a0
  a1
  a2
  a3
  n
  0
  (1 : Int)
  (0 : Int)
  ([])))
 (none)))
 (none))))
 (none)
noncomputable def Q_turnoutlaw15_GraphRing (a0 : (List NodeS)) (a1 : (List Int)) (a2 : Int) (a3 : Int) : Option (RS ro_turnoutlaw15_GraphRing rh_turnoutlaw15_GraphRing) := decRes ro_turnoutlaw15_GraphRing rh_turnoutlaw15_GraphRing (M_turnoutlaw15_GraphRing FUEL a0 a1 a2 a3)
noncomputable def ok_turnoutlaw15_GraphRing (a0 : (List NodeS)) (a1 : (List Int)) (a2 : Int) (a3 : Int) : Bool := (Q_turnoutlaw15_GraphRing a0 a1 a2 a3).isSome
noncomputable def q_turnoutlaw15_GraphRing (a0 : (List NodeS)) (a1 : (List Int)) (a2 : Int) (a3 : Int) : RS ro_turnoutlaw15_GraphRing rh_turnoutlaw15_GraphRing := RS.get (Q_turnoutlaw15_GraphRing a0 a1 a2 a3)
end Go.AMach
