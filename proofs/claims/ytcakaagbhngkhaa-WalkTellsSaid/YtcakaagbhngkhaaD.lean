/- A part of the walk. -/
import Derived.Test.YtcakaagbhngkhaaAm21
namespace Go.AMach
set_option linter.unusedVariables false
set_option linter.unusedSimpArgs false
set_option linter.unnecessarySimpa false
set_option linter.unusedVariables false
abbrev ArmT : Ty := (.pair (.int .u32) (.pair (.int .i64) .unit))
abbrev ArmS : Type := (Int × (Int × Unit))
abbrev zArmS : ArmS := ((0 : Int), ((0 : Int), ()))
abbrev NodeT : Ty := (.pair (.int .i64) (.pair (.int .i64) (.pair (.int .i64) (.pair (.int .i64) (.pair (.int .i64) (.pair (.int .i64) (.pair (.int .i64) (.pair (.slice ArmT) (.pair (.int .i64) .unit)))))))))
abbrev NodeS : Type := (Int × (Int × (Int × (Int × (Int × (Int × (Int × ((List ArmS) × (Int × Unit)))))))))
abbrev zNodeS : NodeS := ((0 : Int), ((0 : Int), ((0 : Int), ((0 : Int), ((0 : Int), ((0 : Int), ((0 : Int), ([], ((0 : Int), ())))))))))
abbrev HeadT : Ty := (.pair (.int .i64) (.pair (.int .i64) .unit))
abbrev HeadS : Type := (Int × (Int × Unit))
abbrev zHeadS : HeadS := ((0 : Int), ((0 : Int), ()))
abbrev SpanT : Ty := (.pair (.int .i64) HeadT)
abbrev SpanS : Type := (Int × HeadS)
abbrev zSpanS : SpanS := ((0 : Int), zHeadS)
abbrev ComeT : Ty := (.pair HeadT (.pair .bool (.pair (.int .i64) .unit)))
abbrev ComeS : Type := (HeadS × (Bool × (Int × Unit)))
abbrev zComeS : ComeS := (zHeadS, (false, ((0 : Int), ())))
abbrev WordT : Ty := (.pair (.int .u64) (.pair (.int .u64) .unit))
abbrev WordS : Type := (Int × (Int × Unit))
abbrev zWordS : WordS := ((0 : Int), ((0 : Int), ()))
/-! ### turnoutlaw16_large -/
abbrev ro_turnoutlaw16_large : List EK := [.ty .bool]
abbrev rh_turnoutlaw16_large : List HK := []
noncomputable def F_turnoutlaw16_large_0 (n : Nat) (k_t0 : Int → Option Res) (x0_0 : (List NodeS)) (rec : Int → Int → Option Res) (x0_1 : Int) (x0_2 : Int) : Option Res :=
 cond (decide (x0_2 < (((List.length x0_0) : Nat) : Int)))
 (cond (decide (x0_1 < (3000 : Int)))
 (cond (decide ((0 : Int) ≤ x0_2 ∧ x0_2 < (((List.length x0_0) : Nat) : Int)))
 (let y1 : Int := (if (((List.length (rdd zNodeS x0_0 (Int.toNat x0_2)).2.2.2.2.2.2.2.1) : Nat) : Int) < (3000 : Int) then (((List.length (rdd zNodeS x0_0 (Int.toNat x0_2)).2.2.2.2.2.2.2.1) : Nat) : Int) else (3000 : Int))
 rec (IntKind.wrap .i64 ((IntKind.wrap .i64 (x0_1 + (5 : Int))) + y1)) (IntKind.wrap .i64 (x0_2 + (1 : Int))))
 (none))
 (k_t0 x0_1))
 (k_t0 x0_1)
noncomputable def L_turnoutlaw16_large_0 (n : Nat) (k_t0 : Int → Option Res) (x0_0 : (List NodeS)) : Nat → Int → Int → Option Res
  | 0, _, _ => none
  | m + 1, x0_1, x0_2 => F_turnoutlaw16_large_0 n k_t0 x0_0 (L_turnoutlaw16_large_0 n k_t0 x0_0 m) x0_1 x0_2
noncomputable def M_turnoutlaw16_large (n : Nat) (a0 : (List NodeS)) : Option Res :=
 L_turnoutlaw16_large_0 n
  (fun y2 => some (encRes ro_turnoutlaw16_large rh_turnoutlaw16_large (((decide (y2 ≥ (3000 : Int))), ()), ())))
  a0
  n
  (0 : Int)
  (0 : Int)
noncomputable def Q_turnoutlaw16_large (a0 : (List NodeS)) : Option (RS ro_turnoutlaw16_large rh_turnoutlaw16_large) := decRes ro_turnoutlaw16_large rh_turnoutlaw16_large (M_turnoutlaw16_large FUEL a0)
noncomputable def ok_turnoutlaw16_large (a0 : (List NodeS)) : Bool := (Q_turnoutlaw16_large a0).isSome
noncomputable def q_turnoutlaw16_large (a0 : (List NodeS)) : RS ro_turnoutlaw16_large rh_turnoutlaw16_large := RS.get (Q_turnoutlaw16_large a0)
/-! ### turnoutlaw16_nodes -/
abbrev ro_turnoutlaw16_nodes : List EK := [.hs 0 0]
abbrev rh_turnoutlaw16_nodes : List HK := [.row NodeT]
noncomputable def M_turnoutlaw16_nodes (n : Nat) : Option Res :=
 some (encRes ro_turnoutlaw16_nodes rh_turnoutlaw16_nodes ((2, ()), ([((1 : Int), ((2 : Int), ((0 : Int), ((0 : Int), ((0 : Int), ((8 : Int), ((8 : Int), ([((5 : Int), ((2 : Int), ()))], ((65535 : Int), ()))))))))), ((2 : Int), ((1 : Int), ((0 : Int), ((8 : Int), ((1 : Int), ((0 : Int), ((0 : Int), ([], ((0 : Int), ())))))))))], ())))
noncomputable def Q_turnoutlaw16_nodes : Option (RS ro_turnoutlaw16_nodes rh_turnoutlaw16_nodes) := decRes ro_turnoutlaw16_nodes rh_turnoutlaw16_nodes (M_turnoutlaw16_nodes FUEL)
noncomputable def ok_turnoutlaw16_nodes : Bool := (Q_turnoutlaw16_nodes).isSome
noncomputable def q_turnoutlaw16_nodes : RS ro_turnoutlaw16_nodes rh_turnoutlaw16_nodes := RS.get (Q_turnoutlaw16_nodes)
/-! ### graph_to -/
abbrev ro_graph_to : List EK := [.ty .bool]
abbrev rh_graph_to : List HK := []
noncomputable def M_graph_to (n : Nat) (a0 : Int) : Option Res :=
 cond (decide (a0 ≥ (0 : Int)))
 (some (encRes ro_graph_to rh_graph_to (((decide (a0 ≤ (65535 : Int))), ()), ())))
 (some (encRes ro_graph_to rh_graph_to ((false, ()), ())))
noncomputable def Q_graph_to (a0 : Int) : Option (RS ro_graph_to rh_graph_to) := decRes ro_graph_to rh_graph_to (M_graph_to FUEL a0)
noncomputable def ok_graph_to (a0 : Int) : Bool := (Q_graph_to a0).isSome
noncomputable def q_graph_to (a0 : Int) : RS ro_graph_to rh_graph_to := RS.get (Q_graph_to a0)
/-! ### graph_span_may -/
abbrev ro_graph_span_may : List EK := [.ty .bool]
abbrev rh_graph_span_may : List HK := []
noncomputable def M_graph_span_may (n : Nat) (a0 : SpanS) : Option Res :=
 cond (a0.2.1 == (0 : Int))
 (some (encRes ro_graph_span_may rh_graph_span_may (((a0.1 == (0 : Int)), ()), ())))
 (cond (decide (a0.2.1 > (0 : Int)))
 (cond (decide (a0.2.1 ≤ a0.2.2.1))
 (cond (decide (a0.1 ≥ (0 : Int)))
 (some (encRes ro_graph_span_may rh_graph_span_may (((decide (a0.1 ≤ (2048 : Int))), ()), ())))
 (some (encRes ro_graph_span_may rh_graph_span_may ((false, ()), ()))))
 (some (encRes ro_graph_span_may rh_graph_span_may ((false, ()), ()))))
 (some (encRes ro_graph_span_may rh_graph_span_may ((false, ()), ()))))
noncomputable def Q_graph_span_may (a0 : SpanS) : Option (RS ro_graph_span_may rh_graph_span_may) := decRes ro_graph_span_may rh_graph_span_may (M_graph_span_may FUEL a0)
noncomputable def ok_graph_span_may (a0 : SpanS) : Bool := (Q_graph_span_may a0).isSome
noncomputable def q_graph_span_may (a0 : SpanS) : RS ro_graph_span_may rh_graph_span_may := RS.get (Q_graph_span_may a0)
/-! ### graph_unit -/
abbrev ro_graph_unit : List EK := [.ty .bool]
abbrev rh_graph_unit : List HK := []
noncomputable def M_graph_unit (n : Nat) (a0 : NodeS) : Option Res :=
 cond (a0.2.2.2.1 == (0 : Int))
 (some (encRes ro_graph_unit rh_graph_unit (((a0.2.2.2.2.1 == (0 : Int)), ()), ())))
 (cond (decide (a0.2.2.2.2.1 ≥ (1 : Int)))
 (some (encRes ro_graph_unit rh_graph_unit (((decide (a0.2.2.2.2.1 ≤ (256 : Int))), ()), ())))
 (some (encRes ro_graph_unit rh_graph_unit ((false, ()), ()))))
noncomputable def Q_graph_unit (a0 : NodeS) : Option (RS ro_graph_unit rh_graph_unit) := decRes ro_graph_unit rh_graph_unit (M_graph_unit FUEL a0)
noncomputable def ok_graph_unit (a0 : NodeS) : Bool := (Q_graph_unit a0).isSome
noncomputable def q_graph_unit (a0 : NodeS) : RS ro_graph_unit rh_graph_unit := RS.get (Q_graph_unit a0)
/-! ### graph_Form -/
abbrev ro_graph_Form : List EK := [.ty .bool]
abbrev rh_graph_Form : List HK := []
noncomputable def F_graph_Form_0 (n : Nat) (k_r : Bool → Option Res) (k_t0 : Unit → Option Res) (x0_0 : (List ArmS)) (x0_1 : Int) (x0_3 : NodeS) (rec : Int → Option Res) (x0_2 : Int) : Option Res :=
 cond (decide (x0_2 < x0_1))
 (cond (decide ((0 : Int) ≤ x0_2 ∧ x0_2 < (((List.length x0_0) : Nat) : Int)))
 (cond (decide ((0 : Int) ≤ x0_3.2.2.2.2.2.2.1))
 (let y5 : Int := (Int.fdiv (IntKind.wrap .u64 (rdd zArmS x0_0 (Int.toNat x0_2)).1) (2 ^ (min (Int.toNat x0_3.2.2.2.2.2.2.1) (IntKind.bits .u64))))
 cond (decide (y5 > (0 : Int)))
 (k_r false)
 (cond (x0_3.2.2.2.2.2.2.1 == (0 : Int))
 (k_r false)
 (cond (decide (x0_2 > (0 : Int)))
 (cond (decide ((0 : Int) ≤ (IntKind.wrap .i64 (x0_2 - (1 : Int))) ∧ (IntKind.wrap .i64 (x0_2 - (1 : Int))) < (((List.length x0_3.2.2.2.2.2.2.2.1) : Nat) : Int)))
 (cond (decide ((rdd zArmS x0_0 (Int.toNat x0_2)).1 ≤ (rdd zArmS x0_3.2.2.2.2.2.2.2.1 (Int.toNat (IntKind.wrap .i64 (x0_2 - (1 : Int))))).1))
 (k_r false)
 (let y6 : ((Bool × Unit) × Unit) := (q_graph_to ((rdd zArmS x0_0 (Int.toNat x0_2)).2.1))
 cond (ok_graph_to ((rdd zArmS x0_0 (Int.toNat x0_2)).2.1))
 (cond (!y6.1.1)
 (k_r false)
 (rec (IntKind.wrap .i64 (x0_2 + (1 : Int)))))
 (none)))
 (none))
 (let y7 : ((Bool × Unit) × Unit) := (q_graph_to ((rdd zArmS x0_0 (Int.toNat x0_2)).2.1))
 cond (ok_graph_to ((rdd zArmS x0_0 (Int.toNat x0_2)).2.1))
 (cond (!y7.1.1)
 (k_r false)
 (rec (IntKind.wrap .i64 (x0_2 + (1 : Int)))))
 (none)))))
 (none))
 (none))
 (k_t0 ())
noncomputable def L_graph_Form_0 (n : Nat) (k_r : Bool → Option Res) (k_t0 : Unit → Option Res) (x0_0 : (List ArmS)) (x0_1 : Int) (x0_3 : NodeS) : Nat → Int → Option Res
  | 0, _ => none
  | m + 1, x0_2 => F_graph_Form_0 n k_r k_t0 x0_0 x0_1 x0_3 (L_graph_Form_0 n k_r k_t0 x0_0 x0_1 x0_3 m) x0_2
noncomputable def M_graph_Form (n : Nat) (a0 : NodeS) : Option Res :=
 cond (decide (a0.1 < (1 : Int)))
 (some (encRes ro_graph_Form rh_graph_Form ((false, ()), ())))
 (cond (decide (a0.1 > (65534 : Int)))
 (some (encRes ro_graph_Form rh_graph_Form ((false, ()), ())))
 (cond (decide (a0.2.1 < (0 : Int)))
 (some (encRes ro_graph_Form rh_graph_Form ((false, ()), ())))
 (cond (decide (a0.2.1 > (256 : Int)))
 (some (encRes ro_graph_Form rh_graph_Form ((false, ()), ())))
 (let y1 : ((Bool × Unit) × Unit) := (q_graph_to a0.2.2.2.2.2.2.2.2.1)
 cond (ok_graph_to a0.2.2.2.2.2.2.2.2.1)
 (cond (!y1.1.1)
 (some (encRes ro_graph_Form rh_graph_Form ((false, ()), ())))
 (cond (decide ((((List.length a0.2.2.2.2.2.2.2.1) : Nat) : Int) > (32 : Int)))
 (some (encRes ro_graph_Form rh_graph_Form ((false, ()), ())))
 (let y2 : ((Bool × Unit) × Unit) := (q_graph_span_may (a0.2.2.1, (a0.2.2.2.1, ((16 : Int), ()))))
 cond (ok_graph_span_may (a0.2.2.1, (a0.2.2.2.1, ((16 : Int), ()))))
 (cond (!y2.1.1)
 (some (encRes ro_graph_Form rh_graph_Form ((false, ()), ())))
 (let y3 : ((Bool × Unit) × Unit) := (q_graph_unit a0)
 cond (ok_graph_unit a0)
 (cond (!y3.1.1)
 (some (encRes ro_graph_Form rh_graph_Form ((false, ()), ())))
 (let y4 : ((Bool × Unit) × Unit) := (q_graph_span_may (a0.2.2.2.2.2.1, (a0.2.2.2.2.2.2.1, ((32 : Int), ()))))
 cond (ok_graph_span_may (a0.2.2.2.2.2.1, (a0.2.2.2.2.2.2.1, ((32 : Int), ()))))
 (cond (!y4.1.1)
 (some (encRes ro_graph_Form rh_graph_Form ((false, ()), ())))
 (L_graph_Form_0 n
  (fun y8 => some (encRes ro_graph_Form rh_graph_Form ((y8, ()), ())))
  (fun _ => some (encRes ro_graph_Form rh_graph_Form ((true, ()), ())))
  a0.2.2.2.2.2.2.2.1
  (((List.length a0.2.2.2.2.2.2.2.1) : Nat) : Int)
  a0
  n
  (0 : Int)))
 (none)))
 (none)))
 (none))))
 (none)))))
noncomputable def Q_graph_Form (a0 : NodeS) : Option (RS ro_graph_Form rh_graph_Form) := decRes ro_graph_Form rh_graph_Form (M_graph_Form FUEL a0)
noncomputable def ok_graph_Form (a0 : NodeS) : Bool := (Q_graph_Form a0).isSome
noncomputable def q_graph_Form (a0 : NodeS) : RS ro_graph_Form rh_graph_Form := RS.get (Q_graph_Form a0)
/-! ### graph_form -/
abbrev ro_graph_form : List EK := [.ty .bool]
abbrev rh_graph_form : List HK := []
noncomputable def F_graph_form_0 (n : Nat) (k_r : Bool → Option Res) (k_t0 : Unit → Option Res) (x0_0 : (List NodeS)) (x0_1 : (List NodeS)) (x0_2 : Int) (rec : Int → Option Res) (x0_3 : Int) : Option Res :=
 cond (decide (x0_3 < x0_2))
 (cond (decide ((0 : Int) ≤ x0_3 ∧ x0_3 < (((List.length x0_1) : Nat) : Int)))
 (let y1 : ((Bool × Unit) × Unit) := (q_graph_Form (rdd zNodeS x0_1 (Int.toNat x0_3)))
 cond (ok_graph_Form (rdd zNodeS x0_1 (Int.toNat x0_3)))
 (cond (!y1.1.1)
 (k_r false)
 (cond (decide (x0_3 > (0 : Int)))
 (cond (decide ((0 : Int) ≤ (IntKind.wrap .i64 (x0_3 - (1 : Int))) ∧ (IntKind.wrap .i64 (x0_3 - (1 : Int))) < (((List.length x0_0) : Nat) : Int)))
 (cond (decide ((rdd zNodeS x0_1 (Int.toNat x0_3)).1 ≤ (rdd zNodeS x0_0 (Int.toNat (IntKind.wrap .i64 (x0_3 - (1 : Int))))).1))
 (k_r false)
 (rec (IntKind.wrap .i64 (x0_3 + (1 : Int)))))
 (none))
 (rec (IntKind.wrap .i64 (x0_3 + (1 : Int))))))
 (none))
 (none))
 (k_t0 ())
noncomputable def L_graph_form_0 (n : Nat) (k_r : Bool → Option Res) (k_t0 : Unit → Option Res) (x0_0 : (List NodeS)) (x0_1 : (List NodeS)) (x0_2 : Int) : Nat → Int → Option Res
  | 0, _ => none
  | m + 1, x0_3 => F_graph_form_0 n k_r k_t0 x0_0 x0_1 x0_2 (L_graph_form_0 n k_r k_t0 x0_0 x0_1 x0_2 m) x0_3
noncomputable def M_graph_form (n : Nat) (a0 : (List NodeS)) : Option Res :=
 L_graph_form_0 n
  (fun y2 => some (encRes ro_graph_form rh_graph_form ((y2, ()), ())))
  (fun _ => some (encRes ro_graph_form rh_graph_form ((true, ()), ())))
  a0
  a0
  (((List.length a0) : Nat) : Int)
  n
  (0 : Int)
noncomputable def Q_graph_form (a0 : (List NodeS)) : Option (RS ro_graph_form rh_graph_form) := decRes ro_graph_form rh_graph_form (M_graph_form FUEL a0)
noncomputable def ok_graph_form (a0 : (List NodeS)) : Bool := (Q_graph_form a0).isSome
noncomputable def q_graph_form (a0 : (List NodeS)) : RS ro_graph_form rh_graph_form := RS.get (Q_graph_form a0)
/-! ### graph_goes -/
abbrev ro_graph_goes : List EK := [.hs 0 0]
abbrev rh_graph_goes : List HK := [.row (.int .i64)]
noncomputable def F_graph_goes_0 (n : Nat) (k_t0 : Nat → (List Int) → Option Res) (x0_1 : (List ArmS)) (x0_2 : Int) (rec : Nat → Int → (List Int) → Option Res) (x0_0 : Nat) (x0_3 : Int) (x0_4 : (List Int)) : Option Res :=
 cond (decide (x0_3 < x0_2))
 (cond (decide ((0 : Int) ≤ x0_3 ∧ x0_3 < (((List.length x0_1) : Nat) : Int)))
 (cond (decide (((List.length (cutL (0 : Int) x0_4 0 x0_0)) + 1) * 8 ≤ 2 ^ 46 ∧ ((List.length (cutL (0 : Int) x0_4 0 x0_0)) + 1) ≤ 2 ^ 46))
 (rec ((List.length (cutL (0 : Int) x0_4 0 x0_0)) + 1) (IntKind.wrap .i64 (x0_3 + (1 : Int))) ((cutL (0 : Int) x0_4 0 x0_0) ++ [(rdd zArmS x0_1 (Int.toNat x0_3)).2.1]))
 (none))
 (none))
 (k_t0 x0_0 x0_4)
noncomputable def L_graph_goes_0 (n : Nat) (k_t0 : Nat → (List Int) → Option Res) (x0_1 : (List ArmS)) (x0_2 : Int) : Nat → Nat → Int → (List Int) → Option Res
  | 0, _, _, _ => none
  | m + 1, x0_0, x0_3, x0_4 => F_graph_goes_0 n k_t0 x0_1 x0_2 (L_graph_goes_0 n k_t0 x0_1 x0_2 m) x0_0 x0_3 x0_4
noncomputable def M_graph_goes (n : Nat) (a0 : NodeS) : Option Res :=
 L_graph_goes_0 n
  (fun y1 y2 => some (encRes ro_graph_goes rh_graph_goes ((y1, ()), (y2, ()))))
  a0.2.2.2.2.2.2.2.1
  (((List.length a0.2.2.2.2.2.2.2.1) : Nat) : Int)
  n
  1
  (0 : Int)
  ([a0.2.2.2.2.2.2.2.2.1])
noncomputable def Q_graph_goes (a0 : NodeS) : Option (RS ro_graph_goes rh_graph_goes) := decRes ro_graph_goes rh_graph_goes (M_graph_goes FUEL a0)
noncomputable def ok_graph_goes (a0 : NodeS) : Bool := (Q_graph_goes a0).isSome
noncomputable def q_graph_goes (a0 : NodeS) : RS ro_graph_goes rh_graph_goes := RS.get (Q_graph_goes a0)
/-! ### graph_Find -/
abbrev ro_graph_Find : List EK := [.agg NodeT, .ty .bool]
abbrev rh_graph_Find : List HK := []
noncomputable def F_graph_Find_0 (n : Nat) (k_r : Bool → NodeS → Option Res) (k_t0 : Unit → Option Res) (x0_0 : Int) (x0_1 : (List NodeS)) (x0_2 : Int) (x0_4 : NodeS) (rec : Int → Option Res) (x0_3 : Int) : Option Res :=
 cond (decide (x0_3 < x0_2))
 (cond (decide ((0 : Int) ≤ x0_3 ∧ x0_3 < (((List.length x0_1) : Nat) : Int)))
 (cond ((rdd zNodeS x0_1 (Int.toNat x0_3)).1 == x0_0)
 (k_r true (rdd zNodeS x0_1 (Int.toNat x0_3)))
 (rec (IntKind.wrap .i64 (x0_3 + (1 : Int)))))
 (none))
 (k_t0 ())
noncomputable def L_graph_Find_0 (n : Nat) (k_r : Bool → NodeS → Option Res) (k_t0 : Unit → Option Res) (x0_0 : Int) (x0_1 : (List NodeS)) (x0_2 : Int) (x0_4 : NodeS) : Nat → Int → Option Res
  | 0, _ => none
  | m + 1, x0_3 => F_graph_Find_0 n k_r k_t0 x0_0 x0_1 x0_2 x0_4 (L_graph_Find_0 n k_r k_t0 x0_0 x0_1 x0_2 x0_4 m) x0_3
noncomputable def M_graph_Find (n : Nat) (a0 : (List NodeS)) (a1 : Int) : Option Res :=
 L_graph_Find_0 n
  (fun y1 y2 => some (encRes ro_graph_Find rh_graph_Find ((y2, (y1, ())), ())))
  (fun _ => some (encRes ro_graph_Find rh_graph_Find ((((0 : Int), ((0 : Int), ((0 : Int), ((0 : Int), ((0 : Int), ((0 : Int), ((0 : Int), ([], ((0 : Int), ()))))))))), (false, ())), ())))
  a1
  a0
  (((List.length a0) : Nat) : Int)
  ((0 : Int), ((0 : Int), ((0 : Int), ((0 : Int), ((0 : Int), ((0 : Int), ((0 : Int), ([], ((0 : Int), ())))))))))
  n
  (0 : Int)
noncomputable def Q_graph_Find (a0 : (List NodeS)) (a1 : Int) : Option (RS ro_graph_Find rh_graph_Find) := decRes ro_graph_Find rh_graph_Find (M_graph_Find FUEL a0 a1)
noncomputable def ok_graph_Find (a0 : (List NodeS)) (a1 : Int) : Bool := (Q_graph_Find a0 a1).isSome
noncomputable def q_graph_Find (a0 : (List NodeS)) (a1 : Int) : RS ro_graph_Find rh_graph_Find := RS.get (Q_graph_Find a0 a1)
/-! ### graph_refs -/
abbrev ro_graph_refs : List EK := [.ty .bool]
abbrev rh_graph_refs : List HK := []
noncomputable def F_graph_refs_2 (n : Nat) (k_r : Bool → Option Res) (k_t2 : Unit → Option Res) (x2_0 : (List NodeS)) (x2_1 : (List NodeS)) (x2_2 : Int) (x2_3 : Int) (x2_4 : Nat) (x2_5 : Int) (x2_7 : (List Int)) (rec : Int → Option Res) (x2_6 : Int) : Option Res :=
 cond (decide (x2_6 < x2_5))
 (cond (decide ((0 : Int) ≤ x2_6 ∧ x2_6 < ((x2_4 : Nat) : Int)))
 (let y2 : ((NodeS × (Bool × Unit)) × Unit) := (q_graph_Find x2_0 (rdd (0 : Int) x2_7 (Int.toNat x2_6)))
 cond (ok_graph_Find x2_0 (rdd (0 : Int) x2_7 (Int.toNat x2_6)))
 (cond (!y2.1.2.1)
 (cond ((rdd (0 : Int) x2_7 (Int.toNat x2_6)) != (0 : Int))
 (cond ((rdd (0 : Int) x2_7 (Int.toNat x2_6)) != (65535 : Int))
 (k_r false)
 (rec (IntKind.wrap .i64 (x2_6 + (1 : Int)))))
 (rec (IntKind.wrap .i64 (x2_6 + (1 : Int)))))
 (rec (IntKind.wrap .i64 (x2_6 + (1 : Int)))))
 (none))
 (none))
 (k_t2 ())
noncomputable def L_graph_refs_2 (n : Nat) (k_r : Bool → Option Res) (k_t2 : Unit → Option Res) (x2_0 : (List NodeS)) (x2_1 : (List NodeS)) (x2_2 : Int) (x2_3 : Int) (x2_4 : Nat) (x2_5 : Int) (x2_7 : (List Int)) : Nat → Int → Option Res
  | 0, _ => none
  | m + 1, x2_6 => F_graph_refs_2 n k_r k_t2 x2_0 x2_1 x2_2 x2_3 x2_4 x2_5 x2_7 (L_graph_refs_2 n k_r k_t2 x2_0 x2_1 x2_2 x2_3 x2_4 x2_5 x2_7 m) x2_6
noncomputable def F_graph_refs_0 (n : Nat) (k_r : Bool → Option Res) (k_t0 : Unit → Option Res) (x0_0 : (List NodeS)) (x0_1 : (List NodeS)) (x0_2 : Int) (rec : Int → Option Res) (x0_3 : Int) : Option Res :=
 cond (decide (x0_3 < x0_2))
 (cond (decide ((0 : Int) ≤ x0_3 ∧ x0_3 < (((List.length x0_1) : Nat) : Int)))
 (let y1 : ((Nat × Unit) × ((List Int) × Unit)) := (q_graph_goes (rdd zNodeS x0_1 (Int.toNat x0_3)))
 cond (ok_graph_goes (rdd zNodeS x0_1 (Int.toNat x0_3)))
 (L_graph_refs_2 n
  (fun y3 => k_r y3)
  (fun _ => rec (IntKind.wrap .i64 (x0_3 + (1 : Int))))
  x0_0
  x0_1
  x0_2
  x0_3
  y1.1.1
  ((y1.1.1 : Nat) : Int)
  y1.2.1
  n
  (0 : Int))
 (none))
 (none))
 (k_t0 ())
noncomputable def L_graph_refs_0 (n : Nat) (k_r : Bool → Option Res) (k_t0 : Unit → Option Res) (x0_0 : (List NodeS)) (x0_1 : (List NodeS)) (x0_2 : Int) : Nat → Int → Option Res
  | 0, _ => none
  | m + 1, x0_3 => F_graph_refs_0 n k_r k_t0 x0_0 x0_1 x0_2 (L_graph_refs_0 n k_r k_t0 x0_0 x0_1 x0_2 m) x0_3
noncomputable def M_graph_refs (n : Nat) (a0 : (List NodeS)) : Option Res :=
 L_graph_refs_0 n
  (fun y4 => some (encRes ro_graph_refs rh_graph_refs ((y4, ()), ())))
  (fun _ => some (encRes ro_graph_refs rh_graph_refs ((true, ()), ())))
  a0
  a0
  (((List.length a0) : Nat) : Int)
  n
  (0 : Int)
noncomputable def Q_graph_refs (a0 : (List NodeS)) : Option (RS ro_graph_refs rh_graph_refs) := decRes ro_graph_refs rh_graph_refs (M_graph_refs FUEL a0)
noncomputable def ok_graph_refs (a0 : (List NodeS)) : Bool := (Q_graph_refs a0).isSome
noncomputable def q_graph_refs (a0 : (List NodeS)) : RS ro_graph_refs rh_graph_refs := RS.get (Q_graph_refs a0)
/-! ### graph_longest_walk -/
abbrev ro_graph_longest_walk : List EK := [.ty (.int .i64)]
abbrev rh_graph_longest_walk : List HK := [.one true [.ty (.slice NodeT)], .one false [.mp 2], .mf (.int .i64) (.int .i64), .one true [.ty .bool], .one false [.mp 5], .mf (.int .i64) (.int .i64), .one false [.fn 42 [(0, 0, 0), (1, 0, 0), (3, 0, 0), (4, 0, 0), (6, 0, 0)]]]
noncomputable def F_graph_longest_walk_1 (n : Nat) (qr_graph_longest_walk : Int → (List NodeS) → (Int → Option (Int)) → Bool → (Int → Option (Int)) → Option (RS ro_graph_longest_walk rh_graph_longest_walk)) (k_t1 : Int → (List NodeS) → (Int → Option (Int)) → Bool → (Int → Option (Int)) → Option Res) (x1_0 : Int) (x1_2 : Nat) (x1_3 : Int) (x1_9 : (List Int)) (rec : Int → Int → (List NodeS) → (Int → Option (Int)) → Bool → (Int → Option (Int)) → Option Res) (x1_1 : Int) (x1_4 : Int) (x1_5 : (List NodeS)) (x1_6 : (Int → Option (Int))) (x1_7 : Bool) (x1_8 : (Int → Option (Int))) : Option Res :=
 cond (decide (x1_4 < x1_3))
 (cond (decide ((0 : Int) ≤ x1_4 ∧ x1_4 < ((x1_2 : Nat) : Int)))
 (let y3 : ((Int × Unit) × (((List NodeS) × Unit) × ((Unit × Unit) × ((Int → Option (Int)) × ((Bool × Unit) × ((Unit × Unit) × ((Int → Option (Int)) × ((Unit × Unit) × Unit)))))))) := (RS.get (qr_graph_longest_walk (rdd (0 : Int) x1_9 (Int.toNat x1_4)) x1_5 x1_6 x1_7 x1_8))
 cond (Option.isSome (qr_graph_longest_walk (rdd (0 : Int) x1_9 (Int.toNat x1_4)) x1_5 x1_6 x1_7 x1_8))
 (rec (if y3.1.1 > x1_1 then y3.1.1 else x1_1) (IntKind.wrap .i64 (x1_4 + (1 : Int))) y3.2.1.1 y3.2.2.2.1 y3.2.2.2.2.1.1 y3.2.2.2.2.2.2.1)
 (none))
 (none))
 (k_t1 x1_1 x1_5 x1_6 x1_7 x1_8)
noncomputable def L_graph_longest_walk_1 (n : Nat) (qr_graph_longest_walk : Int → (List NodeS) → (Int → Option (Int)) → Bool → (Int → Option (Int)) → Option (RS ro_graph_longest_walk rh_graph_longest_walk)) (k_t1 : Int → (List NodeS) → (Int → Option (Int)) → Bool → (Int → Option (Int)) → Option Res) (x1_0 : Int) (x1_2 : Nat) (x1_3 : Int) (x1_9 : (List Int)) : Nat → Int → Int → (List NodeS) → (Int → Option (Int)) → Bool → (Int → Option (Int)) → Option Res
  | 0, _, _, _, _, _, _ => none
  | m + 1, x1_1, x1_4, x1_5, x1_6, x1_7, x1_8 => F_graph_longest_walk_1 n qr_graph_longest_walk k_t1 x1_0 x1_2 x1_3 x1_9 (L_graph_longest_walk_1 n qr_graph_longest_walk k_t1 x1_0 x1_2 x1_3 x1_9 m) x1_1 x1_4 x1_5 x1_6 x1_7 x1_8
noncomputable def M_graph_longest_walk (n : Nat) (qr_graph_longest_walk : Int → (List NodeS) → (Int → Option (Int)) → Bool → (Int → Option (Int)) → Option (RS ro_graph_longest_walk rh_graph_longest_walk)) (a0 : Int) (a1 : (List NodeS)) (a2 : (Int → Option (Int))) (a3 : Bool) (a4 : (Int → Option (Int))) : Option Res :=
 let y1 : ((NodeS × (Bool × Unit)) × Unit) := (q_graph_Find a1 a0)
 cond (ok_graph_Find a1 a0)
 (cond (!y1.1.2.1)
 (some (encRes ro_graph_longest_walk rh_graph_longest_walk (((0 : Int), ()), ((a1, ()), (((), ()), (a2, ((a3, ()), (((), ()), (a4, (((), ()), ()))))))))))
 (cond (decide ((Option.getD (a2 a0) (0 : Int)) > (0 : Int)))
 (some (encRes ro_graph_longest_walk rh_graph_longest_walk (((0 : Int), ()), ((a1, ()), (((), ()), (a2, ((false, ()), (((), ()), (a4, (((), ()), ()))))))))))
 (cond (decide ((Option.getD (a4 a0) (0 : Int)) > (0 : Int)))
 (some (encRes ro_graph_longest_walk rh_graph_longest_walk (((Option.getD (a4 a0) (0 : Int)), ()), ((a1, ()), (((), ()), (a2, ((a3, ()), (((), ()), (a4, (((), ()), ()))))))))))
 (let y2 : ((Nat × Unit) × ((List Int) × Unit)) := (q_graph_goes y1.1.1)
 cond (ok_graph_goes y1.1.1)
 (L_graph_longest_walk_1 n qr_graph_longest_walk
  (fun y4 y5 y6 y7 y8 => some (encRes ro_graph_longest_walk rh_graph_longest_walk (((IntKind.wrap .i64 (y4 + (1 : Int))), ()), ((y5, ()), (((), ()), ((fun i => cond (decide (i = a0)) (some (IntKind.wrap .i64 ((Option.getD (y6 a0) (0 : Int)) - (1 : Int)))) (y6 i)), ((y7, ()), (((), ()), ((fun i => cond (decide (i = a0)) (some (IntKind.wrap .i64 (y4 + (1 : Int)))) (y8 i)), (((), ()), ()))))))))))
  a0
  y2.1.1
  ((y2.1.1 : Nat) : Int)
  y2.2.1
  n
  (0 : Int)
  (0 : Int)
  a1
  (fun i => cond (decide (i = a0)) (some (IntKind.wrap .i64 ((Option.getD (a2 a0) (0 : Int)) + (1 : Int)))) (a2 i))
  a3
  a4)
 (none)))))
 (none)
noncomputable def Qd_graph_longest_walk : Nat → Int → (List NodeS) → (Int → Option (Int)) → Bool → (Int → Option (Int)) → Option (RS ro_graph_longest_walk rh_graph_longest_walk)
  | 0, _, _, _, _, _ => none
  | dp + 1, a0, a1, a2, a3, a4 => decRes ro_graph_longest_walk rh_graph_longest_walk (M_graph_longest_walk FUEL (Qd_graph_longest_walk dp) a0 a1 a2 a3 a4)
noncomputable def Q_graph_longest_walk (a0 : Int) (a1 : (List NodeS)) (a2 : (Int → Option (Int))) (a3 : Bool) (a4 : (Int → Option (Int))) : Option (RS ro_graph_longest_walk rh_graph_longest_walk) := Qd_graph_longest_walk FUEL a0 a1 a2 a3 a4
noncomputable def ok_graph_longest_walk (a0 : Int) (a1 : (List NodeS)) (a2 : (Int → Option (Int))) (a3 : Bool) (a4 : (Int → Option (Int))) : Bool := (Q_graph_longest_walk a0 a1 a2 a3 a4).isSome
noncomputable def q_graph_longest_walk (a0 : Int) (a1 : (List NodeS)) (a2 : (Int → Option (Int))) (a3 : Bool) (a4 : (Int → Option (Int))) : RS ro_graph_longest_walk rh_graph_longest_walk := RS.get (Q_graph_longest_walk a0 a1 a2 a3 a4)
/-! ### graph_longest -/
abbrev ro_graph_longest : List EK := [.fn 42 [(0, 0, 0), (1, 0, 0), (3, 0, 0), (4, 0, 0), (6, 0, 0)], .ty .bool]
abbrev rh_graph_longest : List HK := [.one true [.ty (.slice NodeT)], .one false [.mp 2], .mf (.int .i64) (.int .i64), .one true [.ty .bool], .one false [.mp 5], .mf (.int .i64) (.int .i64), .one false [.fn 42 [(0, 0, 0), (1, 0, 0), (3, 0, 0), (4, 0, 0), (6, 0, 0)]]]
noncomputable def F_graph_longest_0 (n : Nat) (k_t0 : Bool → (List NodeS) → (Int → Option (Int)) → (Int → Option (Int)) → Option Res) (x0_0 : (List NodeS)) (x0_1 : Int) (rec : Int → Bool → (List NodeS) → (Int → Option (Int)) → (Int → Option (Int)) → Option Res) (x0_2 : Int) (x0_3 : Bool) (x0_4 : (List NodeS)) (x0_5 : (Int → Option (Int))) (x0_6 : (Int → Option (Int))) : Option Res :=
 cond (decide (x0_2 < x0_1))
 (cond (decide ((0 : Int) ≤ x0_2 ∧ x0_2 < (((List.length x0_0) : Nat) : Int)))
 (let y1 : ((Int × Unit) × (((List NodeS) × Unit) × ((Unit × Unit) × ((Int → Option (Int)) × ((Bool × Unit) × ((Unit × Unit) × ((Int → Option (Int)) × ((Unit × Unit) × Unit)))))))) := (q_graph_longest_walk ((rdd zNodeS x0_0 (Int.toNat x0_2)).1) x0_4 x0_5 x0_3 x0_6)
 cond (ok_graph_longest_walk ((rdd zNodeS x0_0 (Int.toNat x0_2)).1) x0_4 x0_5 x0_3 x0_6)
 (rec (IntKind.wrap .i64 (x0_2 + (1 : Int))) y1.2.2.2.2.1.1 y1.2.1.1 y1.2.2.2.1 y1.2.2.2.2.2.2.1)
 (none))
 (none))
 (k_t0 x0_3 x0_4 x0_5 x0_6)
noncomputable def L_graph_longest_0 (n : Nat) (k_t0 : Bool → (List NodeS) → (Int → Option (Int)) → (Int → Option (Int)) → Option Res) (x0_0 : (List NodeS)) (x0_1 : Int) : Nat → Int → Bool → (List NodeS) → (Int → Option (Int)) → (Int → Option (Int)) → Option Res
  | 0, _, _, _, _, _ => none
  | m + 1, x0_2, x0_3, x0_4, x0_5, x0_6 => F_graph_longest_0 n k_t0 x0_0 x0_1 (L_graph_longest_0 n k_t0 x0_0 x0_1 m) x0_2 x0_3 x0_4 x0_5 x0_6
noncomputable def M_graph_longest (n : Nat) (a0 : (List NodeS)) : Option Res :=
 L_graph_longest_0 n
  (fun y2 y3 y4 y5 => some (encRes ro_graph_longest rh_graph_longest (((), (y2, ())), ((y3, ()), (((), ()), (y4, ((y2, ()), (((), ()), (y5, (((), ()), ()))))))))))
  a0
  (((List.length a0) : Nat) : Int)
  n
  (0 : Int)
  true
  a0
  (fun _ => none)
  (fun _ => none)
noncomputable def Q_graph_longest (a0 : (List NodeS)) : Option (RS ro_graph_longest rh_graph_longest) := decRes ro_graph_longest rh_graph_longest (M_graph_longest FUEL a0)
noncomputable def ok_graph_longest (a0 : (List NodeS)) : Bool := (Q_graph_longest a0).isSome
noncomputable def q_graph_longest (a0 : (List NodeS)) : RS ro_graph_longest rh_graph_longest := RS.get (Q_graph_longest a0)
/-! ### graph_May -/
abbrev ro_graph_May : List EK := [.ty (.int .i64)]
abbrev rh_graph_May : List HK := []
noncomputable def M_graph_May (n : Nat) (a0 : (List NodeS)) : Option Res :=
 let y1 : ((Bool × Unit) × Unit) := (q_graph_form a0)
 cond (ok_graph_form a0)
 (cond (!y1.1.1)
 (some (encRes ro_graph_May rh_graph_May (((3 : Int), ()), ())))
 (cond (decide ((((List.length a0) : Nat) : Int) > (32 : Int)))
 (some (encRes ro_graph_May rh_graph_May (((12 : Int), ()), ())))
 (let y2 : ((Bool × Unit) × Unit) := (q_graph_refs a0)
 cond (ok_graph_refs a0)
 (cond (!y2.1.1)
 (some (encRes ro_graph_May rh_graph_May (((8 : Int), ()), ())))
 (let y3 : ((Unit × (Bool × Unit)) × (((List NodeS) × Unit) × ((Unit × Unit) × ((Int → Option (Int)) × ((Bool × Unit) × ((Unit × Unit) × ((Int → Option (Int)) × ((Unit × Unit) × Unit)))))))) := (q_graph_longest a0)
 cond (ok_graph_longest a0)
 (cond (!y3.1.2.1)
 (some (encRes ro_graph_May rh_graph_May (((10 : Int), ()), ())))
 (some (encRes ro_graph_May rh_graph_May (((0 : Int), ()), ()))))
 (none)))
 (none))))
 (none)
noncomputable def Q_graph_May (a0 : (List NodeS)) : Option (RS ro_graph_May rh_graph_May) := decRes ro_graph_May rh_graph_May (M_graph_May FUEL a0)
noncomputable def ok_graph_May (a0 : (List NodeS)) : Bool := (Q_graph_May a0).isSome
noncomputable def q_graph_May (a0 : (List NodeS)) : RS ro_graph_May rh_graph_May := RS.get (Q_graph_May a0)
/-! ### walk_steps -/
abbrev ro_walk_steps : List EK := [.fn 37 [(0, 0, 0), (1, 0, 0)]]
abbrev rh_walk_steps : List HK := [.one true [.ty (.slice NodeT)], .one true [.ty .str]]
noncomputable def M_walk_steps (n : Nat) (a0 : (List NodeS)) (a1 : ByteArray) : Option Res :=
 some (encRes ro_walk_steps rh_walk_steps (((), ()), ((a0, ()), ((a1, ()), ()))))
noncomputable def Q_walk_steps (a0 : (List NodeS)) (a1 : ByteArray) : Option (RS ro_walk_steps rh_walk_steps) := decRes ro_walk_steps rh_walk_steps (M_walk_steps FUEL a0 a1)
noncomputable def ok_walk_steps (a0 : (List NodeS)) (a1 : ByteArray) : Bool := (Q_walk_steps a0 a1).isSome
noncomputable def q_walk_steps (a0 : (List NodeS)) (a1 : ByteArray) : RS ro_walk_steps rh_walk_steps := RS.get (Q_walk_steps a0 a1)
/-! ### walk_may -/
abbrev ro_walk_may : List EK := [.ty .bool]
abbrev rh_walk_may : List HK := []
noncomputable def M_walk_may (n : Nat) (a0 : NodeS) : Option Res :=
 cond (decide (a0.2.1 < (0 : Int)))
 (some (encRes ro_walk_may rh_walk_may ((false, ()), ())))
 (cond (decide (a0.2.1 > (256 : Int)))
 (some (encRes ro_walk_may rh_walk_may ((false, ()), ())))
 (cond (decide (a0.2.2.1 < (0 : Int)))
 (some (encRes ro_walk_may rh_walk_may ((false, ()), ())))
 (cond (decide (a0.2.2.1 > (2048 : Int)))
 (some (encRes ro_walk_may rh_walk_may ((false, ()), ())))
 (cond (decide (a0.2.2.2.1 < (0 : Int)))
 (some (encRes ro_walk_may rh_walk_may ((false, ()), ())))
 (cond (decide (a0.2.2.2.1 > (16 : Int)))
 (some (encRes ro_walk_may rh_walk_may ((false, ()), ())))
 (cond (a0.2.2.2.1 == (0 : Int))
 (cond (a0.2.2.1 == (0 : Int))
 (some (encRes ro_walk_may rh_walk_may (((a0.2.2.2.2.1 == (0 : Int)), ()), ())))
 (some (encRes ro_walk_may rh_walk_may ((false, ()), ()))))
 (cond (decide (a0.2.2.2.2.1 ≥ (1 : Int)))
 (some (encRes ro_walk_may rh_walk_may (((decide (a0.2.2.2.2.1 ≤ (256 : Int))), ()), ())))
 (some (encRes ro_walk_may rh_walk_may ((false, ()), ()))))))))))
noncomputable def Q_walk_may (a0 : NodeS) : Option (RS ro_walk_may rh_walk_may) := decRes ro_walk_may rh_walk_may (M_walk_may FUEL a0)
noncomputable def ok_walk_may (a0 : NodeS) : Bool := (Q_walk_may a0).isSome
noncomputable def q_walk_may (a0 : NodeS) : RS ro_walk_may rh_walk_may := RS.get (Q_walk_may a0)
/-! ### field_may -/
abbrev ro_field_may : List EK := [.ty (.int .i64)]
abbrev rh_field_may : List HK := []
noncomputable def M_field_may (n : Nat) (a0 : ByteArray) (a1 : Int) (a2 : Int) : Option Res :=
 cond (decide (a2 < (1 : Int)))
 (some (encRes ro_field_may rh_field_may (((1 : Int), ()), ())))
 (cond (decide (a2 > (128 : Int)))
 (some (encRes ro_field_may rh_field_may (((1 : Int), ()), ())))
 (cond (decide (a1 < (0 : Int)))
 (some (encRes ro_field_may rh_field_may (((1 : Int), ()), ())))
 (let y1 : Int := (IntKind.wrap .i64 ((IntKind.wrap .i64 ((8 : Int) * ((ByteArray.size a0 : Nat) : Int))) - a2))
 cond (decide (a1 > y1))
 (some (encRes ro_field_may rh_field_may (((4 : Int), ()), ())))
 (some (encRes ro_field_may rh_field_may (((0 : Int), ()), ()))))))
noncomputable def Q_field_may (a0 : ByteArray) (a1 : Int) (a2 : Int) : Option (RS ro_field_may rh_field_may) := decRes ro_field_may rh_field_may (M_field_may FUEL a0 a1 a2)
noncomputable def ok_field_may (a0 : ByteArray) (a1 : Int) (a2 : Int) : Bool := (Q_field_may a0 a1 a2).isSome
noncomputable def q_field_may (a0 : ByteArray) (a1 : Int) (a2 : Int) : RS ro_field_may rh_field_may := RS.get (Q_field_may a0 a1 a2)
/-! ### word_Left -/
abbrev ro_word_Left : List EK := [.agg WordT]
abbrev rh_word_Left : List HK := []
noncomputable def M_word_Left (n : Nat) (a0 : WordS) (a1 : Int) : Option Res :=
 cond (decide (a1 ≤ (0 : Int)))
 (some (encRes ro_word_Left rh_word_Left ((a0, ()), ())))
 (cond (decide (a1 ≥ (64 : Int)))
 (cond (decide ((0 : Int) ≤ (IntKind.wrap .i64 (a1 - (64 : Int)))))
 (let y1 : Int := (IntKind.wrap .u64 (a0.2.1 * 2 ^ (min (Int.toNat (IntKind.wrap .i64 (a1 - (64 : Int)))) (IntKind.bits .u64))))
 some (encRes ro_word_Left rh_word_Left (((y1, ((0 : Int), ())), ()), ())))
 (none))
 (cond (decide ((0 : Int) ≤ a1))
 (cond (decide ((0 : Int) ≤ (IntKind.wrap .i64 ((64 : Int) - a1))))
 (let y2 : Int := (Int.fdiv a0.2.1 (2 ^ (min (Int.toNat (IntKind.wrap .i64 ((64 : Int) - a1))) (IntKind.bits .u64))))
 let y3 : Int := (IntKind.wrap .u64 (BitVec.toNat (BitVec.ofInt (IntKind.bits .u64) (IntKind.wrap .u64 (a0.1 * 2 ^ (min (Int.toNat a1) (IntKind.bits .u64)))) ||| BitVec.ofInt (IntKind.bits .u64) y2) : Nat))
 cond (decide ((0 : Int) ≤ a1))
 (some (encRes ro_word_Left rh_word_Left (((y3, ((IntKind.wrap .u64 (a0.2.1 * 2 ^ (min (Int.toNat a1) (IntKind.bits .u64)))), ())), ()), ())))
 (none))
 (none))
 (none)))
noncomputable def Q_word_Left (a0 : WordS) (a1 : Int) : Option (RS ro_word_Left rh_word_Left) := decRes ro_word_Left rh_word_Left (M_word_Left FUEL a0 a1)
noncomputable def ok_word_Left (a0 : WordS) (a1 : Int) : Bool := (Q_word_Left a0 a1).isSome
noncomputable def q_word_Left (a0 : WordS) (a1 : Int) : RS ro_word_Left rh_word_Left := RS.get (Q_word_Left a0 a1)
/-! ### word_New -/
abbrev ro_word_New : List EK := [.agg WordT]
abbrev rh_word_New : List HK := []
noncomputable def M_word_New (n : Nat) (a0 : Int) : Option Res :=
 some (encRes ro_word_New rh_word_New ((((0 : Int), (a0, ())), ()), ()))
noncomputable def Q_word_New (a0 : Int) : Option (RS ro_word_New rh_word_New) := decRes ro_word_New rh_word_New (M_word_New FUEL a0)
noncomputable def ok_word_New (a0 : Int) : Bool := (Q_word_New a0).isSome
noncomputable def q_word_New (a0 : Int) : RS ro_word_New rh_word_New := RS.get (Q_word_New a0)
/-! ### word_Or -/
abbrev ro_word_Or : List EK := [.agg WordT]
abbrev rh_word_Or : List HK := []
noncomputable def M_word_Or (n : Nat) (a0 : WordS) (a1 : WordS) : Option Res :=
 let y1 : Int := (IntKind.wrap .u64 (BitVec.toNat (BitVec.ofInt (IntKind.bits .u64) a0.1 ||| BitVec.ofInt (IntKind.bits .u64) a1.1) : Nat))
 let y2 : Int := (IntKind.wrap .u64 (BitVec.toNat (BitVec.ofInt (IntKind.bits .u64) a0.2.1 ||| BitVec.ofInt (IntKind.bits .u64) a1.2.1) : Nat))
 some (encRes ro_word_Or rh_word_Or (((y1, (y2, ())), ()), ()))
noncomputable def Q_word_Or (a0 : WordS) (a1 : WordS) : Option (RS ro_word_Or rh_word_Or) := decRes ro_word_Or rh_word_Or (M_word_Or FUEL a0 a1)
noncomputable def ok_word_Or (a0 : WordS) (a1 : WordS) : Bool := (Q_word_Or a0 a1).isSome
noncomputable def q_word_Or (a0 : WordS) (a1 : WordS) : RS ro_word_Or rh_word_Or := RS.get (Q_word_Or a0 a1)
/-! ### word_Not -/
abbrev ro_word_Not : List EK := [.agg WordT]
abbrev rh_word_Not : List HK := []
noncomputable def M_word_Not (n : Nat) (a0 : WordS) : Option Res :=
 let y1 : Int := (IntKind.wrap .u64 (BitVec.toNat (BitVec.ofInt (IntKind.bits .u64) (IntKind.max .u64) ^^^ BitVec.ofInt (IntKind.bits .u64) a0.1) : Nat))
 let y2 : Int := (IntKind.wrap .u64 (BitVec.toNat (BitVec.ofInt (IntKind.bits .u64) (IntKind.max .u64) ^^^ BitVec.ofInt (IntKind.bits .u64) a0.2.1) : Nat))
 some (encRes ro_word_Not rh_word_Not (((y1, (y2, ())), ()), ()))
noncomputable def Q_word_Not (a0 : WordS) : Option (RS ro_word_Not rh_word_Not) := decRes ro_word_Not rh_word_Not (M_word_Not FUEL a0)
noncomputable def ok_word_Not (a0 : WordS) : Bool := (Q_word_Not a0).isSome
noncomputable def q_word_Not (a0 : WordS) : RS ro_word_Not rh_word_Not := RS.get (Q_word_Not a0)
/-! ### word_Right -/
abbrev ro_word_Right : List EK := [.agg WordT]
abbrev rh_word_Right : List HK := []
noncomputable def M_word_Right (n : Nat) (a0 : WordS) (a1 : Int) : Option Res :=
 cond (decide (a1 ≤ (0 : Int)))
 (some (encRes ro_word_Right rh_word_Right ((a0, ()), ())))
 (cond (decide (a1 ≥ (64 : Int)))
 (cond (decide ((0 : Int) ≤ (IntKind.wrap .i64 (a1 - (64 : Int)))))
 (let y1 : Int := (Int.fdiv a0.1 (2 ^ (min (Int.toNat (IntKind.wrap .i64 (a1 - (64 : Int)))) (IntKind.bits .u64))))
 some (encRes ro_word_Right rh_word_Right ((((0 : Int), (y1, ())), ()), ())))
 (none))
 (cond (decide ((0 : Int) ≤ a1))
 (cond (decide ((0 : Int) ≤ a1))
 (cond (decide ((0 : Int) ≤ (IntKind.wrap .i64 ((64 : Int) - a1))))
 (let y2 : Int := (IntKind.wrap .u64 (a0.1 * 2 ^ (min (Int.toNat (IntKind.wrap .i64 ((64 : Int) - a1))) (IntKind.bits .u64))))
 let y3 : Int := (IntKind.wrap .u64 (BitVec.toNat (BitVec.ofInt (IntKind.bits .u64) (Int.fdiv a0.2.1 (2 ^ (min (Int.toNat a1) (IntKind.bits .u64)))) ||| BitVec.ofInt (IntKind.bits .u64) y2) : Nat))
 some (encRes ro_word_Right rh_word_Right ((((Int.fdiv a0.1 (2 ^ (min (Int.toNat a1) (IntKind.bits .u64)))), (y3, ())), ()), ())))
 (none))
 (none))
 (none)))
noncomputable def Q_word_Right (a0 : WordS) (a1 : Int) : Option (RS ro_word_Right rh_word_Right) := decRes ro_word_Right rh_word_Right (M_word_Right FUEL a0 a1)
noncomputable def ok_word_Right (a0 : WordS) (a1 : Int) : Bool := (Q_word_Right a0 a1).isSome
noncomputable def q_word_Right (a0 : WordS) (a1 : Int) : RS ro_word_Right rh_word_Right := RS.get (Q_word_Right a0 a1)
/-! ### word_Mask -/
abbrev ro_word_Mask : List EK := [.agg WordT]
abbrev rh_word_Mask : List HK := []
noncomputable def M_word_Mask (n : Nat) (a0 : Int) : Option Res :=
 let y1 : ((WordS × Unit) × Unit) := (q_word_Not ((0 : Int), ((0 : Int), ())))
 cond (ok_word_Not ((0 : Int), ((0 : Int), ())))
 (let y2 : Int := (if (128 : Int) < (if (0 : Int) > a0 then (0 : Int) else a0) then (128 : Int) else (if (0 : Int) > a0 then (0 : Int) else a0))
 let y3 : ((WordS × Unit) × Unit) := (q_word_Right y1.1.1 (IntKind.wrap .i64 ((128 : Int) - y2)))
 cond (ok_word_Right y1.1.1 (IntKind.wrap .i64 ((128 : Int) - y2)))
 (some (encRes ro_word_Mask rh_word_Mask ((y3.1.1, ()), ())))
 (none))
 (none)
noncomputable def Q_word_Mask (a0 : Int) : Option (RS ro_word_Mask rh_word_Mask) := decRes ro_word_Mask rh_word_Mask (M_word_Mask FUEL a0)
noncomputable def ok_word_Mask (a0 : Int) : Bool := (Q_word_Mask a0).isSome
noncomputable def q_word_Mask (a0 : Int) : RS ro_word_Mask rh_word_Mask := RS.get (Q_word_Mask a0)
/-! ### word_And -/
abbrev ro_word_And : List EK := [.agg WordT]
abbrev rh_word_And : List HK := []
noncomputable def M_word_And (n : Nat) (a0 : WordS) (a1 : WordS) : Option Res :=
 let y1 : Int := (IntKind.wrap .u64 (BitVec.toNat (BitVec.ofInt (IntKind.bits .u64) a0.1 &&& BitVec.ofInt (IntKind.bits .u64) a1.1) : Nat))
 let y2 : Int := (IntKind.wrap .u64 (BitVec.toNat (BitVec.ofInt (IntKind.bits .u64) a0.2.1 &&& BitVec.ofInt (IntKind.bits .u64) a1.2.1) : Nat))
 some (encRes ro_word_And rh_word_And (((y1, (y2, ())), ()), ()))
noncomputable def Q_word_And (a0 : WordS) (a1 : WordS) : Option (RS ro_word_And rh_word_And) := decRes ro_word_And rh_word_And (M_word_And FUEL a0 a1)
noncomputable def ok_word_And (a0 : WordS) (a1 : WordS) : Bool := (Q_word_And a0 a1).isSome
noncomputable def q_word_And (a0 : WordS) (a1 : WordS) : RS ro_word_And rh_word_And := RS.get (Q_word_And a0 a1)
/-! ### word_Cut -/
abbrev ro_word_Cut : List EK := [.agg WordT]
abbrev rh_word_Cut : List HK := []
noncomputable def M_word_Cut (n : Nat) (a0 : WordS) (a1 : Int) : Option Res :=
 let y1 : ((WordS × Unit) × Unit) := (q_word_Mask a1)
 cond (ok_word_Mask a1)
 (let y2 : ((WordS × Unit) × Unit) := (q_word_And a0 y1.1.1)
 cond (ok_word_And a0 y1.1.1)
 (some (encRes ro_word_Cut rh_word_Cut ((y2.1.1, ()), ())))
 (none))
 (none)
noncomputable def Q_word_Cut (a0 : WordS) (a1 : Int) : Option (RS ro_word_Cut rh_word_Cut) := decRes ro_word_Cut rh_word_Cut (M_word_Cut FUEL a0 a1)
noncomputable def ok_word_Cut (a0 : WordS) (a1 : Int) : Bool := (Q_word_Cut a0 a1).isSome
noncomputable def q_word_Cut (a0 : WordS) (a1 : Int) : RS ro_word_Cut rh_word_Cut := RS.get (Q_word_Cut a0 a1)
/-! ### field_Get -/
abbrev ro_field_Get : List EK := [.agg WordT, .ty (.int .i64)]
abbrev rh_field_Get : List HK := []
noncomputable def F_field_Get_0 (n : Nat) (k_t0 : WordS → Option Res) (x0_0 : ByteArray) (x0_1 : Int) (x0_2 : Int) (x0_3 : Int) (x0_4 : Int) (x0_5 : Int) (x0_7 : WordS) (rec : Int → WordS → Option Res) (x0_6 : Int) (x0_8 : WordS) : Option Res :=
 cond (decide (x0_6 < x0_5))
 (let y4 : ((WordS × Unit) × Unit) := (q_word_Left x0_8 (8 : Int))
 cond (ok_word_Left x0_8 (8 : Int))
 (cond (decide ((0 : Int) ≤ (IntKind.wrap .i64 (x0_3 + x0_6)) ∧ (IntKind.wrap .i64 (x0_3 + x0_6)) < ((ByteArray.size x0_0 : Nat) : Int)))
 (let y5 : ((WordS × Unit) × Unit) := (q_word_New (IntKind.wrap .u64 (byteAt x0_0 (Int.toNat (IntKind.wrap .i64 (x0_3 + x0_6))))))
 cond (ok_word_New (IntKind.wrap .u64 (byteAt x0_0 (Int.toNat (IntKind.wrap .i64 (x0_3 + x0_6))))))
 (let y6 : ((WordS × Unit) × Unit) := (q_word_Or y4.1.1 y5.1.1)
 cond (ok_word_Or y4.1.1 y5.1.1)
 (rec (IntKind.wrap .i64 (x0_6 + (1 : Int))) y6.1.1)
 (none))
 (none))
 (none))
 (none))
 (k_t0 x0_8)
noncomputable def L_field_Get_0 (n : Nat) (k_t0 : WordS → Option Res) (x0_0 : ByteArray) (x0_1 : Int) (x0_2 : Int) (x0_3 : Int) (x0_4 : Int) (x0_5 : Int) (x0_7 : WordS) : Nat → Int → WordS → Option Res
  | 0, _, _ => none
  | m + 1, x0_6, x0_8 => F_field_Get_0 n k_t0 x0_0 x0_1 x0_2 x0_3 x0_4 x0_5 x0_7 (L_field_Get_0 n k_t0 x0_0 x0_1 x0_2 x0_3 x0_4 x0_5 x0_7 m) x0_6 x0_8
noncomputable def M_field_Get (n : Nat) (a0 : ByteArray) (a1 : Int) (a2 : Int) : Option Res :=
 let y1 : ((Int × Unit) × Unit) := (q_field_may a0 a1 a2)
 cond (ok_field_may a0 a1 a2)
 (cond (y1.1.1 != (0 : Int))
 (some (encRes ro_field_Get rh_field_Get ((((0 : Int), ((0 : Int), ())), (y1.1.1, ())), ())))
 (cond ((8 : Int) != 0)
 (let y2 : Int := (IntKind.wrap .i64 ((IntKind.wrap .i64 ((IntKind.wrap .i64 (a1 + a2)) + (8 : Int))) - (1 : Int)))
 cond ((8 : Int) != 0)
 (let y3 : Int := (IntKind.wrap .i64 ((IntKind.wrap .i64 (Int.tdiv y2 (8 : Int))) - (IntKind.wrap .i64 (Int.tdiv a1 (8 : Int)))))
 L_field_Get_0 n
  (fun y7 => let y8 : Int := (IntKind.wrap .i64 ((IntKind.wrap .i64 ((IntKind.wrap .i64 (Int.tdiv y2 (8 : Int))) * (8 : Int))) - a1))
 let y9 : ((WordS × Unit) × Unit) := (q_word_Left y7 (IntKind.wrap .i64 ((8 : Int) - (IntKind.wrap .i64 (y8 - a2)))))
 cond (ok_word_Left y7 (IntKind.wrap .i64 ((8 : Int) - (IntKind.wrap .i64 (y8 - a2)))))
 (cond (decide ((0 : Int) ≤ (IntKind.wrap .i64 ((IntKind.wrap .i64 (Int.tdiv y2 (8 : Int))) - (1 : Int))) ∧ (IntKind.wrap .i64 ((IntKind.wrap .i64 (Int.tdiv y2 (8 : Int))) - (1 : Int))) < ((ByteArray.size a0 : Nat) : Int)))
 (let y10 : Int := (byteAt a0 (Int.toNat (IntKind.wrap .i64 ((IntKind.wrap .i64 (Int.tdiv y2 (8 : Int))) - (1 : Int)))))
 cond (decide ((0 : Int) ≤ (IntKind.wrap .i64 (y8 - a2))))
 (let y11 : Int := (IntKind.wrap .u64 (Int.fdiv y10 (2 ^ (min (Int.toNat (IntKind.wrap .i64 (y8 - a2))) (IntKind.bits .u8)))))
 let y12 : ((WordS × Unit) × Unit) := (q_word_New y11)
 cond (ok_word_New y11)
 (let y13 : ((WordS × Unit) × Unit) := (q_word_Or y9.1.1 y12.1.1)
 cond (ok_word_Or y9.1.1 y12.1.1)
 (let y14 : ((WordS × Unit) × Unit) := (q_word_Cut y13.1.1 a2)
 cond (ok_word_Cut y13.1.1 a2)
 (some (encRes ro_field_Get rh_field_Get ((y14.1.1, ((0 : Int), ())), ())))
 (none))
 (none))
 (none))
 (none))
 (none))
 (none))
  a0
  a1
  a2
  (IntKind.wrap .i64 (Int.tdiv a1 (8 : Int)))
  (IntKind.wrap .i64 (Int.tdiv y2 (8 : Int)))
  (IntKind.wrap .i64 (y3 - (1 : Int)))
  ((0 : Int), ((0 : Int), ()))
  n
  (0 : Int)
  ((0 : Int), ((0 : Int), ())))
 (none))
 (none)))
 (none)
noncomputable def Q_field_Get (a0 : ByteArray) (a1 : Int) (a2 : Int) : Option (RS ro_field_Get rh_field_Get) := decRes ro_field_Get rh_field_Get (M_field_Get FUEL a0 a1 a2)
noncomputable def ok_field_Get (a0 : ByteArray) (a1 : Int) (a2 : Int) : Bool := (Q_field_Get a0 a1 a2).isSome
noncomputable def q_field_Get (a0 : ByteArray) (a1 : Int) (a2 : Int) : RS ro_field_Get rh_field_Get := RS.get (Q_field_Get a0 a1 a2)
/-! ### walk_number -/
abbrev ro_walk_number : List EK := [.ty (.int .i64), .ty .bool]
abbrev rh_walk_number : List HK := []
noncomputable def M_walk_number (n : Nat) (a0 : ByteArray) (a1 : Int) (a2 : Int) (a3 : Int) : Option Res :=
 cond (decide (a1 < (0 : Int)))
 (some (encRes ro_walk_number rh_walk_number (((0 : Int), (false, ())), ())))
 (cond (decide (a1 > ((ByteArray.size a0 : Nat) : Int)))
 (some (encRes ro_walk_number rh_walk_number (((0 : Int), (false, ())), ())))
 (cond (decide ((0 : Int) ≤ a1 ∧ a1 ≤ ((ByteArray.size a0 : Nat) : Int) ∧ ((ByteArray.size a0 : Nat) : Int) ≤ ((ByteArray.size a0 : Nat) : Int)))
 (let y1 : ByteArray := (ByteArray.extract a0 (Int.toNat a1) (Int.toNat ((ByteArray.size a0 : Nat) : Int)))
 let y2 : ((WordS × (Int × Unit)) × Unit) := (q_field_Get y1 a2 a3)
 cond (ok_field_Get y1 a2 a3)
 (some (encRes ro_walk_number rh_walk_number (((IntKind.wrap .i64 y2.1.1.2.1), ((y2.1.2.1 == (0 : Int)), ())), ())))
 (none))
 (none)))
noncomputable def Q_walk_number (a0 : ByteArray) (a1 : Int) (a2 : Int) (a3 : Int) : Option (RS ro_walk_number rh_walk_number) := decRes ro_walk_number rh_walk_number (M_walk_number FUEL a0 a1 a2 a3)
noncomputable def ok_walk_number (a0 : ByteArray) (a1 : Int) (a2 : Int) (a3 : Int) : Bool := (Q_walk_number a0 a1 a2 a3).isSome
noncomputable def q_walk_number (a0 : ByteArray) (a1 : Int) (a2 : Int) (a3 : Int) : RS ro_walk_number rh_walk_number := RS.get (Q_walk_number a0 a1 a2 a3)
/-! ### walk_Size -/
abbrev ro_walk_Size : List EK := [.ty (.int .i64), .ty (.int .i64)]
abbrev rh_walk_Size : List HK := []
noncomputable def M_walk_Size (n : Nat) (a0 : NodeS) (a1 : ByteArray) (a2 : Int) : Option Res :=
 let y1 : ((Bool × Unit) × Unit) := (q_walk_may a0)
 cond (ok_walk_may a0)
 (cond (!y1.1.1)
 (some (encRes ro_walk_Size rh_walk_Size (((0 : Int), ((4 : Int), ())), ())))
 (cond (decide (a0.2.2.2.1 > (0 : Int)))
 (let y2 : ((Int × (Bool × Unit)) × Unit) := (q_walk_number a1 a2 a0.2.2.1 a0.2.2.2.1)
 cond (ok_walk_number a1 a2 a0.2.2.1 a0.2.2.2.1)
 (cond (!y2.1.2.1)
 (some (encRes ro_walk_Size rh_walk_Size (((0 : Int), ((1 : Int), ())), ())))
 (cond (decide ((IntKind.wrap .i64 (a0.2.1 + (IntKind.wrap .i64 (a0.2.2.2.2.1 * y2.1.1)))) > (256 : Int)))
 (some (encRes ro_walk_Size rh_walk_Size (((0 : Int), ((2 : Int), ())), ())))
 (cond (decide (a2 < (0 : Int)))
 (some (encRes ro_walk_Size rh_walk_Size (((0 : Int), ((1 : Int), ())), ())))
 (cond (decide (a2 > ((ByteArray.size a1 : Nat) : Int)))
 (some (encRes ro_walk_Size rh_walk_Size (((0 : Int), ((1 : Int), ())), ())))
 (cond (decide ((IntKind.wrap .i64 (a0.2.1 + (IntKind.wrap .i64 (a0.2.2.2.2.1 * y2.1.1)))) > (IntKind.wrap .i64 (((ByteArray.size a1 : Nat) : Int) - a2))))
 (some (encRes ro_walk_Size rh_walk_Size (((0 : Int), ((1 : Int), ())), ())))
 (some (encRes ro_walk_Size rh_walk_Size (((IntKind.wrap .i64 (a0.2.1 + (IntKind.wrap .i64 (a0.2.2.2.2.1 * y2.1.1)))), ((0 : Int), ())), ()))))))))
 (none))
 (cond (decide (a0.2.1 > (256 : Int)))
 (some (encRes ro_walk_Size rh_walk_Size (((0 : Int), ((2 : Int), ())), ())))
 (cond (decide (a2 < (0 : Int)))
 (some (encRes ro_walk_Size rh_walk_Size (((0 : Int), ((1 : Int), ())), ())))
 (cond (decide (a2 > ((ByteArray.size a1 : Nat) : Int)))
 (some (encRes ro_walk_Size rh_walk_Size (((0 : Int), ((1 : Int), ())), ())))
 (cond (decide (a0.2.1 > (IntKind.wrap .i64 (((ByteArray.size a1 : Nat) : Int) - a2))))
 (some (encRes ro_walk_Size rh_walk_Size (((0 : Int), ((1 : Int), ())), ())))
 (some (encRes ro_walk_Size rh_walk_Size ((a0.2.1, ((0 : Int), ())), ())))))))))
 (none)
noncomputable def Q_walk_Size (a0 : NodeS) (a1 : ByteArray) (a2 : Int) : Option (RS ro_walk_Size rh_walk_Size) := decRes ro_walk_Size rh_walk_Size (M_walk_Size FUEL a0 a1 a2)
noncomputable def ok_walk_Size (a0 : NodeS) (a1 : ByteArray) (a2 : Int) : Bool := (Q_walk_Size a0 a1 a2).isSome
noncomputable def q_walk_Size (a0 : NodeS) (a1 : ByteArray) (a2 : Int) : RS ro_walk_Size rh_walk_Size := RS.get (Q_walk_Size a0 a1 a2)
/-! ### graph_Next -/
abbrev ro_graph_Next : List EK := [.ty (.int .i64)]
abbrev rh_graph_Next : List HK := []
noncomputable def F_graph_Next_0 (n : Nat) (k_r : Int → Option Res) (k_t0 : Unit → Option Res) (x0_0 : Int) (x0_1 : (List ArmS)) (x0_2 : Int) (x0_4 : NodeS) (rec : Int → Option Res) (x0_3 : Int) : Option Res :=
 cond (decide (x0_3 < x0_2))
 (cond (decide ((0 : Int) ≤ x0_3 ∧ x0_3 < (((List.length x0_1) : Nat) : Int)))
 (cond ((rdd zArmS x0_1 (Int.toNat x0_3)).1 == x0_0)
 (k_r ((rdd zArmS x0_1 (Int.toNat x0_3)).2.1))
 (rec (IntKind.wrap .i64 (x0_3 + (1 : Int)))))
 (none))
 (k_t0 ())
noncomputable def L_graph_Next_0 (n : Nat) (k_r : Int → Option Res) (k_t0 : Unit → Option Res) (x0_0 : Int) (x0_1 : (List ArmS)) (x0_2 : Int) (x0_4 : NodeS) : Nat → Int → Option Res
  | 0, _ => none
  | m + 1, x0_3 => F_graph_Next_0 n k_r k_t0 x0_0 x0_1 x0_2 x0_4 (L_graph_Next_0 n k_r k_t0 x0_0 x0_1 x0_2 x0_4 m) x0_3
noncomputable def M_graph_Next (n : Nat) (a0 : (List NodeS)) (a1 : Int) (a2 : Int) : Option Res :=
 let y1 : ((NodeS × (Bool × Unit)) × Unit) := (q_graph_Find a0 a1)
 cond (ok_graph_Find a0 a1)
 (L_graph_Next_0 n
  (fun y2 => some (encRes ro_graph_Next rh_graph_Next ((y2, ()), ())))
  (fun _ => some (encRes ro_graph_Next rh_graph_Next ((y1.1.1.2.2.2.2.2.2.2.2.1, ()), ())))
  a2
  y1.1.1.2.2.2.2.2.2.2.1
  (((List.length y1.1.1.2.2.2.2.2.2.2.1) : Nat) : Int)
  y1.1.1
  n
  (0 : Int))
 (none)
noncomputable def Q_graph_Next (a0 : (List NodeS)) (a1 : Int) (a2 : Int) : Option (RS ro_graph_Next rh_graph_Next) := decRes ro_graph_Next rh_graph_Next (M_graph_Next FUEL a0 a1 a2)
noncomputable def ok_graph_Next (a0 : (List NodeS)) (a1 : Int) (a2 : Int) : Bool := (Q_graph_Next a0 a1 a2).isSome
noncomputable def q_graph_Next (a0 : (List NodeS)) (a1 : Int) (a2 : Int) : RS ro_graph_Next rh_graph_Next := RS.get (Q_graph_Next a0 a1 a2)
/-! ### walk_next -/
abbrev ro_walk_next : List EK := [.ty (.int .i64), .ty (.int .i64)]
abbrev rh_walk_next : List HK := []
noncomputable def M_walk_next (n : Nat) (a0 : (List NodeS)) (a1 : NodeS) (a2 : ByteArray) (a3 : Int) : Option Res :=
 cond (decide (a1.2.2.2.2.2.2.1 > (0 : Int)))
 (let y1 : ((Int × (Bool × Unit)) × Unit) := (q_walk_number a2 a3 a1.2.2.2.2.2.1 a1.2.2.2.2.2.2.1)
 cond (ok_walk_number a2 a3 a1.2.2.2.2.2.1 a1.2.2.2.2.2.2.1)
 (cond (!y1.1.2.1)
 (some (encRes ro_walk_next rh_walk_next (((0 : Int), ((1 : Int), ())), ())))
 (let y2 : ((Int × Unit) × Unit) := (q_graph_Next a0 a1.1 (IntKind.wrap .u32 y1.1.1))
 cond (ok_graph_Next a0 a1.1 (IntKind.wrap .u32 y1.1.1))
 (cond (y2.1.1 == (65535 : Int))
 (some (encRes ro_walk_next rh_walk_next (((0 : Int), ((4 : Int), ())), ())))
 (some (encRes ro_walk_next rh_walk_next ((y2.1.1, ((0 : Int), ())), ()))))
 (none)))
 (none))
 (let y3 : ((Int × Unit) × Unit) := (q_graph_Next a0 a1.1 (IntKind.wrap .u32 (0 : Int)))
 cond (ok_graph_Next a0 a1.1 (IntKind.wrap .u32 (0 : Int)))
 (cond (y3.1.1 == (65535 : Int))
 (some (encRes ro_walk_next rh_walk_next (((0 : Int), ((4 : Int), ())), ())))
 (some (encRes ro_walk_next rh_walk_next ((y3.1.1, ((0 : Int), ())), ()))))
 (none))
noncomputable def Q_walk_next (a0 : (List NodeS)) (a1 : NodeS) (a2 : ByteArray) (a3 : Int) : Option (RS ro_walk_next rh_walk_next) := decRes ro_walk_next rh_walk_next (M_walk_next FUEL a0 a1 a2 a3)
noncomputable def ok_walk_next (a0 : (List NodeS)) (a1 : NodeS) (a2 : ByteArray) (a3 : Int) : Bool := (Q_walk_next a0 a1 a2 a3).isSome
noncomputable def q_walk_next (a0 : (List NodeS)) (a1 : NodeS) (a2 : ByteArray) (a3 : Int) : RS ro_walk_next rh_walk_next := RS.get (Q_walk_next a0 a1 a2 a3)
/-! ### walk_steps_1 -/
abbrev ro_walk_steps_1 : List EK := []
abbrev rh_walk_steps_1 : List HK := [.lp 0 [.junk, .junk, .junk, .junk, .junk, .junk, .junk, .ptr 1 0 0, .ptr 3 0 0, .ptr 4 0 0, .junk, .junk, .junk, .junk, .junk, .junk, .junk, .junk, .junk, .junk, .junk, .junk, .junk, .junk, .junk, .junk, .junk, .junk, .junk, .junk, .junk, .junk], .one false [.hs 7 0], .gone, .one true [.ty (.int .i64)], .one true [.ty (.int .i64)], .one true [.ty (.slice NodeT)], .one true [.ty .str], .row HeadT]
noncomputable def F_walk_steps_1_0 (n : Nat) (k_r : Nat → Int → Int → (List HeadS) → Option Res) (k_t0 : Nat → Int → Int → (List HeadS) → Option Res) (x0_5 : (List NodeS)) (x0_6 : ByteArray) (rec : Int → Bool → Nat → Int → Int → (List HeadS) → NodeS → Option Res) (x0_0 : Int) (x0_1 : Bool) (x0_2 : Nat) (x0_3 : Int) (x0_4 : Int) (x0_7 : (List HeadS)) (x0_8 : NodeS) : Option Res :=
 cond x0_1
 (let y2 : ((Int × (Int × Unit)) × Unit) := (q_walk_Size x0_8 x0_6 x0_0)
 cond (ok_walk_Size x0_8 x0_6 x0_0)
 (cond (y2.1.2.1 != (0 : Int))
 (k_r x0_2 (IntKind.wrap .i64 (x0_3 + (1 : Int))) y2.1.2.1 x0_7)
 (let y3 : ((Int × (Int × Unit)) × Unit) := (q_walk_next x0_5 x0_8 x0_6 x0_0)
 cond (ok_walk_next x0_5 x0_8 x0_6 x0_0)
 (cond (decide (((List.length (cutL zHeadS x0_7 0 x0_2)) + 1) * 16 ≤ 2 ^ 46 ∧ ((List.length (cutL zHeadS x0_7 0 x0_2)) + 1) ≤ 2 ^ 46))
 (cond (!true)
 (k_r ((List.length (cutL zHeadS x0_7 0 x0_2)) + 1) (IntKind.wrap .i64 (x0_3 + (1 : Int))) y3.1.2.1 ((cutL zHeadS x0_7 0 x0_2) ++ [(x0_8.1, (x0_0, ()))]))
 (cond (y3.1.2.1 != (0 : Int))
 (k_r ((List.length (cutL zHeadS x0_7 0 x0_2)) + 1) (IntKind.wrap .i64 (x0_3 + (1 : Int))) y3.1.2.1 ((cutL zHeadS x0_7 0 x0_2) ++ [(x0_8.1, (x0_0, ()))]))
 (let y4 : ((NodeS × (Bool × Unit)) × Unit) := (q_graph_Find x0_5 y3.1.1)
 cond (ok_graph_Find x0_5 y3.1.1)
 (rec (IntKind.wrap .i64 (x0_0 + y2.1.1)) y4.1.2.1 ((List.length (cutL zHeadS x0_7 0 x0_2)) + 1) (IntKind.wrap .i64 (x0_3 + (1 : Int))) y3.1.2.1 ((cutL zHeadS x0_7 0 x0_2) ++ [(x0_8.1, (x0_0, ()))]) y4.1.1)
 (none))))
 (none))
 (none)))
 (none))
 (k_t0 x0_2 x0_3 x0_4 x0_7)
noncomputable def L_walk_steps_1_0 (n : Nat) (k_r : Nat → Int → Int → (List HeadS) → Option Res) (k_t0 : Nat → Int → Int → (List HeadS) → Option Res) (x0_5 : (List NodeS)) (x0_6 : ByteArray) : Nat → Int → Bool → Nat → Int → Int → (List HeadS) → NodeS → Option Res
  | 0, _, _, _, _, _, _, _ => none
  | m + 1, x0_0, x0_1, x0_2, x0_3, x0_4, x0_7, x0_8 => F_walk_steps_1_0 n k_r k_t0 x0_5 x0_6 (L_walk_steps_1_0 n k_r k_t0 x0_5 x0_6 m) x0_0 x0_1 x0_2 x0_3 x0_4 x0_7 x0_8
noncomputable def M_walk_steps_1 (n : Nat) (a0 : Nat) (a1 : (List HeadS)) (a2 : Int) (a3 : Int) (a4 : (List NodeS)) (a5 : ByteArray) : Option Res :=
 let y1 : ((NodeS × (Bool × Unit)) × Unit) := (q_graph_Find a4 (1 : Int))
 cond (ok_graph_Find a4 (1 : Int))
 (L_walk_steps_1_0 n
  (fun y5 y6 y7 y8 => some (encRes ro_walk_steps_1 rh_walk_steps_1 ((), (((), ((), ((), ((), ((), ((), ((), ((), ((), ((), ((), ((), ((), ((), ((), ((), ((), ((), ((), ((), ((), ((), ((), ((), ((), ((), ((), ((), ((), ((), ((), ((), ())))))))))))))))))))))))))))))))), ((y5, ()), ((), ((y6, ()), ((y7, ()), ((a4, ()), ((a5, ()), (y8, ())))))))))))
  (fun y9 y10 y11 y12 => some (encRes ro_walk_steps_1 rh_walk_steps_1 ((), (((), ((), ((), ((), ((), ((), ((), ((), ((), ((), ((), ((), ((), ((), ((), ((), ((), ((), ((), ((), ((), ((), ((), ((), ((), ((), ((), ((), ((), ((), ((), ((), ())))))))))))))))))))))))))))))))), ((y9, ()), ((), ((y10, ()), ((y11, ()), ((a4, ()), ((a5, ()), (y12, ())))))))))))
  a4
  a5
  n
  (0 : Int)
  y1.1.2.1
  a0
  a2
  a3
  a1
  y1.1.1)
 (none)
noncomputable def Q_walk_steps_1 (a0 : Nat) (a1 : (List HeadS)) (a2 : Int) (a3 : Int) (a4 : (List NodeS)) (a5 : ByteArray) : Option (RS ro_walk_steps_1 rh_walk_steps_1) := decRes ro_walk_steps_1 rh_walk_steps_1 (M_walk_steps_1 FUEL a0 a1 a2 a3 a4 a5)
noncomputable def ok_walk_steps_1 (a0 : Nat) (a1 : (List HeadS)) (a2 : Int) (a3 : Int) (a4 : (List NodeS)) (a5 : ByteArray) : Bool := (Q_walk_steps_1 a0 a1 a2 a3 a4 a5).isSome
noncomputable def q_walk_steps_1 (a0 : Nat) (a1 : (List HeadS)) (a2 : Int) (a3 : Int) (a4 : (List NodeS)) (a5 : ByteArray) : RS ro_walk_steps_1 rh_walk_steps_1 := RS.get (Q_walk_steps_1 a0 a1 a2 a3 a4 a5)
/-! ### walk_Walk -/
abbrev ro_walk_Walk : List EK := [.hs 0 0, .ty (.int .i64), .ty (.int .i64)]
abbrev rh_walk_Walk : List HK := [.row HeadT]
noncomputable def M_walk_Walk (n : Nat) (a0 : (List NodeS)) (a1 : ByteArray) : Option Res :=
 let y1 : ((Int × Unit) × Unit) := (q_graph_May a0)
 cond (ok_graph_May a0)
 (cond (y1.1.1 != (0 : Int))
 (some (encRes ro_walk_Walk rh_walk_Walk ((0, ((0 : Int), ((0 : Int), ()))), ([], ()))))
 (let y2 : ((Unit × Unit) × (((List NodeS) × Unit) × ((ByteArray × Unit) × Unit))) := (q_walk_steps a0 a1)
 cond (ok_walk_steps a0 a1)
 (let y3 : (Unit × ((Unit × (Unit × (Unit × (Unit × (Unit × (Unit × (Unit × (Unit × (Unit × (Unit × (Unit × (Unit × (Unit × (Unit × (Unit × (Unit × (Unit × (Unit × (Unit × (Unit × (Unit × (Unit × (Unit × (Unit × (Unit × (Unit × (Unit × (Unit × (Unit × (Unit × (Unit × (Unit × Unit)))))))))))))))))))))))))))))))) × ((Nat × Unit) × (Unit × ((Int × Unit) × ((Int × Unit) × (((List NodeS) × Unit) × ((ByteArray × Unit) × ((List HeadS) × Unit))))))))) := (q_walk_steps_1 0 ([]) (0 : Int) (0 : Int) y2.2.1.1 y2.2.2.1.1)
 cond (ok_walk_steps_1 0 ([]) (0 : Int) (0 : Int) y2.2.1.1 y2.2.2.1.1)
 (some (encRes ro_walk_Walk rh_walk_Walk ((y3.2.2.1.1, (y3.2.2.2.2.1.1, (y3.2.2.2.2.2.1.1, ()))), (y3.2.2.2.2.2.2.2.2.1, ()))))
 (none))
 (none)))
 (none)
noncomputable def Q_walk_Walk (a0 : (List NodeS)) (a1 : ByteArray) : Option (RS ro_walk_Walk rh_walk_Walk) := decRes ro_walk_Walk rh_walk_Walk (M_walk_Walk FUEL a0 a1)
noncomputable def ok_walk_Walk (a0 : (List NodeS)) (a1 : ByteArray) : Bool := (Q_walk_Walk a0 a1).isSome
noncomputable def q_walk_Walk (a0 : (List NodeS)) (a1 : ByteArray) : RS ro_walk_Walk rh_walk_Walk := RS.get (Q_walk_Walk a0 a1)
/-! ### turnoutref16_Heads -/
abbrev ro_turnoutref16_Heads : List EK := [.ty .bool]
abbrev rh_turnoutref16_Heads : List HK := []
noncomputable def F_turnoutref16_Heads_0 (n : Nat) (k_r : Bool → Option Res) (k_t0 : Unit → Option Res) (x0_0 : (List HeadS)) (x0_1 : (List HeadS)) (rec : Int → Option Res) (x0_2 : Int) : Option Res :=
 cond (decide (x0_2 < (((List.length x0_0) : Nat) : Int)))
 (cond (decide ((0 : Int) ≤ x0_2 ∧ x0_2 < (((List.length x0_0) : Nat) : Int)))
 (cond (decide ((0 : Int) ≤ x0_2 ∧ x0_2 < (((List.length x0_1) : Nat) : Int)))
 (cond (!(((rdd zHeadS x0_0 (Int.toNat x0_2)).1 == (rdd zHeadS x0_1 (Int.toNat x0_2)).1) && (((rdd zHeadS x0_0 (Int.toNat x0_2)).2.1 == (rdd zHeadS x0_1 (Int.toNat x0_2)).2.1) && true)))
 (k_r false)
 (rec (IntKind.wrap .i64 (x0_2 + (1 : Int)))))
 (none))
 (none))
 (k_t0 ())
noncomputable def L_turnoutref16_Heads_0 (n : Nat) (k_r : Bool → Option Res) (k_t0 : Unit → Option Res) (x0_0 : (List HeadS)) (x0_1 : (List HeadS)) : Nat → Int → Option Res
  | 0, _ => none
  | m + 1, x0_2 => F_turnoutref16_Heads_0 n k_r k_t0 x0_0 x0_1 (L_turnoutref16_Heads_0 n k_r k_t0 x0_0 x0_1 m) x0_2
noncomputable def M_turnoutref16_Heads (n : Nat) (a0 : (List HeadS)) (a1 : (List HeadS)) : Option Res :=
 cond ((((List.length a0) : Nat) : Int) != (((List.length a1) : Nat) : Int))
 (some (encRes ro_turnoutref16_Heads rh_turnoutref16_Heads ((false, ()), ())))
 (L_turnoutref16_Heads_0 n
  (fun y1 => some (encRes ro_turnoutref16_Heads rh_turnoutref16_Heads ((y1, ()), ())))
  (fun _ => some (encRes ro_turnoutref16_Heads rh_turnoutref16_Heads ((true, ()), ())))
  a0
  a1
  n
  (0 : Int))
noncomputable def Q_turnoutref16_Heads (a0 : (List HeadS)) (a1 : (List HeadS)) : Option (RS ro_turnoutref16_Heads rh_turnoutref16_Heads) := decRes ro_turnoutref16_Heads rh_turnoutref16_Heads (M_turnoutref16_Heads FUEL a0 a1)
noncomputable def ok_turnoutref16_Heads (a0 : (List HeadS)) (a1 : (List HeadS)) : Bool := (Q_turnoutref16_Heads a0 a1).isSome
noncomputable def q_turnoutref16_Heads (a0 : (List HeadS)) (a1 : (List HeadS)) : RS ro_turnoutref16_Heads rh_turnoutref16_Heads := RS.get (Q_turnoutref16_Heads a0 a1)
/-! ### turnoutlaw16_is -/
abbrev ro_turnoutlaw16_is : List EK := [.ty .bool]
abbrev rh_turnoutlaw16_is : List HK := []
noncomputable def M_turnoutlaw16_is (n : Nat) (a0 : ByteArray) (a1 : Int) (a2 : Int) (a3 : (List HeadS)) : Option Res :=
 let y1 : ((Nat × Unit) × ((List NodeS) × Unit)) := q_turnoutlaw16_nodes
 cond ok_turnoutlaw16_nodes
 (let y2 : ((Nat × (Int × (Int × Unit))) × ((List HeadS) × Unit)) := (q_walk_Walk (cutL zNodeS y1.2.1 0 y1.1.1) a0)
 cond (ok_walk_Walk (cutL zNodeS y1.2.1 0 y1.1.1) a0)
 (let y3 : ((Bool × Unit) × Unit) := (q_turnoutref16_Heads (cutL zHeadS y2.2.1 0 y2.1.1) a3)
 cond (ok_turnoutref16_Heads (cutL zHeadS y2.2.1 0 y2.1.1) a3)
 (cond y3.1.1
 (cond (y2.1.2.1 == a1)
 (some (encRes ro_turnoutlaw16_is rh_turnoutlaw16_is (((y2.1.2.2.1 == a2), ()), ())))
 (some (encRes ro_turnoutlaw16_is rh_turnoutlaw16_is ((false, ()), ()))))
 (some (encRes ro_turnoutlaw16_is rh_turnoutlaw16_is ((false, ()), ()))))
 (none))
 (none))
 (none)
noncomputable def Q_turnoutlaw16_is (a0 : ByteArray) (a1 : Int) (a2 : Int) (a3 : (List HeadS)) : Option (RS ro_turnoutlaw16_is rh_turnoutlaw16_is) := decRes ro_turnoutlaw16_is rh_turnoutlaw16_is (M_turnoutlaw16_is FUEL a0 a1 a2 a3)
noncomputable def ok_turnoutlaw16_is (a0 : ByteArray) (a1 : Int) (a2 : Int) (a3 : (List HeadS)) : Bool := (Q_turnoutlaw16_is a0 a1 a2 a3).isSome
noncomputable def q_turnoutlaw16_is (a0 : ByteArray) (a1 : Int) (a2 : Int) (a3 : (List HeadS)) : RS ro_turnoutlaw16_is rh_turnoutlaw16_is := RS.get (Q_turnoutlaw16_is a0 a1 a2 a3)
/-! ### turnoutlaw16_awake -/
abbrev ro_turnoutlaw16_awake : List EK := [.ty .bool]
abbrev rh_turnoutlaw16_awake : List HK := []
noncomputable def M_turnoutlaw16_awake (n : Nat) : Option Res :=
 let y1 : ((Bool × Unit) × Unit) := (q_turnoutlaw16_is (ByteArray.mk #[0, 5, 2, 255, 255, 255]) (2 : Int) (0 : Int) ([((1 : Int), ((0 : Int), ())), ((2 : Int), ((2 : Int), ()))]))
 cond (ok_turnoutlaw16_is (ByteArray.mk #[0, 5, 2, 255, 255, 255]) (2 : Int) (0 : Int) ([((1 : Int), ((0 : Int), ())), ((2 : Int), ((2 : Int), ()))]))
 (cond y1.1.1
 (let y2 : ((Bool × Unit) × Unit) := (q_turnoutlaw16_is (ByteArray.mk #[0, 6]) (1 : Int) (4 : Int) ([((1 : Int), ((0 : Int), ()))]))
 cond (ok_turnoutlaw16_is (ByteArray.mk #[0, 6]) (1 : Int) (4 : Int) ([((1 : Int), ((0 : Int), ()))]))
 (cond y2.1.1
 (let y3 : ((Bool × Unit) × Unit) := (q_turnoutlaw16_is (ByteArray.mk #[0, 5, 2, 255]) (2 : Int) (1 : Int) ([((1 : Int), ((0 : Int), ()))]))
 cond (ok_turnoutlaw16_is (ByteArray.mk #[0, 5, 2, 255]) (2 : Int) (1 : Int) ([((1 : Int), ((0 : Int), ()))]))
 (cond y3.1.1
 (let y4 : ((Bool × Unit) × Unit) := (q_turnoutlaw16_is (ByteArray.mk #[0]) (1 : Int) (1 : Int) ([]))
 cond (ok_turnoutlaw16_is (ByteArray.mk #[0]) (1 : Int) (1 : Int) ([]))
 (some (encRes ro_turnoutlaw16_awake rh_turnoutlaw16_awake ((y4.1.1, ()), ())))
 (none))
 (some (encRes ro_turnoutlaw16_awake rh_turnoutlaw16_awake ((false, ()), ()))))
 (none))
 (some (encRes ro_turnoutlaw16_awake rh_turnoutlaw16_awake ((false, ()), ()))))
 (none))
 (some (encRes ro_turnoutlaw16_awake rh_turnoutlaw16_awake ((false, ()), ()))))
 (none)
noncomputable def Q_turnoutlaw16_awake : Option (RS ro_turnoutlaw16_awake rh_turnoutlaw16_awake) := decRes ro_turnoutlaw16_awake rh_turnoutlaw16_awake (M_turnoutlaw16_awake FUEL)
noncomputable def ok_turnoutlaw16_awake : Bool := (Q_turnoutlaw16_awake).isSome
noncomputable def q_turnoutlaw16_awake : RS ro_turnoutlaw16_awake rh_turnoutlaw16_awake := RS.get (Q_turnoutlaw16_awake)
/-! ### turnoutref15_Form -/
abbrev ro_turnoutref15_Form : List EK := [.ty .bool]
abbrev rh_turnoutref15_Form : List HK := []
noncomputable def F_turnoutref15_Form_0 (n : Nat) (k_t0 : Int → Option Res) (x0_2 : NodeS) (rec : Int → Int → Option Res) (x0_0 : Int) (x0_1 : Int) : Option Res :=
 cond (decide (x0_1 < x0_2.2.2.2.2.2.2.1))
 (rec (IntKind.wrap .u64 (x0_0 * (2 : Int))) (IntKind.wrap .i64 (x0_1 + (1 : Int))))
 (k_t0 x0_0)
noncomputable def L_turnoutref15_Form_0 (n : Nat) (k_t0 : Int → Option Res) (x0_2 : NodeS) : Nat → Int → Int → Option Res
  | 0, _, _ => none
  | m + 1, x0_0, x0_1 => F_turnoutref15_Form_0 n k_t0 x0_2 (L_turnoutref15_Form_0 n k_t0 x0_2 m) x0_0 x0_1
noncomputable def F_turnoutref15_Form_2 (n : Nat) (k_r : Bool → Option Res) (k_t2 : Unit → Option Res) (x2_0 : Int) (x2_2 : NodeS) (rec : Int → Option Res) (x2_1 : Int) : Option Res :=
 cond (decide (x2_1 < (((List.length x2_2.2.2.2.2.2.2.2.1) : Nat) : Int)))
 (cond (decide ((0 : Int) ≤ x2_1 ∧ x2_1 < (((List.length x2_2.2.2.2.2.2.2.2.1) : Nat) : Int)))
 (cond (decide ((IntKind.wrap .u64 (rdd zArmS x2_2.2.2.2.2.2.2.2.1 (Int.toNat x2_1)).1) ≥ x2_0))
 (k_r false)
 (cond (decide (x2_1 > (0 : Int)))
 (cond (decide ((0 : Int) ≤ (IntKind.wrap .i64 (x2_1 - (1 : Int))) ∧ (IntKind.wrap .i64 (x2_1 - (1 : Int))) < (((List.length x2_2.2.2.2.2.2.2.2.1) : Nat) : Int)))
 (cond (decide ((rdd zArmS x2_2.2.2.2.2.2.2.2.1 (Int.toNat x2_1)).1 ≤ (rdd zArmS x2_2.2.2.2.2.2.2.2.1 (Int.toNat (IntKind.wrap .i64 (x2_1 - (1 : Int))))).1))
 (k_r false)
 (cond (decide ((rdd zArmS x2_2.2.2.2.2.2.2.2.1 (Int.toNat x2_1)).2.1 < (0 : Int)))
 (k_r false)
 (cond (decide ((rdd zArmS x2_2.2.2.2.2.2.2.2.1 (Int.toNat x2_1)).2.1 > (65535 : Int)))
 (k_r false)
 (rec (IntKind.wrap .i64 (x2_1 + (1 : Int)))))))
 (none))
 (cond (decide ((rdd zArmS x2_2.2.2.2.2.2.2.2.1 (Int.toNat x2_1)).2.1 < (0 : Int)))
 (k_r false)
 (cond (decide ((rdd zArmS x2_2.2.2.2.2.2.2.2.1 (Int.toNat x2_1)).2.1 > (65535 : Int)))
 (k_r false)
 (rec (IntKind.wrap .i64 (x2_1 + (1 : Int))))))))
 (none))
 (k_t2 ())
noncomputable def L_turnoutref15_Form_2 (n : Nat) (k_r : Bool → Option Res) (k_t2 : Unit → Option Res) (x2_0 : Int) (x2_2 : NodeS) : Nat → Int → Option Res
  | 0, _ => none
  | m + 1, x2_1 => F_turnoutref15_Form_2 n k_r k_t2 x2_0 x2_2 (L_turnoutref15_Form_2 n k_r k_t2 x2_0 x2_2 m) x2_1
noncomputable def M_turnoutref15_Form (n : Nat) (a0 : NodeS) : Option Res :=
 cond (decide (a0.1 < (1 : Int)))
 (some (encRes ro_turnoutref15_Form rh_turnoutref15_Form ((false, ()), ())))
 (cond (decide (a0.1 > (65534 : Int)))
 (some (encRes ro_turnoutref15_Form rh_turnoutref15_Form ((false, ()), ())))
 (cond (decide (a0.2.1 < (0 : Int)))
 (some (encRes ro_turnoutref15_Form rh_turnoutref15_Form ((false, ()), ())))
 (cond (decide (a0.2.1 > (256 : Int)))
 (some (encRes ro_turnoutref15_Form rh_turnoutref15_Form ((false, ()), ())))
 (cond (decide (a0.2.2.2.2.2.2.2.2.1 < (0 : Int)))
 (some (encRes ro_turnoutref15_Form rh_turnoutref15_Form ((false, ()), ())))
 (cond (decide (a0.2.2.2.2.2.2.2.2.1 > (65535 : Int)))
 (some (encRes ro_turnoutref15_Form rh_turnoutref15_Form ((false, ()), ())))
 (cond (a0.2.2.2.1 == (0 : Int))
 (cond (a0.2.2.1 != (0 : Int))
 (some (encRes ro_turnoutref15_Form rh_turnoutref15_Form ((false, ()), ())))
 (cond (a0.2.2.2.2.1 != (0 : Int))
 (some (encRes ro_turnoutref15_Form rh_turnoutref15_Form ((false, ()), ())))
 (cond (a0.2.2.2.1 != (0 : Int))
 (cond (decide (a0.2.2.2.1 < (1 : Int)))
 (some (encRes ro_turnoutref15_Form rh_turnoutref15_Form ((false, ()), ())))
 (cond (decide (a0.2.2.2.1 > (16 : Int)))
 (some (encRes ro_turnoutref15_Form rh_turnoutref15_Form ((false, ()), ())))
 (cond (decide (a0.2.2.2.2.1 < (1 : Int)))
 (some (encRes ro_turnoutref15_Form rh_turnoutref15_Form ((false, ()), ())))
 (cond (decide (a0.2.2.2.2.1 > (256 : Int)))
 (some (encRes ro_turnoutref15_Form rh_turnoutref15_Form ((false, ()), ())))
 (cond (decide (a0.2.2.1 < (0 : Int)))
 (some (encRes ro_turnoutref15_Form rh_turnoutref15_Form ((false, ()), ())))
 (cond (decide (a0.2.2.1 > (2048 : Int)))
 (some (encRes ro_turnoutref15_Form rh_turnoutref15_Form ((false, ()), ())))
 (cond (a0.2.2.2.2.2.2.1 == (0 : Int))
 (cond (a0.2.2.2.2.2.1 != (0 : Int))
 (some (encRes ro_turnoutref15_Form rh_turnoutref15_Form ((false, ()), ())))
 (cond (decide ((((List.length a0.2.2.2.2.2.2.2.1) : Nat) : Int) > (0 : Int)))
 (some (encRes ro_turnoutref15_Form rh_turnoutref15_Form ((false, ()), ())))
 (cond (a0.2.2.2.2.2.2.1 != (0 : Int))
 (cond (decide (a0.2.2.2.2.2.2.1 < (1 : Int)))
 (some (encRes ro_turnoutref15_Form rh_turnoutref15_Form ((false, ()), ())))
 (cond (decide (a0.2.2.2.2.2.2.1 > (32 : Int)))
 (some (encRes ro_turnoutref15_Form rh_turnoutref15_Form ((false, ()), ())))
 (cond (decide (a0.2.2.2.2.2.1 < (0 : Int)))
 (some (encRes ro_turnoutref15_Form rh_turnoutref15_Form ((false, ()), ())))
 (cond (decide (a0.2.2.2.2.2.1 > (2048 : Int)))
 (some (encRes ro_turnoutref15_Form rh_turnoutref15_Form ((false, ()), ())))
 (cond (decide ((((List.length a0.2.2.2.2.2.2.2.1) : Nat) : Int) > (32 : Int)))
 (some (encRes ro_turnoutref15_Form rh_turnoutref15_Form ((false, ()), ())))
 (L_turnoutref15_Form_0 n
  (fun y1 => L_turnoutref15_Form_2 n
  (fun y2 => some (encRes ro_turnoutref15_Form rh_turnoutref15_Form ((y2, ()), ())))
  (fun _ => some (encRes ro_turnoutref15_Form rh_turnoutref15_Form ((true, ()), ())))
  y1
  a0
  n
  (0 : Int))
  a0
  n
  (1 : Int)
  (0 : Int)))))))
 (cond (decide ((((List.length a0.2.2.2.2.2.2.2.1) : Nat) : Int) > (32 : Int)))
 (some (encRes ro_turnoutref15_Form rh_turnoutref15_Form ((false, ()), ())))
 (L_turnoutref15_Form_0 n
  (fun y3 => L_turnoutref15_Form_2 n
  (fun y4 => some (encRes ro_turnoutref15_Form rh_turnoutref15_Form ((y4, ()), ())))
  (fun _ => some (encRes ro_turnoutref15_Form rh_turnoutref15_Form ((true, ()), ())))
  y3
  a0
  n
  (0 : Int))
  a0
  n
  (1 : Int)
  (0 : Int))))))
 (cond (a0.2.2.2.2.2.2.1 != (0 : Int))
 (cond (decide (a0.2.2.2.2.2.2.1 < (1 : Int)))
 (some (encRes ro_turnoutref15_Form rh_turnoutref15_Form ((false, ()), ())))
 (cond (decide (a0.2.2.2.2.2.2.1 > (32 : Int)))
 (some (encRes ro_turnoutref15_Form rh_turnoutref15_Form ((false, ()), ())))
 (cond (decide (a0.2.2.2.2.2.1 < (0 : Int)))
 (some (encRes ro_turnoutref15_Form rh_turnoutref15_Form ((false, ()), ())))
 (cond (decide (a0.2.2.2.2.2.1 > (2048 : Int)))
 (some (encRes ro_turnoutref15_Form rh_turnoutref15_Form ((false, ()), ())))
 (cond (decide ((((List.length a0.2.2.2.2.2.2.2.1) : Nat) : Int) > (32 : Int)))
 (some (encRes ro_turnoutref15_Form rh_turnoutref15_Form ((false, ()), ())))
 (L_turnoutref15_Form_0 n
  (fun y5 => L_turnoutref15_Form_2 n
  (fun y6 => some (encRes ro_turnoutref15_Form rh_turnoutref15_Form ((y6, ()), ())))
  (fun _ => some (encRes ro_turnoutref15_Form rh_turnoutref15_Form ((true, ()), ())))
  y5
  a0
  n
  (0 : Int))
  a0
  n
  (1 : Int)
  (0 : Int)))))))
 (cond (decide ((((List.length a0.2.2.2.2.2.2.2.1) : Nat) : Int) > (32 : Int)))
 (some (encRes ro_turnoutref15_Form rh_turnoutref15_Form ((false, ()), ())))
 (L_turnoutref15_Form_0 n
  (fun y7 => L_turnoutref15_Form_2 n
  (fun y8 => some (encRes ro_turnoutref15_Form rh_turnoutref15_Form ((y8, ()), ())))
  (fun _ => some (encRes ro_turnoutref15_Form rh_turnoutref15_Form ((true, ()), ())))
  y7
  a0
  n
  (0 : Int))
  a0
  n
  (1 : Int)
  (0 : Int)))))))))))
 (cond (a0.2.2.2.2.2.2.1 == (0 : Int))
 (cond (a0.2.2.2.2.2.1 != (0 : Int))
 (some (encRes ro_turnoutref15_Form rh_turnoutref15_Form ((false, ()), ())))
 (cond (decide ((((List.length a0.2.2.2.2.2.2.2.1) : Nat) : Int) > (0 : Int)))
 (some (encRes ro_turnoutref15_Form rh_turnoutref15_Form ((false, ()), ())))
 (cond (a0.2.2.2.2.2.2.1 != (0 : Int))
 (cond (decide (a0.2.2.2.2.2.2.1 < (1 : Int)))
 (some (encRes ro_turnoutref15_Form rh_turnoutref15_Form ((false, ()), ())))
 (cond (decide (a0.2.2.2.2.2.2.1 > (32 : Int)))
 (some (encRes ro_turnoutref15_Form rh_turnoutref15_Form ((false, ()), ())))
 (cond (decide (a0.2.2.2.2.2.1 < (0 : Int)))
 (some (encRes ro_turnoutref15_Form rh_turnoutref15_Form ((false, ()), ())))
 (cond (decide (a0.2.2.2.2.2.1 > (2048 : Int)))
 (some (encRes ro_turnoutref15_Form rh_turnoutref15_Form ((false, ()), ())))
 (cond (decide ((((List.length a0.2.2.2.2.2.2.2.1) : Nat) : Int) > (32 : Int)))
 (some (encRes ro_turnoutref15_Form rh_turnoutref15_Form ((false, ()), ())))
 (L_turnoutref15_Form_0 n
  (fun y9 => L_turnoutref15_Form_2 n
  (fun y10 => some (encRes ro_turnoutref15_Form rh_turnoutref15_Form ((y10, ()), ())))
  (fun _ => some (encRes ro_turnoutref15_Form rh_turnoutref15_Form ((true, ()), ())))
  y9
  a0
  n
  (0 : Int))
  a0
  n
  (1 : Int)
  (0 : Int)))))))
 (cond (decide ((((List.length a0.2.2.2.2.2.2.2.1) : Nat) : Int) > (32 : Int)))
 (some (encRes ro_turnoutref15_Form rh_turnoutref15_Form ((false, ()), ())))
 (L_turnoutref15_Form_0 n
  (fun y11 => L_turnoutref15_Form_2 n
  (fun y12 => some (encRes ro_turnoutref15_Form rh_turnoutref15_Form ((y12, ()), ())))
  (fun _ => some (encRes ro_turnoutref15_Form rh_turnoutref15_Form ((true, ()), ())))
  y11
  a0
  n
  (0 : Int))
  a0
  n
  (1 : Int)
  (0 : Int))))))
 (cond (a0.2.2.2.2.2.2.1 != (0 : Int))
 (cond (decide (a0.2.2.2.2.2.2.1 < (1 : Int)))
 (some (encRes ro_turnoutref15_Form rh_turnoutref15_Form ((false, ()), ())))
 (cond (decide (a0.2.2.2.2.2.2.1 > (32 : Int)))
 (some (encRes ro_turnoutref15_Form rh_turnoutref15_Form ((false, ()), ())))
 (cond (decide (a0.2.2.2.2.2.1 < (0 : Int)))
 (some (encRes ro_turnoutref15_Form rh_turnoutref15_Form ((false, ()), ())))
 (cond (decide (a0.2.2.2.2.2.1 > (2048 : Int)))
 (some (encRes ro_turnoutref15_Form rh_turnoutref15_Form ((false, ()), ())))
 (cond (decide ((((List.length a0.2.2.2.2.2.2.2.1) : Nat) : Int) > (32 : Int)))
 (some (encRes ro_turnoutref15_Form rh_turnoutref15_Form ((false, ()), ())))
 (L_turnoutref15_Form_0 n
  (fun y13 => L_turnoutref15_Form_2 n
  (fun y14 => some (encRes ro_turnoutref15_Form rh_turnoutref15_Form ((y14, ()), ())))
  (fun _ => some (encRes ro_turnoutref15_Form rh_turnoutref15_Form ((true, ()), ())))
  y13
  a0
  n
  (0 : Int))
  a0
  n
  (1 : Int)
  (0 : Int)))))))
 (cond (decide ((((List.length a0.2.2.2.2.2.2.2.1) : Nat) : Int) > (32 : Int)))
 (some (encRes ro_turnoutref15_Form rh_turnoutref15_Form ((false, ()), ())))
 (L_turnoutref15_Form_0 n
  (fun y15 => L_turnoutref15_Form_2 n
  (fun y16 => some (encRes ro_turnoutref15_Form rh_turnoutref15_Form ((y16, ()), ())))
  (fun _ => some (encRes ro_turnoutref15_Form rh_turnoutref15_Form ((true, ()), ())))
  y15
  a0
  n
  (0 : Int))
  a0
  n
  (1 : Int)
  (0 : Int))))))))
 (cond (a0.2.2.2.1 != (0 : Int))
 (cond (decide (a0.2.2.2.1 < (1 : Int)))
 (some (encRes ro_turnoutref15_Form rh_turnoutref15_Form ((false, ()), ())))
 (cond (decide (a0.2.2.2.1 > (16 : Int)))
 (some (encRes ro_turnoutref15_Form rh_turnoutref15_Form ((false, ()), ())))
 (cond (decide (a0.2.2.2.2.1 < (1 : Int)))
 (some (encRes ro_turnoutref15_Form rh_turnoutref15_Form ((false, ()), ())))
 (cond (decide (a0.2.2.2.2.1 > (256 : Int)))
 (some (encRes ro_turnoutref15_Form rh_turnoutref15_Form ((false, ()), ())))
 (cond (decide (a0.2.2.1 < (0 : Int)))
 (some (encRes ro_turnoutref15_Form rh_turnoutref15_Form ((false, ()), ())))
 (cond (decide (a0.2.2.1 > (2048 : Int)))
 (some (encRes ro_turnoutref15_Form rh_turnoutref15_Form ((false, ()), ())))
 (cond (a0.2.2.2.2.2.2.1 == (0 : Int))
 (cond (a0.2.2.2.2.2.1 != (0 : Int))
 (some (encRes ro_turnoutref15_Form rh_turnoutref15_Form ((false, ()), ())))
 (cond (decide ((((List.length a0.2.2.2.2.2.2.2.1) : Nat) : Int) > (0 : Int)))
 (some (encRes ro_turnoutref15_Form rh_turnoutref15_Form ((false, ()), ())))
 (cond (a0.2.2.2.2.2.2.1 != (0 : Int))
 (cond (decide (a0.2.2.2.2.2.2.1 < (1 : Int)))
 (some (encRes ro_turnoutref15_Form rh_turnoutref15_Form ((false, ()), ())))
 (cond (decide (a0.2.2.2.2.2.2.1 > (32 : Int)))
 (some (encRes ro_turnoutref15_Form rh_turnoutref15_Form ((false, ()), ())))
 (cond (decide (a0.2.2.2.2.2.1 < (0 : Int)))
 (some (encRes ro_turnoutref15_Form rh_turnoutref15_Form ((false, ()), ())))
 (cond (decide (a0.2.2.2.2.2.1 > (2048 : Int)))
 (some (encRes ro_turnoutref15_Form rh_turnoutref15_Form ((false, ()), ())))
 (cond (decide ((((List.length a0.2.2.2.2.2.2.2.1) : Nat) : Int) > (32 : Int)))
 (some (encRes ro_turnoutref15_Form rh_turnoutref15_Form ((false, ()), ())))
 (L_turnoutref15_Form_0 n
  (fun y17 => L_turnoutref15_Form_2 n
  (fun y18 => some (encRes ro_turnoutref15_Form rh_turnoutref15_Form ((y18, ()), ())))
  (fun _ => some (encRes ro_turnoutref15_Form rh_turnoutref15_Form ((true, ()), ())))
  y17
  a0
  n
  (0 : Int))
  a0
  n
  (1 : Int)
  (0 : Int)))))))
 (cond (decide ((((List.length a0.2.2.2.2.2.2.2.1) : Nat) : Int) > (32 : Int)))
 (some (encRes ro_turnoutref15_Form rh_turnoutref15_Form ((false, ()), ())))
 (L_turnoutref15_Form_0 n
  (fun y19 => L_turnoutref15_Form_2 n
  (fun y20 => some (encRes ro_turnoutref15_Form rh_turnoutref15_Form ((y20, ()), ())))
  (fun _ => some (encRes ro_turnoutref15_Form rh_turnoutref15_Form ((true, ()), ())))
  y19
  a0
  n
  (0 : Int))
  a0
  n
  (1 : Int)
  (0 : Int))))))
 (cond (a0.2.2.2.2.2.2.1 != (0 : Int))
 (cond (decide (a0.2.2.2.2.2.2.1 < (1 : Int)))
 (some (encRes ro_turnoutref15_Form rh_turnoutref15_Form ((false, ()), ())))
 (cond (decide (a0.2.2.2.2.2.2.1 > (32 : Int)))
 (some (encRes ro_turnoutref15_Form rh_turnoutref15_Form ((false, ()), ())))
 (cond (decide (a0.2.2.2.2.2.1 < (0 : Int)))
 (some (encRes ro_turnoutref15_Form rh_turnoutref15_Form ((false, ()), ())))
 (cond (decide (a0.2.2.2.2.2.1 > (2048 : Int)))
 (some (encRes ro_turnoutref15_Form rh_turnoutref15_Form ((false, ()), ())))
 (cond (decide ((((List.length a0.2.2.2.2.2.2.2.1) : Nat) : Int) > (32 : Int)))
 (some (encRes ro_turnoutref15_Form rh_turnoutref15_Form ((false, ()), ())))
 (L_turnoutref15_Form_0 n
  (fun y21 => L_turnoutref15_Form_2 n
  (fun y22 => some (encRes ro_turnoutref15_Form rh_turnoutref15_Form ((y22, ()), ())))
  (fun _ => some (encRes ro_turnoutref15_Form rh_turnoutref15_Form ((true, ()), ())))
  y21
  a0
  n
  (0 : Int))
  a0
  n
  (1 : Int)
  (0 : Int)))))))
 (cond (decide ((((List.length a0.2.2.2.2.2.2.2.1) : Nat) : Int) > (32 : Int)))
 (some (encRes ro_turnoutref15_Form rh_turnoutref15_Form ((false, ()), ())))
 (L_turnoutref15_Form_0 n
  (fun y23 => L_turnoutref15_Form_2 n
  (fun y24 => some (encRes ro_turnoutref15_Form rh_turnoutref15_Form ((y24, ()), ())))
  (fun _ => some (encRes ro_turnoutref15_Form rh_turnoutref15_Form ((true, ()), ())))
  y23
  a0
  n
  (0 : Int))
  a0
  n
  (1 : Int)
  (0 : Int)))))))))))
 (cond (a0.2.2.2.2.2.2.1 == (0 : Int))
 (cond (a0.2.2.2.2.2.1 != (0 : Int))
 (some (encRes ro_turnoutref15_Form rh_turnoutref15_Form ((false, ()), ())))
 (cond (decide ((((List.length a0.2.2.2.2.2.2.2.1) : Nat) : Int) > (0 : Int)))
 (some (encRes ro_turnoutref15_Form rh_turnoutref15_Form ((false, ()), ())))
 (cond (a0.2.2.2.2.2.2.1 != (0 : Int))
 (cond (decide (a0.2.2.2.2.2.2.1 < (1 : Int)))
 (some (encRes ro_turnoutref15_Form rh_turnoutref15_Form ((false, ()), ())))
 (cond (decide (a0.2.2.2.2.2.2.1 > (32 : Int)))
 (some (encRes ro_turnoutref15_Form rh_turnoutref15_Form ((false, ()), ())))
 (cond (decide (a0.2.2.2.2.2.1 < (0 : Int)))
 (some (encRes ro_turnoutref15_Form rh_turnoutref15_Form ((false, ()), ())))
 (cond (decide (a0.2.2.2.2.2.1 > (2048 : Int)))
 (some (encRes ro_turnoutref15_Form rh_turnoutref15_Form ((false, ()), ())))
 (cond (decide ((((List.length a0.2.2.2.2.2.2.2.1) : Nat) : Int) > (32 : Int)))
 (some (encRes ro_turnoutref15_Form rh_turnoutref15_Form ((false, ()), ())))
 (L_turnoutref15_Form_0 n
  (fun y25 => L_turnoutref15_Form_2 n
  (fun y26 => some (encRes ro_turnoutref15_Form rh_turnoutref15_Form ((y26, ()), ())))
  (fun _ => some (encRes ro_turnoutref15_Form rh_turnoutref15_Form ((true, ()), ())))
  y25
  a0
  n
  (0 : Int))
  a0
  n
  (1 : Int)
  (0 : Int)))))))
 (cond (decide ((((List.length a0.2.2.2.2.2.2.2.1) : Nat) : Int) > (32 : Int)))
 (some (encRes ro_turnoutref15_Form rh_turnoutref15_Form ((false, ()), ())))
 (L_turnoutref15_Form_0 n
  (fun y27 => L_turnoutref15_Form_2 n
  (fun y28 => some (encRes ro_turnoutref15_Form rh_turnoutref15_Form ((y28, ()), ())))
  (fun _ => some (encRes ro_turnoutref15_Form rh_turnoutref15_Form ((true, ()), ())))
  y27
  a0
  n
  (0 : Int))
  a0
  n
  (1 : Int)
  (0 : Int))))))
 (cond (a0.2.2.2.2.2.2.1 != (0 : Int))
 (cond (decide (a0.2.2.2.2.2.2.1 < (1 : Int)))
 (some (encRes ro_turnoutref15_Form rh_turnoutref15_Form ((false, ()), ())))
 (cond (decide (a0.2.2.2.2.2.2.1 > (32 : Int)))
 (some (encRes ro_turnoutref15_Form rh_turnoutref15_Form ((false, ()), ())))
 (cond (decide (a0.2.2.2.2.2.1 < (0 : Int)))
 (some (encRes ro_turnoutref15_Form rh_turnoutref15_Form ((false, ()), ())))
 (cond (decide (a0.2.2.2.2.2.1 > (2048 : Int)))
 (some (encRes ro_turnoutref15_Form rh_turnoutref15_Form ((false, ()), ())))
 (cond (decide ((((List.length a0.2.2.2.2.2.2.2.1) : Nat) : Int) > (32 : Int)))
 (some (encRes ro_turnoutref15_Form rh_turnoutref15_Form ((false, ()), ())))
 (L_turnoutref15_Form_0 n
  (fun y29 => L_turnoutref15_Form_2 n
  (fun y30 => some (encRes ro_turnoutref15_Form rh_turnoutref15_Form ((y30, ()), ())))
  (fun _ => some (encRes ro_turnoutref15_Form rh_turnoutref15_Form ((true, ()), ())))
  y29
  a0
  n
  (0 : Int))
  a0
  n
  (1 : Int)
  (0 : Int)))))))
 (cond (decide ((((List.length a0.2.2.2.2.2.2.2.1) : Nat) : Int) > (32 : Int)))
 (some (encRes ro_turnoutref15_Form rh_turnoutref15_Form ((false, ()), ())))
 (L_turnoutref15_Form_0 n
  (fun y31 => L_turnoutref15_Form_2 n
  (fun y32 => some (encRes ro_turnoutref15_Form rh_turnoutref15_Form ((y32, ()), ())))
  (fun _ => some (encRes ro_turnoutref15_Form rh_turnoutref15_Form ((true, ()), ())))
  y31
  a0
  n
  (0 : Int))
  a0
  n
  (1 : Int)
  (0 : Int))))))))))))
noncomputable def Q_turnoutref15_Form (a0 : NodeS) : Option (RS ro_turnoutref15_Form rh_turnoutref15_Form) := decRes ro_turnoutref15_Form rh_turnoutref15_Form (M_turnoutref15_Form FUEL a0)
noncomputable def ok_turnoutref15_Form (a0 : NodeS) : Bool := (Q_turnoutref15_Form a0).isSome
noncomputable def q_turnoutref15_Form (a0 : NodeS) : RS ro_turnoutref15_Form rh_turnoutref15_Form := RS.get (Q_turnoutref15_Form a0)
/-! ### turnoutref15_Goes -/
abbrev ro_turnoutref15_Goes : List EK := [.hs 0 0]
abbrev rh_turnoutref15_Goes : List HK := [.row (.int .i64)]
noncomputable def F_turnoutref15_Goes_0 (n : Nat) (k_t0 : Nat → (List Int) → Option Res) (x0_2 : NodeS) (rec : Nat → Int → (List Int) → Option Res) (x0_0 : Nat) (x0_1 : Int) (x0_3 : (List Int)) : Option Res :=
 cond (decide (x0_1 < (((List.length x0_2.2.2.2.2.2.2.2.1) : Nat) : Int)))
 (cond (decide ((0 : Int) ≤ x0_1 ∧ x0_1 < (((List.length x0_2.2.2.2.2.2.2.2.1) : Nat) : Int)))
 (cond (decide (((List.length (cutL (0 : Int) x0_3 0 x0_0)) + 1) * 8 ≤ 2 ^ 46 ∧ ((List.length (cutL (0 : Int) x0_3 0 x0_0)) + 1) ≤ 2 ^ 46))
 (rec ((List.length (cutL (0 : Int) x0_3 0 x0_0)) + 1) (IntKind.wrap .i64 (x0_1 + (1 : Int))) ((cutL (0 : Int) x0_3 0 x0_0) ++ [(rdd zArmS x0_2.2.2.2.2.2.2.2.1 (Int.toNat x0_1)).2.1]))
 (none))
 (none))
 (k_t0 x0_0 x0_3)
noncomputable def L_turnoutref15_Goes_0 (n : Nat) (k_t0 : Nat → (List Int) → Option Res) (x0_2 : NodeS) : Nat → Nat → Int → (List Int) → Option Res
  | 0, _, _, _ => none
  | m + 1, x0_0, x0_1, x0_3 => F_turnoutref15_Goes_0 n k_t0 x0_2 (L_turnoutref15_Goes_0 n k_t0 x0_2 m) x0_0 x0_1 x0_3
noncomputable def M_turnoutref15_Goes (n : Nat) (a0 : NodeS) : Option Res :=
 L_turnoutref15_Goes_0 n
  (fun y1 y2 => cond (decide (((List.length (cutL (0 : Int) y2 0 y1)) + 1) * 8 ≤ 2 ^ 46 ∧ ((List.length (cutL (0 : Int) y2 0 y1)) + 1) ≤ 2 ^ 46))
 (some (encRes ro_turnoutref15_Goes rh_turnoutref15_Goes ((((List.length (cutL (0 : Int) y2 0 y1)) + 1), ()), (((cutL (0 : Int) y2 0 y1) ++ [a0.2.2.2.2.2.2.2.2.1]), ()))))
 (none))
  a0
  n
  0
  (0 : Int)
  ([])
noncomputable def Q_turnoutref15_Goes (a0 : NodeS) : Option (RS ro_turnoutref15_Goes rh_turnoutref15_Goes) := decRes ro_turnoutref15_Goes rh_turnoutref15_Goes (M_turnoutref15_Goes FUEL a0)
noncomputable def ok_turnoutref15_Goes (a0 : NodeS) : Bool := (Q_turnoutref15_Goes a0).isSome
noncomputable def q_turnoutref15_Goes (a0 : NodeS) : RS ro_turnoutref15_Goes rh_turnoutref15_Goes := RS.get (Q_turnoutref15_Goes a0)
/-! ### turnoutref15_Find -/
abbrev ro_turnoutref15_Find : List EK := [.agg NodeT, .ty .bool]
abbrev rh_turnoutref15_Find : List HK := []
noncomputable def F_turnoutref15_Find_0 (n : Nat) (k_r : Bool → NodeS → Option Res) (k_t0 : Unit → Option Res) (x0_0 : (List NodeS)) (x0_1 : Int) (x0_3 : NodeS) (rec : Int → Option Res) (x0_2 : Int) : Option Res :=
 cond (decide (x0_2 < (((List.length x0_0) : Nat) : Int)))
 (cond (decide ((0 : Int) ≤ x0_2 ∧ x0_2 < (((List.length x0_0) : Nat) : Int)))
 (cond ((rdd zNodeS x0_0 (Int.toNat x0_2)).1 == x0_1)
 (cond (decide ((0 : Int) ≤ x0_2 ∧ x0_2 < (((List.length x0_0) : Nat) : Int)))
 (k_r true (rdd zNodeS x0_0 (Int.toNat x0_2)))
 (none))
 (rec (IntKind.wrap .i64 (x0_2 + (1 : Int)))))
 (none))
 (k_t0 ())
noncomputable def L_turnoutref15_Find_0 (n : Nat) (k_r : Bool → NodeS → Option Res) (k_t0 : Unit → Option Res) (x0_0 : (List NodeS)) (x0_1 : Int) (x0_3 : NodeS) : Nat → Int → Option Res
  | 0, _ => none
  | m + 1, x0_2 => F_turnoutref15_Find_0 n k_r k_t0 x0_0 x0_1 x0_3 (L_turnoutref15_Find_0 n k_r k_t0 x0_0 x0_1 x0_3 m) x0_2
noncomputable def M_turnoutref15_Find (n : Nat) (a0 : (List NodeS)) (a1 : Int) : Option Res :=
 L_turnoutref15_Find_0 n
  (fun y1 y2 => some (encRes ro_turnoutref15_Find rh_turnoutref15_Find ((y2, (y1, ())), ())))
  (fun _ => some (encRes ro_turnoutref15_Find rh_turnoutref15_Find ((((0 : Int), ((0 : Int), ((0 : Int), ((0 : Int), ((0 : Int), ((0 : Int), ((0 : Int), ([], ((0 : Int), ()))))))))), (false, ())), ())))
  a0
  a1
  ((0 : Int), ((0 : Int), ((0 : Int), ((0 : Int), ((0 : Int), ((0 : Int), ((0 : Int), ([], ((0 : Int), ())))))))))
  n
  (0 : Int)
noncomputable def Q_turnoutref15_Find (a0 : (List NodeS)) (a1 : Int) : Option (RS ro_turnoutref15_Find rh_turnoutref15_Find) := decRes ro_turnoutref15_Find rh_turnoutref15_Find (M_turnoutref15_Find FUEL a0 a1)
noncomputable def ok_turnoutref15_Find (a0 : (List NodeS)) (a1 : Int) : Bool := (Q_turnoutref15_Find a0 a1).isSome
noncomputable def q_turnoutref15_Find (a0 : (List NodeS)) (a1 : Int) : RS ro_turnoutref15_Find rh_turnoutref15_Find := RS.get (Q_turnoutref15_Find a0 a1)
/-! ### turnoutref15_ranks -/
abbrev ro_turnoutref15_ranks : List EK := [.hs 0 0]
abbrev rh_turnoutref15_ranks : List HK := [.row (.int .i64)]
noncomputable def F_turnoutref15_ranks_6 (n : Nat) (k_t6 : (List Int) → Option Res) (x6_0 : (List NodeS)) (x6_1 : Int) (x6_2 : Nat) (x6_3 : Int) (x6_4 : Nat) (x6_5 : Int) (x6_6 : Nat) (x6_7 : Int) (x6_9 : (List Int)) (x6_11 : (List Int)) (rec : Int → (List Int) → Option Res) (x6_8 : Int) (x6_10 : (List Int)) : Option Res :=
 cond (decide (x6_8 < (((List.length x6_0) : Nat) : Int)))
 (cond (decide ((0 : Int) ≤ x6_8 ∧ x6_8 < (((List.length x6_0) : Nat) : Int)))
 (cond (decide ((0 : Int) ≤ x6_7 ∧ x6_7 < ((x6_6 : Nat) : Int)))
 (cond ((rdd zNodeS x6_0 (Int.toNat x6_8)).1 == (rdd (0 : Int) x6_11 (Int.toNat x6_7)))
 (cond (decide ((0 : Int) ≤ x6_5 ∧ x6_5 < ((x6_4 : Nat) : Int)))
 (cond (decide ((0 : Int) ≤ x6_8 ∧ x6_8 < ((x6_2 : Nat) : Int)))
 (let y2 : Int := (if (rdd (0 : Int) x6_9 (Int.toNat x6_8)) > (rdd (0 : Int) x6_10 (Int.toNat x6_5)) then (rdd (0 : Int) x6_9 (Int.toNat x6_8)) else (rdd (0 : Int) x6_10 (Int.toNat x6_5)))
 cond (decide ((0 : Int) ≤ x6_5 ∧ x6_5 < ((x6_4 : Nat) : Int)))
 (rec (IntKind.wrap .i64 (x6_8 + (1 : Int))) (List.set x6_10 (Int.toNat x6_5) y2))
 (none))
 (none))
 (none))
 (rec (IntKind.wrap .i64 (x6_8 + (1 : Int))) x6_10))
 (none))
 (none))
 (k_t6 x6_10)
noncomputable def L_turnoutref15_ranks_6 (n : Nat) (k_t6 : (List Int) → Option Res) (x6_0 : (List NodeS)) (x6_1 : Int) (x6_2 : Nat) (x6_3 : Int) (x6_4 : Nat) (x6_5 : Int) (x6_6 : Nat) (x6_7 : Int) (x6_9 : (List Int)) (x6_11 : (List Int)) : Nat → Int → (List Int) → Option Res
  | 0, _, _ => none
  | m + 1, x6_8, x6_10 => F_turnoutref15_ranks_6 n k_t6 x6_0 x6_1 x6_2 x6_3 x6_4 x6_5 x6_6 x6_7 x6_9 x6_11 (L_turnoutref15_ranks_6 n k_t6 x6_0 x6_1 x6_2 x6_3 x6_4 x6_5 x6_6 x6_7 x6_9 x6_11 m) x6_8 x6_10
noncomputable def F_turnoutref15_ranks_4 (n : Nat) (k_t4 : (List Int) → Option Res) (x4_0 : (List NodeS)) (x4_1 : Int) (x4_2 : Nat) (x4_3 : Int) (x4_4 : Nat) (x4_5 : Int) (x4_6 : Nat) (x4_8 : (List Int)) (x4_10 : (List Int)) (rec : Int → (List Int) → Option Res) (x4_7 : Int) (x4_9 : (List Int)) : Option Res :=
 cond (decide (x4_7 < ((x4_6 : Nat) : Int)))
 (L_turnoutref15_ranks_6 n
  (fun y3 => rec (IntKind.wrap .i64 (x4_7 + (1 : Int))) y3)
  x4_0
  x4_1
  x4_2
  x4_3
  x4_4
  x4_5
  x4_6
  x4_7
  x4_8
  x4_10
  n
  (0 : Int)
  x4_9)
 (k_t4 x4_9)
noncomputable def L_turnoutref15_ranks_4 (n : Nat) (k_t4 : (List Int) → Option Res) (x4_0 : (List NodeS)) (x4_1 : Int) (x4_2 : Nat) (x4_3 : Int) (x4_4 : Nat) (x4_5 : Int) (x4_6 : Nat) (x4_8 : (List Int)) (x4_10 : (List Int)) : Nat → Int → (List Int) → Option Res
  | 0, _, _ => none
  | m + 1, x4_7, x4_9 => F_turnoutref15_ranks_4 n k_t4 x4_0 x4_1 x4_2 x4_3 x4_4 x4_5 x4_6 x4_8 x4_10 (L_turnoutref15_ranks_4 n k_t4 x4_0 x4_1 x4_2 x4_3 x4_4 x4_5 x4_6 x4_8 x4_10 m) x4_7 x4_9
noncomputable def F_turnoutref15_ranks_2 (n : Nat) (k_t2 : (List Int) → Option Res) (x2_0 : (List NodeS)) (x2_1 : Int) (x2_2 : Nat) (x2_3 : Int) (x2_4 : Nat) (x2_6 : (List Int)) (rec : Int → (List Int) → Option Res) (x2_5 : Int) (x2_7 : (List Int)) : Option Res :=
 cond (decide (x2_5 < (((List.length x2_0) : Nat) : Int)))
 (cond (decide ((0 : Int) ≤ x2_5 ∧ x2_5 < (((List.length x2_0) : Nat) : Int)))
 (let y1 : ((Nat × Unit) × ((List Int) × Unit)) := (q_turnoutref15_Goes (rdd zNodeS x2_0 (Int.toNat x2_5)))
 cond (ok_turnoutref15_Goes (rdd zNodeS x2_0 (Int.toNat x2_5)))
 (L_turnoutref15_ranks_4 n
  (fun y4 => cond (decide ((0 : Int) ≤ x2_5 ∧ x2_5 < ((x2_4 : Nat) : Int)))
 (cond (decide ((0 : Int) ≤ x2_5 ∧ x2_5 < ((x2_4 : Nat) : Int)))
 (rec (IntKind.wrap .i64 (x2_5 + (1 : Int))) (List.set y4 (Int.toNat x2_5) (IntKind.wrap .i64 ((rdd (0 : Int) y4 (Int.toNat x2_5)) + (1 : Int)))))
 (none))
 (none))
  x2_0
  x2_1
  x2_2
  x2_3
  x2_4
  x2_5
  y1.1.1
  x2_6
  y1.2.1
  n
  (0 : Int)
  x2_7)
 (none))
 (none))
 (k_t2 x2_7)
noncomputable def L_turnoutref15_ranks_2 (n : Nat) (k_t2 : (List Int) → Option Res) (x2_0 : (List NodeS)) (x2_1 : Int) (x2_2 : Nat) (x2_3 : Int) (x2_4 : Nat) (x2_6 : (List Int)) : Nat → Int → (List Int) → Option Res
  | 0, _, _ => none
  | m + 1, x2_5, x2_7 => F_turnoutref15_ranks_2 n k_t2 x2_0 x2_1 x2_2 x2_3 x2_4 x2_6 (L_turnoutref15_ranks_2 n k_t2 x2_0 x2_1 x2_2 x2_3 x2_4 x2_6 m) x2_5 x2_7
noncomputable def F_turnoutref15_ranks_0 (n : Nat) (k_t0 : Nat → (List Int) → Option Res) (x0_0 : (List NodeS)) (x0_1 : Int) (rec : Nat → Int → (List Int) → Option Res) (x0_2 : Nat) (x0_3 : Int) (x0_4 : (List Int)) : Option Res :=
 cond (decide (x0_3 < x0_1))
 (cond (decide ((0 : Int) ≤ (((List.length x0_0) : Nat) : Int) ∧ (((List.length x0_0) : Nat) : Int) ≤ (((List.length x0_0) : Nat) : Int) ∧ (8 : Nat) * (((List.length x0_0) : Nat) : Int) ≤ (2 : Int) ^ 46))
 (L_turnoutref15_ranks_2 n
  (fun y5 => rec (Int.toNat (((List.length x0_0) : Nat) : Int)) (IntKind.wrap .i64 (x0_3 + (1 : Int))) y5)
  x0_0
  x0_1
  x0_2
  x0_3
  (Int.toNat (((List.length x0_0) : Nat) : Int))
  x0_4
  n
  (0 : Int)
  (List.replicate (Int.toNat (((List.length x0_0) : Nat) : Int)) (0 : Int)))
 (none))
 (k_t0 x0_2 x0_4)
noncomputable def L_turnoutref15_ranks_0 (n : Nat) (k_t0 : Nat → (List Int) → Option Res) (x0_0 : (List NodeS)) (x0_1 : Int) : Nat → Nat → Int → (List Int) → Option Res
  | 0, _, _, _ => none
  | m + 1, x0_2, x0_3, x0_4 => F_turnoutref15_ranks_0 n k_t0 x0_0 x0_1 (L_turnoutref15_ranks_0 n k_t0 x0_0 x0_1 m) x0_2 x0_3 x0_4
noncomputable def M_turnoutref15_ranks (n : Nat) (a0 : (List NodeS)) (a1 : Int) : Option Res :=
 cond (decide ((0 : Int) ≤ (((List.length a0) : Nat) : Int) ∧ (((List.length a0) : Nat) : Int) ≤ (((List.length a0) : Nat) : Int) ∧ (8 : Nat) * (((List.length a0) : Nat) : Int) ≤ (2 : Int) ^ 46))
 (L_turnoutref15_ranks_0 n
  (fun y6 y7 => some (encRes ro_turnoutref15_ranks rh_turnoutref15_ranks ((y6, ()), (y7, ()))))
  a0
  a1
  n
  (Int.toNat (((List.length a0) : Nat) : Int))
  (0 : Int)
  (List.replicate (Int.toNat (((List.length a0) : Nat) : Int)) (0 : Int)))
 (none)
noncomputable def Q_turnoutref15_ranks (a0 : (List NodeS)) (a1 : Int) : Option (RS ro_turnoutref15_ranks rh_turnoutref15_ranks) := decRes ro_turnoutref15_ranks rh_turnoutref15_ranks (M_turnoutref15_ranks FUEL a0 a1)
noncomputable def ok_turnoutref15_ranks (a0 : (List NodeS)) (a1 : Int) : Bool := (Q_turnoutref15_ranks a0 a1).isSome
noncomputable def q_turnoutref15_ranks (a0 : (List NodeS)) (a1 : Int) : RS ro_turnoutref15_ranks rh_turnoutref15_ranks := RS.get (Q_turnoutref15_ranks a0 a1)
/-! ### turnoutref15_May -/
abbrev ro_turnoutref15_May : List EK := [.ty (.int .i64)]
abbrev rh_turnoutref15_May : List HK := []
noncomputable def F_turnoutref15_May_0 (n : Nat) (k_r : Int → Option Res) (k_t0 : Unit → Option Res) (x0_0 : (List NodeS)) (rec : Int → Option Res) (x0_1 : Int) : Option Res :=
 cond (decide (x0_1 < (((List.length x0_0) : Nat) : Int)))
 (cond (decide ((0 : Int) ≤ x0_1 ∧ x0_1 < (((List.length x0_0) : Nat) : Int)))
 (let y1 : ((Bool × Unit) × Unit) := (q_turnoutref15_Form (rdd zNodeS x0_0 (Int.toNat x0_1)))
 cond (ok_turnoutref15_Form (rdd zNodeS x0_0 (Int.toNat x0_1)))
 (cond (!y1.1.1)
 (k_r (3 : Int))
 (cond (decide (x0_1 > (0 : Int)))
 (cond (decide ((0 : Int) ≤ x0_1 ∧ x0_1 < (((List.length x0_0) : Nat) : Int)))
 (cond (decide ((0 : Int) ≤ (IntKind.wrap .i64 (x0_1 - (1 : Int))) ∧ (IntKind.wrap .i64 (x0_1 - (1 : Int))) < (((List.length x0_0) : Nat) : Int)))
 (cond (decide ((rdd zNodeS x0_0 (Int.toNat x0_1)).1 ≤ (rdd zNodeS x0_0 (Int.toNat (IntKind.wrap .i64 (x0_1 - (1 : Int))))).1))
 (k_r (3 : Int))
 (rec (IntKind.wrap .i64 (x0_1 + (1 : Int)))))
 (none))
 (none))
 (rec (IntKind.wrap .i64 (x0_1 + (1 : Int))))))
 (none))
 (none))
 (k_t0 ())
noncomputable def L_turnoutref15_May_0 (n : Nat) (k_r : Int → Option Res) (k_t0 : Unit → Option Res) (x0_0 : (List NodeS)) : Nat → Int → Option Res
  | 0, _ => none
  | m + 1, x0_1 => F_turnoutref15_May_0 n k_r k_t0 x0_0 (L_turnoutref15_May_0 n k_r k_t0 x0_0 m) x0_1
noncomputable def F_turnoutref15_May_4 (n : Nat) (k_r : Int → Option Res) (k_t4 : Unit → Option Res) (x4_0 : (List NodeS)) (x4_1 : Int) (x4_2 : Nat) (x4_4 : (List Int)) (rec : Int → Option Res) (x4_3 : Int) : Option Res :=
 cond (decide (x4_3 < ((x4_2 : Nat) : Int)))
 (cond (decide ((0 : Int) ≤ x4_3 ∧ x4_3 < ((x4_2 : Nat) : Int)))
 (let y4 : ((NodeS × (Bool × Unit)) × Unit) := (q_turnoutref15_Find x4_0 (rdd (0 : Int) x4_4 (Int.toNat x4_3)))
 cond (ok_turnoutref15_Find x4_0 (rdd (0 : Int) x4_4 (Int.toNat x4_3)))
 (cond (!y4.1.2.1)
 (cond (decide ((0 : Int) ≤ x4_3 ∧ x4_3 < ((x4_2 : Nat) : Int)))
 (cond ((rdd (0 : Int) x4_4 (Int.toNat x4_3)) != (0 : Int))
 (cond (decide ((0 : Int) ≤ x4_3 ∧ x4_3 < ((x4_2 : Nat) : Int)))
 (cond ((rdd (0 : Int) x4_4 (Int.toNat x4_3)) != (65535 : Int))
 (k_r (8 : Int))
 (rec (IntKind.wrap .i64 (x4_3 + (1 : Int)))))
 (none))
 (rec (IntKind.wrap .i64 (x4_3 + (1 : Int)))))
 (none))
 (rec (IntKind.wrap .i64 (x4_3 + (1 : Int)))))
 (none))
 (none))
 (k_t4 ())
noncomputable def L_turnoutref15_May_4 (n : Nat) (k_r : Int → Option Res) (k_t4 : Unit → Option Res) (x4_0 : (List NodeS)) (x4_1 : Int) (x4_2 : Nat) (x4_4 : (List Int)) : Nat → Int → Option Res
  | 0, _ => none
  | m + 1, x4_3 => F_turnoutref15_May_4 n k_r k_t4 x4_0 x4_1 x4_2 x4_4 (L_turnoutref15_May_4 n k_r k_t4 x4_0 x4_1 x4_2 x4_4 m) x4_3
noncomputable def F_turnoutref15_May_2 (n : Nat) (k_r : Int → Option Res) (k_t2 : Unit → Option Res) (x2_0 : (List NodeS)) (rec : Int → Option Res) (x2_1 : Int) : Option Res :=
 cond (decide (x2_1 < (((List.length x2_0) : Nat) : Int)))
 (cond (decide ((0 : Int) ≤ x2_1 ∧ x2_1 < (((List.length x2_0) : Nat) : Int)))
 (let y3 : ((Nat × Unit) × ((List Int) × Unit)) := (q_turnoutref15_Goes (rdd zNodeS x2_0 (Int.toNat x2_1)))
 cond (ok_turnoutref15_Goes (rdd zNodeS x2_0 (Int.toNat x2_1)))
 (L_turnoutref15_May_4 n
  (fun y5 => k_r y5)
  (fun _ => rec (IntKind.wrap .i64 (x2_1 + (1 : Int))))
  x2_0
  x2_1
  y3.1.1
  y3.2.1
  n
  (0 : Int))
 (none))
 (none))
 (k_t2 ())
noncomputable def L_turnoutref15_May_2 (n : Nat) (k_r : Int → Option Res) (k_t2 : Unit → Option Res) (x2_0 : (List NodeS)) : Nat → Int → Option Res
  | 0, _ => none
  | m + 1, x2_1 => F_turnoutref15_May_2 n k_r k_t2 x2_0 (L_turnoutref15_May_2 n k_r k_t2 x2_0 m) x2_1
noncomputable def F_turnoutref15_May_6 (n : Nat) (k_r : Int → Option Res) (k_t6 : Unit → Option Res) (x6_0 : (List NodeS)) (x6_1 : Nat) (x6_3 : (List Int)) (rec : Int → Option Res) (x6_2 : Int) : Option Res :=
 cond (decide (x6_2 < ((x6_1 : Nat) : Int)))
 (cond (decide ((0 : Int) ≤ x6_2 ∧ x6_2 < ((x6_1 : Nat) : Int)))
 (cond (decide ((rdd (0 : Int) x6_3 (Int.toNat x6_2)) > (((List.length x6_0) : Nat) : Int)))
 (k_r (10 : Int))
 (rec (IntKind.wrap .i64 (x6_2 + (1 : Int)))))
 (none))
 (k_t6 ())
noncomputable def L_turnoutref15_May_6 (n : Nat) (k_r : Int → Option Res) (k_t6 : Unit → Option Res) (x6_0 : (List NodeS)) (x6_1 : Nat) (x6_3 : (List Int)) : Nat → Int → Option Res
  | 0, _ => none
  | m + 1, x6_2 => F_turnoutref15_May_6 n k_r k_t6 x6_0 x6_1 x6_3 (L_turnoutref15_May_6 n k_r k_t6 x6_0 x6_1 x6_3 m) x6_2
noncomputable def M_turnoutref15_May (n : Nat) (a0 : (List NodeS)) : Option Res :=
 L_turnoutref15_May_0 n
  (fun y2 => some (encRes ro_turnoutref15_May rh_turnoutref15_May ((y2, ()), ())))
  (fun _ => cond (decide ((((List.length a0) : Nat) : Int) > (32 : Int)))
 (some (encRes ro_turnoutref15_May rh_turnoutref15_May (((12 : Int), ()), ())))
 (L_turnoutref15_May_2 n
  (fun y6 => some (encRes ro_turnoutref15_May rh_turnoutref15_May ((y6, ()), ())))
  (fun _ => let y7 : ((Nat × Unit) × ((List Int) × Unit)) := (q_turnoutref15_ranks a0 (IntKind.wrap .i64 ((((List.length a0) : Nat) : Int) + (1 : Int))))
 cond (ok_turnoutref15_ranks a0 (IntKind.wrap .i64 ((((List.length a0) : Nat) : Int) + (1 : Int))))
 (L_turnoutref15_May_6 n
  (fun y8 => some (encRes ro_turnoutref15_May rh_turnoutref15_May ((y8, ()), ())))
  (fun _ => some (encRes ro_turnoutref15_May rh_turnoutref15_May (((0 : Int), ()), ())))
  a0
  y7.1.1
  y7.2.1
  n
  (0 : Int))
 (none))
  a0
  n
  (0 : Int)))
  a0
  n
  (0 : Int)
noncomputable def Q_turnoutref15_May (a0 : (List NodeS)) : Option (RS ro_turnoutref15_May rh_turnoutref15_May) := decRes ro_turnoutref15_May rh_turnoutref15_May (M_turnoutref15_May FUEL a0)
noncomputable def ok_turnoutref15_May (a0 : (List NodeS)) : Bool := (Q_turnoutref15_May a0).isSome
noncomputable def q_turnoutref15_May (a0 : (List NodeS)) : RS ro_turnoutref15_May rh_turnoutref15_May := RS.get (Q_turnoutref15_May a0)
/-! ### turnoutref16_sizes -/
abbrev ro_turnoutref16_sizes : List EK := [.ty .bool]
abbrev rh_turnoutref16_sizes : List HK := []
noncomputable def M_turnoutref16_sizes (n : Nat) (a0 : NodeS) : Option Res :=
 cond (decide (a0.2.1 < (0 : Int)))
 (some (encRes ro_turnoutref16_sizes rh_turnoutref16_sizes ((false, ()), ())))
 (cond (decide (a0.2.1 > (256 : Int)))
 (some (encRes ro_turnoutref16_sizes rh_turnoutref16_sizes ((false, ()), ())))
 (cond (decide (a0.2.2.1 < (0 : Int)))
 (some (encRes ro_turnoutref16_sizes rh_turnoutref16_sizes ((false, ()), ())))
 (cond (decide (a0.2.2.1 > (2048 : Int)))
 (some (encRes ro_turnoutref16_sizes rh_turnoutref16_sizes ((false, ()), ())))
 (cond (decide (a0.2.2.2.1 < (0 : Int)))
 (some (encRes ro_turnoutref16_sizes rh_turnoutref16_sizes ((false, ()), ())))
 (cond (decide (a0.2.2.2.1 > (16 : Int)))
 (some (encRes ro_turnoutref16_sizes rh_turnoutref16_sizes ((false, ()), ())))
 (cond (a0.2.2.2.1 == (0 : Int))
 (cond (a0.2.2.1 == (0 : Int))
 (some (encRes ro_turnoutref16_sizes rh_turnoutref16_sizes (((a0.2.2.2.2.1 == (0 : Int)), ()), ())))
 (some (encRes ro_turnoutref16_sizes rh_turnoutref16_sizes ((false, ()), ()))))
 (cond (decide (a0.2.2.2.2.1 ≥ (1 : Int)))
 (some (encRes ro_turnoutref16_sizes rh_turnoutref16_sizes (((decide (a0.2.2.2.2.1 ≤ (256 : Int))), ()), ())))
 (some (encRes ro_turnoutref16_sizes rh_turnoutref16_sizes ((false, ()), ()))))))))))
noncomputable def Q_turnoutref16_sizes (a0 : NodeS) : Option (RS ro_turnoutref16_sizes rh_turnoutref16_sizes) := decRes ro_turnoutref16_sizes rh_turnoutref16_sizes (M_turnoutref16_sizes FUEL a0)
noncomputable def ok_turnoutref16_sizes (a0 : NodeS) : Bool := (Q_turnoutref16_sizes a0).isSome
noncomputable def q_turnoutref16_sizes (a0 : NodeS) : RS ro_turnoutref16_sizes rh_turnoutref16_sizes := RS.get (Q_turnoutref16_sizes a0)
/-! ### turnoutref02_May -/
abbrev ro_turnoutref02_May : List EK := [.ty (.int .i64)]
abbrev rh_turnoutref02_May : List HK := []
noncomputable def M_turnoutref02_May (n : Nat) (a0 : ByteArray) (a1 : Int) (a2 : Int) : Option Res :=
 cond (decide (a2 < (1 : Int)))
 (some (encRes ro_turnoutref02_May rh_turnoutref02_May (((1 : Int), ()), ())))
 (cond (decide (a2 > (128 : Int)))
 (some (encRes ro_turnoutref02_May rh_turnoutref02_May (((1 : Int), ()), ())))
 (cond (decide (a1 < (0 : Int)))
 (some (encRes ro_turnoutref02_May rh_turnoutref02_May (((1 : Int), ()), ())))
 (let y1 : Int := (IntKind.wrap .i64 ((IntKind.wrap .i64 ((8 : Int) * ((ByteArray.size a0 : Nat) : Int))) - a2))
 cond (decide (a1 > y1))
 (some (encRes ro_turnoutref02_May rh_turnoutref02_May (((4 : Int), ()), ())))
 (some (encRes ro_turnoutref02_May rh_turnoutref02_May (((0 : Int), ()), ()))))))
noncomputable def Q_turnoutref02_May (a0 : ByteArray) (a1 : Int) (a2 : Int) : Option (RS ro_turnoutref02_May rh_turnoutref02_May) := decRes ro_turnoutref02_May rh_turnoutref02_May (M_turnoutref02_May FUEL a0 a1 a2)
noncomputable def ok_turnoutref02_May (a0 : ByteArray) (a1 : Int) (a2 : Int) : Bool := (Q_turnoutref02_May a0 a1 a2).isSome
noncomputable def q_turnoutref02_May (a0 : ByteArray) (a1 : Int) (a2 : Int) : RS ro_turnoutref02_May rh_turnoutref02_May := RS.get (Q_turnoutref02_May a0 a1 a2)
/-! ### turnoutref02_Bit -/
abbrev ro_turnoutref02_Bit : List EK := [.ty (.int .u64)]
abbrev rh_turnoutref02_Bit : List HK := []
noncomputable def F_turnoutref02_Bit_0 (n : Nat) (k_t0 : Int → Option Res) (rec : Int → Int → Option Res) (x0_0 : Int) (x0_1 : Int) : Option Res :=
 cond (decide (x0_1 < (7 : Int)))
 (cond ((2 : Int) != 0)
 (rec (IntKind.wrap .i64 (Int.tdiv x0_0 (2 : Int))) (IntKind.wrap .i64 (x0_1 + (1 : Int))))
 (none))
 (k_t0 x0_0)
noncomputable def L_turnoutref02_Bit_0 (n : Nat) (k_t0 : Int → Option Res) : Nat → Int → Int → Option Res
  | 0, _, _ => none
  | m + 1, x0_0, x0_1 => F_turnoutref02_Bit_0 n k_t0 (L_turnoutref02_Bit_0 n k_t0 m) x0_0 x0_1
noncomputable def M_turnoutref02_Bit (n : Nat) (a0 : ByteArray) (a1 : Int) : Option Res :=
 cond ((8 : Int) != 0)
 (cond (decide ((0 : Int) ≤ (IntKind.wrap .i64 (Int.tdiv a1 (8 : Int))) ∧ (IntKind.wrap .i64 (Int.tdiv a1 (8 : Int))) < ((ByteArray.size a0 : Nat) : Int)))
 (cond ((8 : Int) != 0)
 (L_turnoutref02_Bit_0 n
  (fun y1 => cond ((2 : Int) != 0)
 (some (encRes ro_turnoutref02_Bit rh_turnoutref02_Bit (((IntKind.wrap .u64 (Int.tmod y1 (2 : Int))), ()), ())))
 (none))
  n
  (IntKind.wrap .i64 (byteAt a0 (Int.toNat (IntKind.wrap .i64 (Int.tdiv a1 (8 : Int))))))
  (Int.tmod a1 (8 : Int)))
 (none))
 (none))
 (none)
noncomputable def Q_turnoutref02_Bit (a0 : ByteArray) (a1 : Int) : Option (RS ro_turnoutref02_Bit rh_turnoutref02_Bit) := decRes ro_turnoutref02_Bit rh_turnoutref02_Bit (M_turnoutref02_Bit FUEL a0 a1)
noncomputable def ok_turnoutref02_Bit (a0 : ByteArray) (a1 : Int) : Bool := (Q_turnoutref02_Bit a0 a1).isSome
noncomputable def q_turnoutref02_Bit (a0 : ByteArray) (a1 : Int) : RS ro_turnoutref02_Bit rh_turnoutref02_Bit := RS.get (Q_turnoutref02_Bit a0 a1)
/-! ### turnoutref02_Twice -/
abbrev ro_turnoutref02_Twice : List EK := [.agg WordT]
abbrev rh_turnoutref02_Twice : List HK := []
noncomputable def M_turnoutref02_Twice (n : Nat) (a0 : WordS) (a1 : Int) : Option Res :=
 cond ((9223372036854775808 : Int) != 0)
 (let y1 : Int := (IntKind.wrap .u64 ((IntKind.wrap .u64 (a0.1 * (2 : Int))) + (IntKind.wrap .u64 (Int.tdiv a0.2.1 (9223372036854775808 : Int)))))
 some (encRes ro_turnoutref02_Twice rh_turnoutref02_Twice (((y1, ((IntKind.wrap .u64 ((IntKind.wrap .u64 (a0.2.1 * (2 : Int))) + a1)), ())), ()), ())))
 (none)
noncomputable def Q_turnoutref02_Twice (a0 : WordS) (a1 : Int) : Option (RS ro_turnoutref02_Twice rh_turnoutref02_Twice) := decRes ro_turnoutref02_Twice rh_turnoutref02_Twice (M_turnoutref02_Twice FUEL a0 a1)
noncomputable def ok_turnoutref02_Twice (a0 : WordS) (a1 : Int) : Bool := (Q_turnoutref02_Twice a0 a1).isSome
noncomputable def q_turnoutref02_Twice (a0 : WordS) (a1 : Int) : RS ro_turnoutref02_Twice rh_turnoutref02_Twice := RS.get (Q_turnoutref02_Twice a0 a1)
/-! ### turnoutref02_Get -/
abbrev ro_turnoutref02_Get : List EK := [.agg WordT, .ty (.int .i64)]
abbrev rh_turnoutref02_Get : List HK := []
noncomputable def F_turnoutref02_Get_0 (n : Nat) (k_t0 : WordS → Option Res) (x0_0 : ByteArray) (x0_1 : Int) (x0_2 : Int) (x0_3 : Int) (x0_5 : WordS) (rec : Int → WordS → Option Res) (x0_4 : Int) (x0_6 : WordS) : Option Res :=
 cond (decide (x0_4 < x0_2))
 (cond (x0_3 == (0 : Int))
 (let y2 : ((Int × Unit) × Unit) := (q_turnoutref02_Bit x0_0 (IntKind.wrap .i64 (x0_1 + x0_4)))
 cond (ok_turnoutref02_Bit x0_0 (IntKind.wrap .i64 (x0_1 + x0_4)))
 (let y3 : ((WordS × Unit) × Unit) := (q_turnoutref02_Twice x0_6 y2.1.1)
 cond (ok_turnoutref02_Twice x0_6 y2.1.1)
 (rec (IntKind.wrap .i64 (x0_4 + (1 : Int))) y3.1.1)
 (none))
 (none))
 (k_t0 x0_6))
 (k_t0 x0_6)
noncomputable def L_turnoutref02_Get_0 (n : Nat) (k_t0 : WordS → Option Res) (x0_0 : ByteArray) (x0_1 : Int) (x0_2 : Int) (x0_3 : Int) (x0_5 : WordS) : Nat → Int → WordS → Option Res
  | 0, _, _ => none
  | m + 1, x0_4, x0_6 => F_turnoutref02_Get_0 n k_t0 x0_0 x0_1 x0_2 x0_3 x0_5 (L_turnoutref02_Get_0 n k_t0 x0_0 x0_1 x0_2 x0_3 x0_5 m) x0_4 x0_6
noncomputable def M_turnoutref02_Get (n : Nat) (a0 : ByteArray) (a1 : Int) (a2 : Int) : Option Res :=
 let y1 : ((Int × Unit) × Unit) := (q_turnoutref02_May a0 a1 a2)
 cond (ok_turnoutref02_May a0 a1 a2)
 (L_turnoutref02_Get_0 n
  (fun y4 => some (encRes ro_turnoutref02_Get rh_turnoutref02_Get ((y4, (y1.1.1, ())), ())))
  a0
  a1
  a2
  y1.1.1
  ((0 : Int), ((0 : Int), ()))
  n
  (0 : Int)
  ((0 : Int), ((0 : Int), ())))
 (none)
noncomputable def Q_turnoutref02_Get (a0 : ByteArray) (a1 : Int) (a2 : Int) : Option (RS ro_turnoutref02_Get rh_turnoutref02_Get) := decRes ro_turnoutref02_Get rh_turnoutref02_Get (M_turnoutref02_Get FUEL a0 a1 a2)
noncomputable def ok_turnoutref02_Get (a0 : ByteArray) (a1 : Int) (a2 : Int) : Bool := (Q_turnoutref02_Get a0 a1 a2).isSome
noncomputable def q_turnoutref02_Get (a0 : ByteArray) (a1 : Int) (a2 : Int) : RS ro_turnoutref02_Get rh_turnoutref02_Get := RS.get (Q_turnoutref02_Get a0 a1 a2)
/-! ### turnoutref16_number -/
abbrev ro_turnoutref16_number : List EK := [.ty (.int .i64), .ty .bool]
abbrev rh_turnoutref16_number : List HK := []
noncomputable def M_turnoutref16_number (n : Nat) (a0 : ByteArray) (a1 : Int) (a2 : Int) (a3 : Int) : Option Res :=
 cond (decide (a1 < (0 : Int)))
 (some (encRes ro_turnoutref16_number rh_turnoutref16_number (((0 : Int), (false, ())), ())))
 (cond (decide (a1 > ((ByteArray.size a0 : Nat) : Int)))
 (some (encRes ro_turnoutref16_number rh_turnoutref16_number (((0 : Int), (false, ())), ())))
 (cond (decide ((0 : Int) ≤ a1 ∧ a1 ≤ ((ByteArray.size a0 : Nat) : Int) ∧ ((ByteArray.size a0 : Nat) : Int) ≤ ((ByteArray.size a0 : Nat) : Int)))
 (let y1 : ByteArray := (ByteArray.extract a0 (Int.toNat a1) (Int.toNat ((ByteArray.size a0 : Nat) : Int)))
 let y2 : ((WordS × (Int × Unit)) × Unit) := (q_turnoutref02_Get y1 a2 a3)
 cond (ok_turnoutref02_Get y1 a2 a3)
 (some (encRes ro_turnoutref16_number rh_turnoutref16_number (((IntKind.wrap .i64 y2.1.1.2.1), ((y2.1.2.1 == (0 : Int)), ())), ())))
 (none))
 (none)))
noncomputable def Q_turnoutref16_number (a0 : ByteArray) (a1 : Int) (a2 : Int) (a3 : Int) : Option (RS ro_turnoutref16_number rh_turnoutref16_number) := decRes ro_turnoutref16_number rh_turnoutref16_number (M_turnoutref16_number FUEL a0 a1 a2 a3)
noncomputable def ok_turnoutref16_number (a0 : ByteArray) (a1 : Int) (a2 : Int) (a3 : Int) : Bool := (Q_turnoutref16_number a0 a1 a2 a3).isSome
noncomputable def q_turnoutref16_number (a0 : ByteArray) (a1 : Int) (a2 : Int) (a3 : Int) : RS ro_turnoutref16_number rh_turnoutref16_number := RS.get (Q_turnoutref16_number a0 a1 a2 a3)
/-! ### turnoutref16_Size -/
abbrev ro_turnoutref16_Size : List EK := [.ty (.int .i64), .ty (.int .i64)]
abbrev rh_turnoutref16_Size : List HK := []
noncomputable def M_turnoutref16_Size (n : Nat) (a0 : NodeS) (a1 : ByteArray) (a2 : Int) : Option Res :=
 let y1 : ((Bool × Unit) × Unit) := (q_turnoutref16_sizes a0)
 cond (ok_turnoutref16_sizes a0)
 (cond (!y1.1.1)
 (some (encRes ro_turnoutref16_Size rh_turnoutref16_Size (((0 : Int), ((4 : Int), ())), ())))
 (cond (decide (a0.2.2.2.1 > (0 : Int)))
 (let y2 : ((Int × (Bool × Unit)) × Unit) := (q_turnoutref16_number a1 a2 a0.2.2.1 a0.2.2.2.1)
 cond (ok_turnoutref16_number a1 a2 a0.2.2.1 a0.2.2.2.1)
 (cond (!y2.1.2.1)
 (some (encRes ro_turnoutref16_Size rh_turnoutref16_Size (((0 : Int), ((1 : Int), ())), ())))
 (cond (decide ((IntKind.wrap .i64 (a0.2.1 + (IntKind.wrap .i64 (a0.2.2.2.2.1 * y2.1.1)))) > (256 : Int)))
 (some (encRes ro_turnoutref16_Size rh_turnoutref16_Size (((0 : Int), ((2 : Int), ())), ())))
 (cond (decide (a2 < (0 : Int)))
 (some (encRes ro_turnoutref16_Size rh_turnoutref16_Size (((0 : Int), ((1 : Int), ())), ())))
 (cond (decide (a2 > ((ByteArray.size a1 : Nat) : Int)))
 (some (encRes ro_turnoutref16_Size rh_turnoutref16_Size (((0 : Int), ((1 : Int), ())), ())))
 (cond (decide ((IntKind.wrap .i64 (a0.2.1 + (IntKind.wrap .i64 (a0.2.2.2.2.1 * y2.1.1)))) > (IntKind.wrap .i64 (((ByteArray.size a1 : Nat) : Int) - a2))))
 (some (encRes ro_turnoutref16_Size rh_turnoutref16_Size (((0 : Int), ((1 : Int), ())), ())))
 (some (encRes ro_turnoutref16_Size rh_turnoutref16_Size (((IntKind.wrap .i64 (a0.2.1 + (IntKind.wrap .i64 (a0.2.2.2.2.1 * y2.1.1)))), ((0 : Int), ())), ()))))))))
 (none))
 (cond (decide (a0.2.1 > (256 : Int)))
 (some (encRes ro_turnoutref16_Size rh_turnoutref16_Size (((0 : Int), ((2 : Int), ())), ())))
 (cond (decide (a2 < (0 : Int)))
 (some (encRes ro_turnoutref16_Size rh_turnoutref16_Size (((0 : Int), ((1 : Int), ())), ())))
 (cond (decide (a2 > ((ByteArray.size a1 : Nat) : Int)))
 (some (encRes ro_turnoutref16_Size rh_turnoutref16_Size (((0 : Int), ((1 : Int), ())), ())))
 (cond (decide (a0.2.1 > (IntKind.wrap .i64 (((ByteArray.size a1 : Nat) : Int) - a2))))
 (some (encRes ro_turnoutref16_Size rh_turnoutref16_Size (((0 : Int), ((1 : Int), ())), ())))
 (some (encRes ro_turnoutref16_Size rh_turnoutref16_Size ((a0.2.1, ((0 : Int), ())), ())))))))))
 (none)
noncomputable def Q_turnoutref16_Size (a0 : NodeS) (a1 : ByteArray) (a2 : Int) : Option (RS ro_turnoutref16_Size rh_turnoutref16_Size) := decRes ro_turnoutref16_Size rh_turnoutref16_Size (M_turnoutref16_Size FUEL a0 a1 a2)
noncomputable def ok_turnoutref16_Size (a0 : NodeS) (a1 : ByteArray) (a2 : Int) : Bool := (Q_turnoutref16_Size a0 a1 a2).isSome
noncomputable def q_turnoutref16_Size (a0 : NodeS) (a1 : ByteArray) (a2 : Int) : RS ro_turnoutref16_Size rh_turnoutref16_Size := RS.get (Q_turnoutref16_Size a0 a1 a2)
/-! ### turnoutref16_Walk -/
abbrev ro_turnoutref16_Walk : List EK := [.hs 0 0, .ty (.int .i64), .ty (.int .i64)]
abbrev rh_turnoutref16_Walk : List HK := [.row HeadT]
noncomputable def F_turnoutref16_Walk_2 (n : Nat) (k_t2 : NodeS → Option Res) (x2_0 : (List NodeS)) (x2_1 : ByteArray) (x2_2 : Nat) (x2_3 : Int) (x2_4 : Int) (x2_5 : Int) (x2_7 : (List HeadS)) (rec : Int → NodeS → Option Res) (x2_6 : Int) (x2_8 : NodeS) : Option Res :=
 cond (decide (x2_6 < (((List.length x2_0) : Nat) : Int)))
 (cond (decide ((0 : Int) ≤ x2_6 ∧ x2_6 < (((List.length x2_0) : Nat) : Int)))
 (cond ((rdd zNodeS x2_0 (Int.toNat x2_6)).1 == x2_3)
 (cond (decide ((0 : Int) ≤ x2_6 ∧ x2_6 < (((List.length x2_0) : Nat) : Int)))
 (rec (IntKind.wrap .i64 (x2_6 + (1 : Int))) (rdd zNodeS x2_0 (Int.toNat x2_6)))
 (none))
 (rec (IntKind.wrap .i64 (x2_6 + (1 : Int))) x2_8))
 (none))
 (k_t2 x2_8)
noncomputable def L_turnoutref16_Walk_2 (n : Nat) (k_t2 : NodeS → Option Res) (x2_0 : (List NodeS)) (x2_1 : ByteArray) (x2_2 : Nat) (x2_3 : Int) (x2_4 : Int) (x2_5 : Int) (x2_7 : (List HeadS)) : Nat → Int → NodeS → Option Res
  | 0, _, _ => none
  | m + 1, x2_6, x2_8 => F_turnoutref16_Walk_2 n k_t2 x2_0 x2_1 x2_2 x2_3 x2_4 x2_5 x2_7 (L_turnoutref16_Walk_2 n k_t2 x2_0 x2_1 x2_2 x2_3 x2_4 x2_5 x2_7 m) x2_6 x2_8
noncomputable def F_turnoutref16_Walk_4 (n : Nat) (k_t4 : Int → Option Res) (x4_0 : (List NodeS)) (x4_1 : ByteArray) (x4_2 : Nat) (x4_3 : Int) (x4_4 : Int) (x4_5 : Int) (x4_7 : Int) (x4_9 : (List HeadS)) (x4_10 : NodeS) (rec : Int → Int → Option Res) (x4_6 : Int) (x4_8 : Int) : Option Res :=
 cond (decide (x4_8 < (((List.length x4_10.2.2.2.2.2.2.2.1) : Nat) : Int)))
 (cond (decide ((0 : Int) ≤ x4_8 ∧ x4_8 < (((List.length x4_10.2.2.2.2.2.2.2.1) : Nat) : Int)))
 (cond ((IntKind.wrap .i64 (rdd zArmS x4_10.2.2.2.2.2.2.2.1 (Int.toNat x4_8)).1) == x4_7)
 (cond (decide ((0 : Int) ≤ x4_8 ∧ x4_8 < (((List.length x4_10.2.2.2.2.2.2.2.1) : Nat) : Int)))
 (rec ((rdd zArmS x4_10.2.2.2.2.2.2.2.1 (Int.toNat x4_8)).2.1) (IntKind.wrap .i64 (x4_8 + (1 : Int))))
 (none))
 (rec x4_6 (IntKind.wrap .i64 (x4_8 + (1 : Int)))))
 (none))
 (k_t4 x4_6)
noncomputable def L_turnoutref16_Walk_4 (n : Nat) (k_t4 : Int → Option Res) (x4_0 : (List NodeS)) (x4_1 : ByteArray) (x4_2 : Nat) (x4_3 : Int) (x4_4 : Int) (x4_5 : Int) (x4_7 : Int) (x4_9 : (List HeadS)) (x4_10 : NodeS) : Nat → Int → Int → Option Res
  | 0, _, _ => none
  | m + 1, x4_6, x4_8 => F_turnoutref16_Walk_4 n k_t4 x4_0 x4_1 x4_2 x4_3 x4_4 x4_5 x4_7 x4_9 x4_10 (L_turnoutref16_Walk_4 n k_t4 x4_0 x4_1 x4_2 x4_3 x4_4 x4_5 x4_7 x4_9 x4_10 m) x4_6 x4_8
noncomputable def F_turnoutref16_Walk_0 (n : Nat) (k_r : Nat → Int → Int → (List HeadS) → Option Res) (x0_0 : (List NodeS)) (x0_1 : ByteArray) (rec : Nat → Int → Int → Int → (List HeadS) → Option Res) (x0_2 : Nat) (x0_3 : Int) (x0_4 : Int) (x0_5 : Int) (x0_6 : (List HeadS)) : Option Res :=
 L_turnoutref16_Walk_2 n
  (fun y2 => cond (y2.1 == (0 : Int))
 (k_r x0_2 x0_5 (0 : Int) x0_6)
 (let y3 : ((Int × (Int × Unit)) × Unit) := (q_turnoutref16_Size y2 x0_1 x0_4)
 cond (ok_turnoutref16_Size y2 x0_1 x0_4)
 (cond (y3.1.2.1 != (0 : Int))
 (k_r x0_2 (IntKind.wrap .i64 (x0_5 + (1 : Int))) y3.1.2.1 x0_6)
 (cond (decide (((List.length (cutL zHeadS x0_6 0 x0_2)) + 1) * 16 ≤ 2 ^ 46 ∧ ((List.length (cutL zHeadS x0_6 0 x0_2)) + 1) ≤ 2 ^ 46))
 (cond (decide (y2.2.2.2.2.2.2.1 > (0 : Int)))
 (let y4 : ((Int × (Bool × Unit)) × Unit) := (q_turnoutref16_number x0_1 x0_4 y2.2.2.2.2.2.1 y2.2.2.2.2.2.2.1)
 cond (ok_turnoutref16_number x0_1 x0_4 y2.2.2.2.2.2.1 y2.2.2.2.2.2.2.1)
 (cond (!y4.1.2.1)
 (k_r ((List.length (cutL zHeadS x0_6 0 x0_2)) + 1) (IntKind.wrap .i64 (x0_5 + (1 : Int))) (1 : Int) ((cutL zHeadS x0_6 0 x0_2) ++ [(x0_3, (x0_4, ()))]))
 (L_turnoutref16_Walk_4 n
  (fun y5 => cond (y5 == (65535 : Int))
 (k_r ((List.length (cutL zHeadS x0_6 0 x0_2)) + 1) (IntKind.wrap .i64 (x0_5 + (1 : Int))) (4 : Int) ((cutL zHeadS x0_6 0 x0_2) ++ [(x0_3, (x0_4, ()))]))
 (cond (y5 == (0 : Int))
 (k_r ((List.length (cutL zHeadS x0_6 0 x0_2)) + 1) (IntKind.wrap .i64 (x0_5 + (1 : Int))) (0 : Int) ((cutL zHeadS x0_6 0 x0_2) ++ [(x0_3, (x0_4, ()))]))
 (rec ((List.length (cutL zHeadS x0_6 0 x0_2)) + 1) y5 (IntKind.wrap .i64 (x0_4 + y3.1.1)) (IntKind.wrap .i64 (x0_5 + (1 : Int))) ((cutL zHeadS x0_6 0 x0_2) ++ [(x0_3, (x0_4, ()))]))))
  x0_0
  x0_1
  ((List.length (cutL zHeadS x0_6 0 x0_2)) + 1)
  x0_4
  (IntKind.wrap .i64 (x0_5 + (1 : Int)))
  y3.1.1
  y4.1.1
  ((cutL zHeadS x0_6 0 x0_2) ++ [(x0_3, (x0_4, ()))])
  y2
  n
  y2.2.2.2.2.2.2.2.2.1
  (0 : Int)))
 (none))
 (cond (y2.2.2.2.2.2.2.2.2.1 == (65535 : Int))
 (k_r ((List.length (cutL zHeadS x0_6 0 x0_2)) + 1) (IntKind.wrap .i64 (x0_5 + (1 : Int))) (4 : Int) ((cutL zHeadS x0_6 0 x0_2) ++ [(x0_3, (x0_4, ()))]))
 (cond (y2.2.2.2.2.2.2.2.2.1 == (0 : Int))
 (k_r ((List.length (cutL zHeadS x0_6 0 x0_2)) + 1) (IntKind.wrap .i64 (x0_5 + (1 : Int))) (0 : Int) ((cutL zHeadS x0_6 0 x0_2) ++ [(x0_3, (x0_4, ()))]))
 (rec ((List.length (cutL zHeadS x0_6 0 x0_2)) + 1) y2.2.2.2.2.2.2.2.2.1 (IntKind.wrap .i64 (x0_4 + y3.1.1)) (IntKind.wrap .i64 (x0_5 + (1 : Int))) ((cutL zHeadS x0_6 0 x0_2) ++ [(x0_3, (x0_4, ()))])))))
 (none)))
 (none)))
  x0_0
  x0_1
  x0_2
  x0_3
  x0_4
  x0_5
  x0_6
  n
  (0 : Int)
  ((0 : Int), ((0 : Int), ((0 : Int), ((0 : Int), ((0 : Int), ((0 : Int), ((0 : Int), ([], ((0 : Int), ())))))))))
noncomputable def L_turnoutref16_Walk_0 (n : Nat) (k_r : Nat → Int → Int → (List HeadS) → Option Res) (x0_0 : (List NodeS)) (x0_1 : ByteArray) : Nat → Nat → Int → Int → Int → (List HeadS) → Option Res
  | 0, _, _, _, _, _ => none
  | m + 1, x0_2, x0_3, x0_4, x0_5, x0_6 => F_turnoutref16_Walk_0 n k_r x0_0 x0_1 (L_turnoutref16_Walk_0 n k_r x0_0 x0_1 m) x0_2 x0_3 x0_4 x0_5 x0_6
noncomputable def M_turnoutref16_Walk (n : Nat) (a0 : (List NodeS)) (a1 : ByteArray) : Option Res :=
 let y1 : ((Int × Unit) × Unit) := (q_turnoutref15_May a0)
 cond (ok_turnoutref15_May a0)
 (cond (y1.1.1 != (0 : Int))
 (some (encRes ro_turnoutref16_Walk rh_turnoutref16_Walk ((0, ((0 : Int), ((0 : Int), ()))), ([], ()))))
 (L_turnoutref16_Walk_0 n
  (fun y6 y7 y8 y9 => some (encRes ro_turnoutref16_Walk rh_turnoutref16_Walk ((y6, (y7, (y8, ()))), (y9, ()))))
  a0
  a1
  n
  0
  (1 : Int)
  (0 : Int)
  (0 : Int)
  ([])))
 (none)
noncomputable def Q_turnoutref16_Walk (a0 : (List NodeS)) (a1 : ByteArray) : Option (RS ro_turnoutref16_Walk rh_turnoutref16_Walk) := decRes ro_turnoutref16_Walk rh_turnoutref16_Walk (M_turnoutref16_Walk FUEL a0 a1)
noncomputable def ok_turnoutref16_Walk (a0 : (List NodeS)) (a1 : ByteArray) : Bool := (Q_turnoutref16_Walk a0 a1).isSome
noncomputable def q_turnoutref16_Walk (a0 : (List NodeS)) (a1 : ByteArray) : RS ro_turnoutref16_Walk rh_turnoutref16_Walk := RS.get (Q_turnoutref16_Walk a0 a1)
/-! ### turnoutlaw16_WalkTells -/
abbrev ro_turnoutlaw16_WalkTells : List EK := [.ty .bool]
abbrev rh_turnoutlaw16_WalkTells : List HK := []
noncomputable def F_turnoutlaw16_WalkTells_2 (n : Nat) (k_t2 : Unit → Option Res) (x2_0 : (List NodeS)) (x2_1 : ByteArray) (x2_2 : Nat) (x2_3 : Int) (x2_4 : Int) (x2_5 : Int) (x2_6 : Nat) (x2_8 : (List HeadS)) (rec : Int → (List HeadS) → Option Res) (x2_7 : Int) (x2_9 : (List HeadS)) : Option Res :=
 cond (decide (x2_7 < ((x2_6 : Nat) : Int)))
 (cond (decide ((0 : Int) ≤ x2_7 ∧ x2_7 < ((x2_6 : Nat) : Int)))
 (rec (IntKind.wrap .i64 (x2_7 + (1 : Int))) (List.set x2_9 (Int.toNat x2_7) ((-7 : Int), ((0 : Int), ()))))
 (none))
 (k_t2 ())
noncomputable def L_turnoutlaw16_WalkTells_2 (n : Nat) (k_t2 : Unit → Option Res) (x2_0 : (List NodeS)) (x2_1 : ByteArray) (x2_2 : Nat) (x2_3 : Int) (x2_4 : Int) (x2_5 : Int) (x2_6 : Nat) (x2_8 : (List HeadS)) : Nat → Int → (List HeadS) → Option Res
  | 0, _, _ => none
  | m + 1, x2_7, x2_9 => F_turnoutlaw16_WalkTells_2 n k_t2 x2_0 x2_1 x2_2 x2_3 x2_4 x2_5 x2_6 x2_8 (L_turnoutlaw16_WalkTells_2 n k_t2 x2_0 x2_1 x2_2 x2_3 x2_4 x2_5 x2_6 x2_8 m) x2_7 x2_9
noncomputable def F_turnoutlaw16_WalkTells_0 (n : Nat) (k_r : Bool → Option Res) (k_t0 : Unit → Option Res) (x0_0 : (List NodeS)) (x0_1 : ByteArray) (x0_2 : Nat) (x0_3 : Int) (x0_4 : Int) (x0_6 : (List HeadS)) (rec : Int → Option Res) (x0_5 : Int) : Option Res :=
 cond (decide (x0_5 < (2 : Int)))
 (let y5 : ((Nat × (Int × (Int × Unit))) × ((List HeadS) × Unit)) := (q_walk_Walk x0_0 x0_1)
 cond (ok_walk_Walk x0_0 x0_1)
 (let y6 : ((Bool × Unit) × Unit) := (q_turnoutref16_Heads (cutL zHeadS y5.2.1 0 y5.1.1) (cutL zHeadS x0_6 0 x0_2))
 cond (ok_turnoutref16_Heads (cutL zHeadS y5.2.1 0 y5.1.1) (cutL zHeadS x0_6 0 x0_2))
 (cond (!y6.1.1)
 (k_r false)
 (cond (y5.1.2.1 != x0_3)
 (k_r false)
 (cond (y5.1.2.2.1 != x0_4)
 (k_r false)
 (L_turnoutlaw16_WalkTells_2 n
  (fun _ => rec (IntKind.wrap .i64 (x0_5 + (1 : Int))))
  x0_0
  x0_1
  x0_2
  x0_3
  x0_4
  x0_5
  y5.1.1
  x0_6
  n
  (0 : Int)
  y5.2.1))))
 (none))
 (none))
 (k_t0 ())
noncomputable def L_turnoutlaw16_WalkTells_0 (n : Nat) (k_r : Bool → Option Res) (k_t0 : Unit → Option Res) (x0_0 : (List NodeS)) (x0_1 : ByteArray) (x0_2 : Nat) (x0_3 : Int) (x0_4 : Int) (x0_6 : (List HeadS)) : Nat → Int → Option Res
  | 0, _ => none
  | m + 1, x0_5 => F_turnoutlaw16_WalkTells_0 n k_r k_t0 x0_0 x0_1 x0_2 x0_3 x0_4 x0_6 (L_turnoutlaw16_WalkTells_0 n k_r k_t0 x0_0 x0_1 x0_2 x0_3 x0_4 x0_6 m) x0_5
noncomputable def M_turnoutlaw16_WalkTells (n : Nat) (a0 : (List NodeS)) (a1 : ByteArray) : Option Res :=
 let y1 : ((Bool × Unit) × Unit) := (q_turnoutlaw16_large a0)
 cond (ok_turnoutlaw16_large a0)
 (cond y1.1.1
 (let y2 : ((Bool × Unit) × Unit) := q_turnoutlaw16_awake
 cond ok_turnoutlaw16_awake
 (some (encRes ro_turnoutlaw16_WalkTells rh_turnoutlaw16_WalkTells ((y2.1.1, ()), ())))
 (none))
 (cond (decide (((ByteArray.size a1 : Nat) : Int) > (10000 : Int)))
 (let y3 : ((Bool × Unit) × Unit) := q_turnoutlaw16_awake
 cond ok_turnoutlaw16_awake
 (some (encRes ro_turnoutlaw16_WalkTells rh_turnoutlaw16_WalkTells ((y3.1.1, ()), ())))
 (none))
 (let y4 : ((Nat × (Int × (Int × Unit))) × ((List HeadS) × Unit)) := (q_turnoutref16_Walk a0 a1)
 cond (ok_turnoutref16_Walk a0 a1)
 (L_turnoutlaw16_WalkTells_0 n
  (fun y7 => some (encRes ro_turnoutlaw16_WalkTells rh_turnoutlaw16_WalkTells ((y7, ()), ())))
  (fun _ => let y8 : ((Bool × Unit) × Unit) := q_turnoutlaw16_awake
 cond ok_turnoutlaw16_awake
 (some (encRes ro_turnoutlaw16_WalkTells rh_turnoutlaw16_WalkTells ((y8.1.1, ()), ())))
 (none))
  a0
  a1
  y4.1.1
  y4.1.2.1
  y4.1.2.2.1
  y4.2.1
  n
  (0 : Int))
 (none))))
 (none)
noncomputable def Q_turnoutlaw16_WalkTells (a0 : (List NodeS)) (a1 : ByteArray) : Option (RS ro_turnoutlaw16_WalkTells rh_turnoutlaw16_WalkTells) := decRes ro_turnoutlaw16_WalkTells rh_turnoutlaw16_WalkTells (M_turnoutlaw16_WalkTells FUEL a0 a1)
noncomputable def ok_turnoutlaw16_WalkTells (a0 : (List NodeS)) (a1 : ByteArray) : Bool := (Q_turnoutlaw16_WalkTells a0 a1).isSome
noncomputable def q_turnoutlaw16_WalkTells (a0 : (List NodeS)) (a1 : ByteArray) : RS ro_turnoutlaw16_WalkTells rh_turnoutlaw16_WalkTells := RS.get (Q_turnoutlaw16_WalkTells a0 a1)
/-! ### turnoutlaw16_WalkNames -/
abbrev ro_turnoutlaw16_WalkNames : List EK := [.ty .bool]
abbrev rh_turnoutlaw16_WalkNames : List HK := []
noncomputable def F_turnoutlaw16_WalkNames_0 (n : Nat) (k_r : Bool → Option Res) (k_t0 : Unit → Option Res) (x0_0 : Nat) (x0_1 : Int) (x0_3 : (List (NodeS × (ByteArray × SpanS)))) (rec : Int → Option Res) (x0_2 : Int) : Option Res :=
 cond (decide (x0_2 < x0_1))
 (cond (decide ((0 : Int) ≤ x0_2 ∧ x0_2 < ((x0_0 : Nat) : Int)))
 (let y12 : ByteArray := (rdd (zNodeS, (ByteArray.empty, zSpanS)) x0_3 (Int.toNat x0_2)).2.1
 let y13 : ((Int × (Int × Unit)) × Unit) := (q_walk_Size ((rdd (zNodeS, (ByteArray.empty, zSpanS)) x0_3 (Int.toNat x0_2)).1) y12 ((rdd (zNodeS, (ByteArray.empty, zSpanS)) x0_3 (Int.toNat x0_2)).2.2.1))
 cond (ok_walk_Size ((rdd (zNodeS, (ByteArray.empty, zSpanS)) x0_3 (Int.toNat x0_2)).1) y12 ((rdd (zNodeS, (ByteArray.empty, zSpanS)) x0_3 (Int.toNat x0_2)).2.2.1))
 (cond (y13.1.1 != (rdd (zNodeS, (ByteArray.empty, zSpanS)) x0_3 (Int.toNat x0_2)).2.2.2.1)
 (k_r false)
 (cond (y13.1.2.1 != (rdd (zNodeS, (ByteArray.empty, zSpanS)) x0_3 (Int.toNat x0_2)).2.2.2.2.1)
 (k_r false)
 (rec (IntKind.wrap .i64 (x0_2 + (1 : Int))))))
 (none))
 (none))
 (k_t0 ())
noncomputable def L_turnoutlaw16_WalkNames_0 (n : Nat) (k_r : Bool → Option Res) (k_t0 : Unit → Option Res) (x0_0 : Nat) (x0_1 : Int) (x0_3 : (List (NodeS × (ByteArray × SpanS)))) : Nat → Int → Option Res
  | 0, _ => none
  | m + 1, x0_2 => F_turnoutlaw16_WalkNames_0 n k_r k_t0 x0_0 x0_1 x0_3 (L_turnoutlaw16_WalkNames_0 n k_r k_t0 x0_0 x0_1 x0_3 m) x0_2
noncomputable def M_turnoutlaw16_WalkNames (n : Nat) : Option Res :=
 let y1 : ((Bool × Unit) × Unit) := q_turnoutlaw16_awake
 cond ok_turnoutlaw16_awake
 (cond (!y1.1.1)
 (some (encRes ro_turnoutlaw16_WalkNames rh_turnoutlaw16_WalkNames ((false, ()), ())))
 (let y2 : ((Nat × (Int × (Int × Unit))) × ((List HeadS) × Unit)) := (q_walk_Walk ([]) (ByteArray.mk #[97, 98, 99]))
 cond (ok_walk_Walk ([]) (ByteArray.mk #[97, 98, 99]))
 (let y3 : ((Nat × Unit) × ((List NodeS) × Unit)) := q_turnoutlaw16_nodes
 cond ok_turnoutlaw16_nodes
 (cond (decide ((0 : Int) ≤ (1 : Int) ∧ (1 : Int) ≤ ((y3.1.1 : Nat) : Int) ∧ ((y3.1.1 : Nat) : Int) ≤ ((y3.1.1 : Nat) : Int) ∧ ((y3.1.1 : Nat) : Int) ≤ ((y3.1.1 : Nat) : Int)))
 (let y4 : ((Nat × (Int × (Int × Unit))) × ((List HeadS) × Unit)) := (q_walk_Walk (cutL zNodeS y3.2.1 (0 + Int.toNat (1 : Int)) (Int.toNat ((y3.1.1 : Nat) : Int) - Int.toNat (1 : Int))) (ByteArray.mk #[97, 98, 99]))
 cond (ok_walk_Walk (cutL zNodeS y3.2.1 (0 + Int.toNat (1 : Int)) (Int.toNat ((y3.1.1 : Nat) : Int) - Int.toNat (1 : Int))) (ByteArray.mk #[97, 98, 99]))
 (let y5 : Int := (IntKind.wrap .i64 ((IntKind.wrap .i64 (((y2.1.1 : Nat) : Int) + ((y4.1.1 : Nat) : Int))) + y2.1.2.1))
 cond ((IntKind.wrap .i64 (y5 + y4.1.2.1)) != (0 : Int))
 (some (encRes ro_turnoutlaw16_WalkNames rh_turnoutlaw16_WalkNames ((false, ()), ())))
 (cond (y2.1.2.2.1 != (0 : Int))
 (some (encRes ro_turnoutlaw16_WalkNames rh_turnoutlaw16_WalkNames ((false, ()), ())))
 (cond (y4.1.2.2.1 != (0 : Int))
 (some (encRes ro_turnoutlaw16_WalkNames rh_turnoutlaw16_WalkNames ((false, ()), ())))
 (let y6 : ((Nat × (Int × (Int × Unit))) × ((List HeadS) × Unit)) := (q_walk_Walk ([((1 : Int), ((0 : Int), ((0 : Int), ((0 : Int), ((0 : Int), ((0 : Int), ((8 : Int), ([((97 : Int), ((9 : Int), ()))], ((0 : Int), ()))))))))), ((9 : Int), ((0 : Int), ((0 : Int), ((0 : Int), ((0 : Int), ((8 : Int), ((8 : Int), ([], ((65535 : Int), ())))))))))]) (ByteArray.mk #[97, 98]))
 cond (ok_walk_Walk ([((1 : Int), ((0 : Int), ((0 : Int), ((0 : Int), ((0 : Int), ((0 : Int), ((8 : Int), ([((97 : Int), ((9 : Int), ()))], ((0 : Int), ()))))))))), ((9 : Int), ((0 : Int), ((0 : Int), ((0 : Int), ((0 : Int), ((8 : Int), ((8 : Int), ([], ((65535 : Int), ())))))))))]) (ByteArray.mk #[97, 98]))
 (let y7 : ((Nat × (Int × (Int × Unit))) × ((List HeadS) × Unit)) := (q_walk_Walk ([((1 : Int), ((0 : Int), ((0 : Int), ((0 : Int), ((0 : Int), ((0 : Int), ((8 : Int), ([((97 : Int), ((9 : Int), ()))], ((0 : Int), ()))))))))), ((9 : Int), ((0 : Int), ((0 : Int), ((0 : Int), ((0 : Int), ((8 : Int), ((8 : Int), ([], ((65535 : Int), ())))))))))]) (ByteArray.mk #[98]))
 cond (ok_walk_Walk ([((1 : Int), ((0 : Int), ((0 : Int), ((0 : Int), ((0 : Int), ((0 : Int), ((8 : Int), ([((97 : Int), ((9 : Int), ()))], ((0 : Int), ()))))))))), ((9 : Int), ((0 : Int), ((0 : Int), ((0 : Int), ((0 : Int), ((8 : Int), ((8 : Int), ([], ((65535 : Int), ())))))))))]) (ByteArray.mk #[98]))
 (let y8 : ((Bool × Unit) × Unit) := (q_turnoutref16_Heads (cutL zHeadS y6.2.1 0 y6.1.1) ([((1 : Int), ((0 : Int), ())), ((9 : Int), ((0 : Int), ()))]))
 cond (ok_turnoutref16_Heads (cutL zHeadS y6.2.1 0 y6.1.1) ([((1 : Int), ((0 : Int), ())), ((9 : Int), ((0 : Int), ()))]))
 (cond (!y8.1.1)
 (some (encRes ro_turnoutlaw16_WalkNames rh_turnoutlaw16_WalkNames ((false, ()), ())))
 (cond (y6.1.2.1 != (2 : Int))
 (some (encRes ro_turnoutlaw16_WalkNames rh_turnoutlaw16_WalkNames ((false, ()), ())))
 (cond (y6.1.2.2.1 != (4 : Int))
 (some (encRes ro_turnoutlaw16_WalkNames rh_turnoutlaw16_WalkNames ((false, ()), ())))
 (let y9 : ((Bool × Unit) × Unit) := (q_turnoutref16_Heads (cutL zHeadS y7.2.1 0 y7.1.1) ([((1 : Int), ((0 : Int), ()))]))
 cond (ok_turnoutref16_Heads (cutL zHeadS y7.2.1 0 y7.1.1) ([((1 : Int), ((0 : Int), ()))]))
 (cond (!y9.1.1)
 (some (encRes ro_turnoutlaw16_WalkNames rh_turnoutlaw16_WalkNames ((false, ()), ())))
 (cond (y7.1.2.1 != (1 : Int))
 (some (encRes ro_turnoutlaw16_WalkNames rh_turnoutlaw16_WalkNames ((false, ()), ())))
 (cond (y7.1.2.2.1 != (0 : Int))
 (some (encRes ro_turnoutlaw16_WalkNames rh_turnoutlaw16_WalkNames ((false, ()), ())))
 (cond (decide ((0 : Int) ≤ (256 : Int) ∧ (256 : Int) ≤ (256 : Int) ∧ (1 : Nat) * (256 : Int) ≤ (2 : Int) ^ 46))
 (cond (decide (ByteArray.size (ByteArray.mk #[128]) + ByteArray.size (bytesOf (mkL (Int.toNat (256 : Int)) (fun i => (0 : Int)))) ≤ 9223372036854775807))
 (let y10 : ByteArray := ((ByteArray.mk #[128]) ++ (bytesOf (mkL (Int.toNat (256 : Int)) (fun i => (0 : Int)))))
 cond (decide (ByteArray.size (ByteArray.mk #[128]) + ByteArray.size (bytesOf (mkL (Int.toNat (256 : Int)) (fun i => (0 : Int)))) ≤ 9223372036854775807))
 (let y11 : ByteArray := ((ByteArray.mk #[128]) ++ (bytesOf (mkL (Int.toNat (256 : Int)) (fun i => (0 : Int)))))
 L_turnoutlaw16_WalkNames_0 n
  (fun y14 => some (encRes ro_turnoutlaw16_WalkNames rh_turnoutlaw16_WalkNames ((y14, ()), ())))
  (fun _ => let y15 : ((Nat × (Int × (Int × Unit))) × ((List HeadS) × Unit)) := (q_walk_Walk ([((1 : Int), ((0 : Int), ((0 : Int), ((0 : Int), ((0 : Int), ((0 : Int), ((0 : Int), ([], ((2 : Int), ()))))))))), ((2 : Int), ((0 : Int), ((0 : Int), ((0 : Int), ((0 : Int), ((0 : Int), ((0 : Int), ([], ((1 : Int), ())))))))))]) (ByteArray.mk #[97, 98, 99]))
 cond (ok_walk_Walk ([((1 : Int), ((0 : Int), ((0 : Int), ((0 : Int), ((0 : Int), ((0 : Int), ((0 : Int), ([], ((2 : Int), ()))))))))), ((2 : Int), ((0 : Int), ((0 : Int), ((0 : Int), ((0 : Int), ((0 : Int), ((0 : Int), ([], ((1 : Int), ())))))))))]) (ByteArray.mk #[97, 98, 99]))
 (cond (((y15.1.1 : Nat) : Int) == (0 : Int))
 (cond (y15.1.2.1 == (0 : Int))
 (some (encRes ro_turnoutlaw16_WalkNames rh_turnoutlaw16_WalkNames (((y15.1.2.2.1 == (0 : Int)), ()), ())))
 (some (encRes ro_turnoutlaw16_WalkNames rh_turnoutlaw16_WalkNames ((false, ()), ()))))
 (some (encRes ro_turnoutlaw16_WalkNames rh_turnoutlaw16_WalkNames ((false, ()), ()))))
 (none))
  12
  ((12 : Nat) : Int)
  ([(((1 : Int), ((256 : Int), ((0 : Int), ((0 : Int), ((0 : Int), ((0 : Int), ((0 : Int), ([], ((0 : Int), ()))))))))), ((bytesOf (mkL (Int.toNat (256 : Int)) (fun i => (0 : Int)))), ((0 : Int), ((256 : Int), ((0 : Int), ()))))), (((1 : Int), ((256 : Int), ((0 : Int), ((0 : Int), ((0 : Int), ((0 : Int), ((0 : Int), ([], ((0 : Int), ()))))))))), ((bytesOf (mkL (Int.toNat (256 : Int)) (fun i => (0 : Int)))), ((1 : Int), ((0 : Int), ((1 : Int), ()))))), (((1 : Int), ((257 : Int), ((0 : Int), ((0 : Int), ((0 : Int), ((0 : Int), ((0 : Int), ([], ((0 : Int), ()))))))))), ((bytesOf (mkL (Int.toNat (256 : Int)) (fun i => (0 : Int)))), ((0 : Int), ((0 : Int), ((4 : Int), ()))))), (((1 : Int), ((255 : Int), ((0 : Int), ((1 : Int), ((1 : Int), ((0 : Int), ((0 : Int), ([], ((0 : Int), ()))))))))), (y10, ((0 : Int), ((256 : Int), ((0 : Int), ()))))), (((1 : Int), ((255 : Int), ((0 : Int), ((1 : Int), ((2 : Int), ((0 : Int), ((0 : Int), ([], ((0 : Int), ()))))))))), (y11, ((0 : Int), ((0 : Int), ((2 : Int), ()))))), (((1 : Int), ((0 : Int), ((0 : Int), ((1 : Int), ((256 : Int), ((0 : Int), ((0 : Int), ([], ((0 : Int), ()))))))))), ((ByteArray.mk #[128]), ((0 : Int), ((0 : Int), ((1 : Int), ()))))), (((1 : Int), ((0 : Int), ((0 : Int), ((16 : Int), ((256 : Int), ((0 : Int), ((0 : Int), ([], ((0 : Int), ()))))))))), ((ByteArray.mk #[255, 255]), ((0 : Int), ((0 : Int), ((2 : Int), ()))))), (((1 : Int), ((0 : Int), ((9 : Int), ((8 : Int), ((1 : Int), ((0 : Int), ((0 : Int), ([], ((0 : Int), ()))))))))), ((ByteArray.mk #[97, 98]), ((0 : Int), ((0 : Int), ((1 : Int), ()))))), (((1 : Int), ((0 : Int), ((0 : Int), ((0 : Int), ((0 : Int), ((0 : Int), ((0 : Int), ([], ((0 : Int), ()))))))))), ((ByteArray.mk #[97, 98]), ((2 : Int), ((0 : Int), ((0 : Int), ()))))), (((1 : Int), ((0 : Int), ((0 : Int), ((0 : Int), ((0 : Int), ((0 : Int), ((0 : Int), ([], ((0 : Int), ()))))))))), ((ByteArray.mk #[97, 98]), ((3 : Int), ((0 : Int), ((1 : Int), ()))))), (((1 : Int), ((0 : Int), ((0 : Int), ((0 : Int), ((0 : Int), ((0 : Int), ((0 : Int), ([], ((0 : Int), ()))))))))), ((ByteArray.mk #[97, 98]), ((-1 : Int), ((0 : Int), ((1 : Int), ()))))), (((1 : Int), ((0 : Int), ((0 : Int), ((0 : Int), ((1 : Int), ((0 : Int), ((0 : Int), ([], ((0 : Int), ()))))))))), ((ByteArray.mk #[97, 98]), ((0 : Int), ((0 : Int), ((4 : Int), ())))))])
  n
  (0 : Int))
 (none))
 (none))
 (none)))))
 (none)))))
 (none))
 (none))
 (none)))))
 (none))
 (none))
 (none))
 (none)))
 (none)
noncomputable def Q_turnoutlaw16_WalkNames : Option (RS ro_turnoutlaw16_WalkNames rh_turnoutlaw16_WalkNames) := decRes ro_turnoutlaw16_WalkNames rh_turnoutlaw16_WalkNames (M_turnoutlaw16_WalkNames FUEL)
noncomputable def ok_turnoutlaw16_WalkNames : Bool := (Q_turnoutlaw16_WalkNames).isSome
noncomputable def q_turnoutlaw16_WalkNames : RS ro_turnoutlaw16_WalkNames rh_turnoutlaw16_WalkNames := RS.get (Q_turnoutlaw16_WalkNames)
/-! ### turnoutlaw16_bits -/
abbrev ro_turnoutlaw16_bits : List EK := [.ty (.int .u32), .ty .bool]
abbrev rh_turnoutlaw16_bits : List HK := []
noncomputable def F_turnoutlaw16_bits_0 (n : Nat) (k_t0 : Int → Option Res) (x0_0 : ByteArray) (x0_1 : Int) (x0_2 : Int) (rec : Int → Int → Option Res) (x0_3 : Int) (x0_4 : Int) : Option Res :=
 cond (decide (x0_4 < (IntKind.wrap .i64 (x0_1 + x0_2))))
 (cond ((8 : Int) != 0)
 (cond (decide ((0 : Int) ≤ (IntKind.wrap .i64 (Int.tdiv x0_4 (8 : Int))) ∧ (IntKind.wrap .i64 (Int.tdiv x0_4 (8 : Int))) < ((ByteArray.size x0_0 : Nat) : Int)))
 (cond ((8 : Int) != 0)
 (cond (decide ((0 : Int) ≤ (IntKind.wrap .i64 ((7 : Int) - (Int.tmod x0_4 (8 : Int))))))
 (let y1 : Int := (Int.fdiv (byteAt x0_0 (Int.toNat (IntKind.wrap .i64 (Int.tdiv x0_4 (8 : Int))))) (2 ^ (min (Int.toNat (IntKind.wrap .i64 ((7 : Int) - (Int.tmod x0_4 (8 : Int))))) (IntKind.bits .u8))))
 let y2 : Int := (IntKind.wrap .u8 (BitVec.toNat (BitVec.ofInt (IntKind.bits .u8) y1 &&& BitVec.ofInt (IntKind.bits .u8) (1 : Int)) : Nat))
 rec (IntKind.wrap .u32 ((IntKind.wrap .u32 ((2 : Int) * x0_3)) + (IntKind.wrap .u32 y2))) (IntKind.wrap .i64 (x0_4 + (1 : Int))))
 (none))
 (none))
 (none))
 (none))
 (k_t0 x0_3)
noncomputable def L_turnoutlaw16_bits_0 (n : Nat) (k_t0 : Int → Option Res) (x0_0 : ByteArray) (x0_1 : Int) (x0_2 : Int) : Nat → Int → Int → Option Res
  | 0, _, _ => none
  | m + 1, x0_3, x0_4 => F_turnoutlaw16_bits_0 n k_t0 x0_0 x0_1 x0_2 (L_turnoutlaw16_bits_0 n k_t0 x0_0 x0_1 x0_2 m) x0_3 x0_4
noncomputable def M_turnoutlaw16_bits (n : Nat) (a0 : ByteArray) (a1 : Int) (a2 : Int) : Option Res :=
 cond (decide ((IntKind.wrap .i64 (a1 + a2)) > (IntKind.wrap .i64 ((8 : Int) * ((ByteArray.size a0 : Nat) : Int)))))
 (some (encRes ro_turnoutlaw16_bits rh_turnoutlaw16_bits (((0 : Int), (false, ())), ())))
 (L_turnoutlaw16_bits_0 n
  (fun y3 => some (encRes ro_turnoutlaw16_bits rh_turnoutlaw16_bits ((y3, (true, ())), ())))
  a0
  a1
  a2
  n
  (0 : Int)
  a1)
noncomputable def Q_turnoutlaw16_bits (a0 : ByteArray) (a1 : Int) (a2 : Int) : Option (RS ro_turnoutlaw16_bits rh_turnoutlaw16_bits) := decRes ro_turnoutlaw16_bits rh_turnoutlaw16_bits (M_turnoutlaw16_bits FUEL a0 a1 a2)
noncomputable def ok_turnoutlaw16_bits (a0 : ByteArray) (a1 : Int) (a2 : Int) : Bool := (Q_turnoutlaw16_bits a0 a1 a2).isSome
noncomputable def q_turnoutlaw16_bits (a0 : ByteArray) (a1 : Int) (a2 : Int) : RS ro_turnoutlaw16_bits rh_turnoutlaw16_bits := RS.get (Q_turnoutlaw16_bits a0 a1 a2)
/-! ### turnoutlaw16_WalkGraph -/
abbrev ro_turnoutlaw16_WalkGraph : List EK := [.ty .bool]
abbrev rh_turnoutlaw16_WalkGraph : List HK := []
noncomputable def F_turnoutlaw16_WalkGraph_2 (n : Nat) (k_r : Bool → Option Res) (k_t2 : Unit → Option Res) (x2_0 : (List NodeS)) (x2_1 : ByteArray) (x2_2 : Nat) (x2_3 : Int) (x2_4 : Int) (x2_5 : Int) (x2_6 : Int) (x2_7 : Int) (x2_9 : (List HeadS)) (x2_10 : NodeS) (rec : Int → Option Res) (x2_8 : Int) : Option Res :=
 cond (decide (x2_8 < x2_6))
 (cond (decide ((0 : Int) ≤ x2_8 ∧ x2_8 < ((x2_2 : Nat) : Int)))
 (cond ((rdd zHeadS x2_9 (Int.toNat x2_8)).1 == x2_4)
 (k_r false)
 (rec (IntKind.wrap .i64 (x2_8 + (1 : Int)))))
 (none))
 (k_t2 ())
noncomputable def L_turnoutlaw16_WalkGraph_2 (n : Nat) (k_r : Bool → Option Res) (k_t2 : Unit → Option Res) (x2_0 : (List NodeS)) (x2_1 : ByteArray) (x2_2 : Nat) (x2_3 : Int) (x2_4 : Int) (x2_5 : Int) (x2_6 : Int) (x2_7 : Int) (x2_9 : (List HeadS)) (x2_10 : NodeS) : Nat → Int → Option Res
  | 0, _ => none
  | m + 1, x2_8 => F_turnoutlaw16_WalkGraph_2 n k_r k_t2 x2_0 x2_1 x2_2 x2_3 x2_4 x2_5 x2_6 x2_7 x2_9 x2_10 (L_turnoutlaw16_WalkGraph_2 n k_r k_t2 x2_0 x2_1 x2_2 x2_3 x2_4 x2_5 x2_6 x2_7 x2_9 x2_10 m) x2_8
noncomputable def F_turnoutlaw16_WalkGraph_0 (n : Nat) (k_r : Bool → Option Res) (k_t0 : Int → Int → Option Res) (x0_0 : (List NodeS)) (x0_1 : ByteArray) (x0_2 : Nat) (x0_3 : Int) (x0_7 : (List HeadS)) (rec : Int → Int → Int → Option Res) (x0_4 : Int) (x0_5 : Int) (x0_6 : Int) : Option Res :=
 cond (decide (x0_6 < ((x0_2 : Nat) : Int)))
 (cond (decide ((0 : Int) ≤ x0_6 ∧ x0_6 < ((x0_2 : Nat) : Int)))
 (let y8 : ((NodeS × (Bool × Unit)) × Unit) := (q_graph_Find x0_0 ((rdd zHeadS x0_7 (Int.toNat x0_6)).1))
 cond (ok_graph_Find x0_0 ((rdd zHeadS x0_7 (Int.toNat x0_6)).1))
 (let y9 : ((Int × (Int × Unit)) × Unit) := (q_walk_Size y8.1.1 x0_1 x0_5)
 cond (ok_walk_Size y8.1.1 x0_1 x0_5)
 (cond (!y8.1.2.1)
 (k_r false)
 (cond (decide ((0 : Int) ≤ x0_6 ∧ x0_6 < ((x0_2 : Nat) : Int)))
 (cond (!(((rdd zHeadS x0_7 (Int.toNat x0_6)).1 == x0_4) && (((rdd zHeadS x0_7 (Int.toNat x0_6)).2.1 == x0_5) && true)))
 (k_r false)
 (cond (y9.1.2.1 != (0 : Int))
 (k_r false)
 (cond (decide ((IntKind.wrap .i64 (x0_5 + y9.1.1)) > ((ByteArray.size x0_1 : Nat) : Int)))
 (k_r false)
 (L_turnoutlaw16_WalkGraph_2 n
  (fun y10 => k_r y10)
  (fun _ => cond (decide (y8.1.1.2.2.2.2.2.2.1 > (0 : Int)))
 (let y11 : ((Int × (Bool × Unit)) × Unit) := (q_turnoutlaw16_bits x0_1 (IntKind.wrap .i64 ((IntKind.wrap .i64 ((8 : Int) * x0_5)) + y8.1.1.2.2.2.2.2.1)) y8.1.1.2.2.2.2.2.2.1)
 cond (ok_turnoutlaw16_bits x0_1 (IntKind.wrap .i64 ((IntKind.wrap .i64 ((8 : Int) * x0_5)) + y8.1.1.2.2.2.2.2.1)) y8.1.1.2.2.2.2.2.2.1)
 (cond (!y11.1.2.1)
 (cond (x0_3 == (1 : Int))
 (k_r (x0_6 == (IntKind.wrap .i64 (((x0_2 : Nat) : Int) - (1 : Int)))))
 (k_r false))
 (let y12 : ((Int × Unit) × Unit) := (q_graph_Next x0_0 x0_4 y11.1.1)
 cond (ok_graph_Next x0_0 x0_4 y11.1.1)
 (rec y12.1.1 (IntKind.wrap .i64 (x0_5 + y9.1.1)) (IntKind.wrap .i64 (x0_6 + (1 : Int))))
 (none)))
 (none))
 (cond (!true)
 (cond (x0_3 == (1 : Int))
 (k_r (x0_6 == (IntKind.wrap .i64 (((x0_2 : Nat) : Int) - (1 : Int)))))
 (k_r false))
 (let y13 : ((Int × Unit) × Unit) := (q_graph_Next x0_0 x0_4 (0 : Int))
 cond (ok_graph_Next x0_0 x0_4 (0 : Int))
 (rec y13.1.1 (IntKind.wrap .i64 (x0_5 + y9.1.1)) (IntKind.wrap .i64 (x0_6 + (1 : Int))))
 (none))))
  x0_0
  x0_1
  x0_2
  x0_3
  x0_4
  x0_5
  x0_6
  y9.1.1
  x0_7
  y8.1.1
  n
  (0 : Int)))))
 (none)))
 (none))
 (none))
 (none))
 (k_t0 x0_4 x0_5)
noncomputable def L_turnoutlaw16_WalkGraph_0 (n : Nat) (k_r : Bool → Option Res) (k_t0 : Int → Int → Option Res) (x0_0 : (List NodeS)) (x0_1 : ByteArray) (x0_2 : Nat) (x0_3 : Int) (x0_7 : (List HeadS)) : Nat → Int → Int → Int → Option Res
  | 0, _, _, _ => none
  | m + 1, x0_4, x0_5, x0_6 => F_turnoutlaw16_WalkGraph_0 n k_r k_t0 x0_0 x0_1 x0_2 x0_3 x0_7 (L_turnoutlaw16_WalkGraph_0 n k_r k_t0 x0_0 x0_1 x0_2 x0_3 x0_7 m) x0_4 x0_5 x0_6
noncomputable def M_turnoutlaw16_WalkGraph (n : Nat) (a0 : (List NodeS)) (a1 : ByteArray) : Option Res :=
 let y1 : ((Bool × Unit) × Unit) := (q_turnoutlaw16_large a0)
 cond (ok_turnoutlaw16_large a0)
 (cond y1.1.1
 (let y2 : ((Bool × Unit) × Unit) := q_turnoutlaw16_awake
 cond ok_turnoutlaw16_awake
 (some (encRes ro_turnoutlaw16_WalkGraph rh_turnoutlaw16_WalkGraph ((y2.1.1, ()), ())))
 (none))
 (cond (decide (((ByteArray.size a1 : Nat) : Int) > (10000 : Int)))
 (let y3 : ((Bool × Unit) × Unit) := q_turnoutlaw16_awake
 cond ok_turnoutlaw16_awake
 (some (encRes ro_turnoutlaw16_WalkGraph rh_turnoutlaw16_WalkGraph ((y3.1.1, ()), ())))
 (none))
 (let y4 : ((Bool × Unit) × Unit) := q_turnoutlaw16_awake
 cond ok_turnoutlaw16_awake
 (cond (!y4.1.1)
 (let y5 : ((Bool × Unit) × Unit) := q_turnoutlaw16_awake
 cond ok_turnoutlaw16_awake
 (some (encRes ro_turnoutlaw16_WalkGraph rh_turnoutlaw16_WalkGraph ((y5.1.1, ()), ())))
 (none))
 (let y6 : ((Nat × (Int × (Int × Unit))) × ((List HeadS) × Unit)) := (q_walk_Walk a0 a1)
 cond (ok_walk_Walk a0 a1)
 (let y7 : ((Int × Unit) × Unit) := (q_graph_May a0)
 cond (ok_graph_May a0)
 (cond (y7.1.1 != (0 : Int))
 (cond (((y6.1.1 : Nat) : Int) == (0 : Int))
 (some (encRes ro_turnoutlaw16_WalkGraph rh_turnoutlaw16_WalkGraph (((y6.1.2.2.1 == (0 : Int)), ()), ())))
 (some (encRes ro_turnoutlaw16_WalkGraph rh_turnoutlaw16_WalkGraph ((false, ()), ()))))
 (L_turnoutlaw16_WalkGraph_0 n
  (fun y14 => some (encRes ro_turnoutlaw16_WalkGraph rh_turnoutlaw16_WalkGraph ((y14, ()), ())))
  (fun y15 y16 => let y17 : ((NodeS × (Bool × Unit)) × Unit) := (q_graph_Find a0 y15)
 cond (ok_graph_Find a0 y15)
 (cond (y15 == (65535 : Int))
 (some (encRes ro_turnoutlaw16_WalkGraph rh_turnoutlaw16_WalkGraph (((y6.1.2.2.1 == (4 : Int)), ()), ())))
 (cond (!y17.1.2.1)
 (cond (y6.1.2.2.1 == (0 : Int))
 (cond (y15 == (0 : Int))
 (some (encRes ro_turnoutlaw16_WalkGraph rh_turnoutlaw16_WalkGraph ((true, ()), ())))
 (some (encRes ro_turnoutlaw16_WalkGraph rh_turnoutlaw16_WalkGraph (((((y6.1.1 : Nat) : Int) == (0 : Int)), ()), ()))))
 (some (encRes ro_turnoutlaw16_WalkGraph rh_turnoutlaw16_WalkGraph ((false, ()), ()))))
 (let y18 : ((NodeS × (Bool × Unit)) × Unit) := (q_graph_Find a0 y15)
 cond (ok_graph_Find a0 y15)
 (let y19 : ((Int × (Int × Unit)) × Unit) := (q_walk_Size y18.1.1 a1 y16)
 cond (ok_walk_Size y18.1.1 a1 y16)
 (cond (y6.1.2.2.1 == y19.1.2.1)
 (some (encRes ro_turnoutlaw16_WalkGraph rh_turnoutlaw16_WalkGraph (((y19.1.2.1 != (0 : Int)), ()), ())))
 (some (encRes ro_turnoutlaw16_WalkGraph rh_turnoutlaw16_WalkGraph ((false, ()), ()))))
 (none))
 (none))))
 (none))
  a0
  a1
  y6.1.1
  y6.1.2.2.1
  y6.2.1
  n
  (1 : Int)
  (0 : Int)
  (0 : Int)))
 (none))
 (none)))
 (none))))
 (none)
noncomputable def Q_turnoutlaw16_WalkGraph (a0 : (List NodeS)) (a1 : ByteArray) : Option (RS ro_turnoutlaw16_WalkGraph rh_turnoutlaw16_WalkGraph) := decRes ro_turnoutlaw16_WalkGraph rh_turnoutlaw16_WalkGraph (M_turnoutlaw16_WalkGraph FUEL a0 a1)
noncomputable def ok_turnoutlaw16_WalkGraph (a0 : (List NodeS)) (a1 : ByteArray) : Bool := (Q_turnoutlaw16_WalkGraph a0 a1).isSome
noncomputable def q_turnoutlaw16_WalkGraph (a0 : (List NodeS)) (a1 : ByteArray) : RS ro_turnoutlaw16_WalkGraph rh_turnoutlaw16_WalkGraph := RS.get (Q_turnoutlaw16_WalkGraph a0 a1)
/-! ### turnoutlaw16_WalkBehind -/
abbrev ro_turnoutlaw16_WalkBehind : List EK := [.ty .bool]
abbrev rh_turnoutlaw16_WalkBehind : List HK := []
noncomputable def M_turnoutlaw16_WalkBehind (n : Nat) (a0 : (List NodeS)) (a1 : ByteArray) (a2 : ByteArray) : Option Res :=
 let y1 : ((Bool × Unit) × Unit) := (q_turnoutlaw16_large a0)
 cond (ok_turnoutlaw16_large a0)
 (cond y1.1.1
 (let y2 : ((Bool × Unit) × Unit) := q_turnoutlaw16_awake
 cond ok_turnoutlaw16_awake
 (some (encRes ro_turnoutlaw16_WalkBehind rh_turnoutlaw16_WalkBehind ((y2.1.1, ()), ())))
 (none))
 (cond (decide (((ByteArray.size a1 : Nat) : Int) > (5000 : Int)))
 (let y3 : ((Bool × Unit) × Unit) := q_turnoutlaw16_awake
 cond ok_turnoutlaw16_awake
 (some (encRes ro_turnoutlaw16_WalkBehind rh_turnoutlaw16_WalkBehind ((y3.1.1, ()), ())))
 (none))
 (cond (decide (((ByteArray.size a2 : Nat) : Int) > (5000 : Int)))
 (let y4 : ((Bool × Unit) × Unit) := q_turnoutlaw16_awake
 cond ok_turnoutlaw16_awake
 (some (encRes ro_turnoutlaw16_WalkBehind rh_turnoutlaw16_WalkBehind ((y4.1.1, ()), ())))
 (none))
 (let y5 : ((Bool × Unit) × Unit) := q_turnoutlaw16_awake
 cond ok_turnoutlaw16_awake
 (cond (!y5.1.1)
 (let y6 : ((Bool × Unit) × Unit) := q_turnoutlaw16_awake
 cond ok_turnoutlaw16_awake
 (some (encRes ro_turnoutlaw16_WalkBehind rh_turnoutlaw16_WalkBehind ((y6.1.1, ()), ())))
 (none))
 (let y7 : ((Nat × (Int × (Int × Unit))) × ((List HeadS) × Unit)) := (q_walk_Walk a0 a1)
 cond (ok_walk_Walk a0 a1)
 (cond (decide (ByteArray.size a1 + ByteArray.size a2 ≤ 9223372036854775807))
 (let y8 : ((Nat × (Int × (Int × Unit))) × ((List HeadS) × Unit)) := (q_walk_Walk a0 (a1 ++ a2))
 cond (ok_walk_Walk a0 (a1 ++ a2))
 (cond (decide (((y8.1.1 : Nat) : Int) < ((y7.1.1 : Nat) : Int)))
 (some (encRes ro_turnoutlaw16_WalkBehind rh_turnoutlaw16_WalkBehind ((false, ()), ())))
 (cond (decide ((0 : Int) ≤ (0 : Int) ∧ (0 : Int) ≤ ((y7.1.1 : Nat) : Int) ∧ ((y7.1.1 : Nat) : Int) ≤ ((y8.1.1 : Nat) : Int) ∧ ((y8.1.1 : Nat) : Int) ≤ ((y8.1.1 : Nat) : Int)))
 (let y9 : ((Bool × Unit) × Unit) := (q_turnoutref16_Heads (cutL zHeadS y8.2.1 0 (Int.toNat ((y7.1.1 : Nat) : Int) - Int.toNat (0 : Int))) (cutL zHeadS y7.2.1 0 y7.1.1))
 cond (ok_turnoutref16_Heads (cutL zHeadS y8.2.1 0 (Int.toNat ((y7.1.1 : Nat) : Int) - Int.toNat (0 : Int))) (cutL zHeadS y7.2.1 0 y7.1.1))
 (cond (!y9.1.1)
 (some (encRes ro_turnoutlaw16_WalkBehind rh_turnoutlaw16_WalkBehind ((false, ()), ())))
 (cond (decide (y8.1.2.1 < y7.1.2.1))
 (some (encRes ro_turnoutlaw16_WalkBehind rh_turnoutlaw16_WalkBehind ((false, ()), ())))
 (cond (y7.1.2.2.1 == (1 : Int))
 (some (encRes ro_turnoutlaw16_WalkBehind rh_turnoutlaw16_WalkBehind ((true, ()), ())))
 (cond (((y8.1.1 : Nat) : Int) == ((y7.1.1 : Nat) : Int))
 (cond (y8.1.2.1 == y7.1.2.1)
 (some (encRes ro_turnoutlaw16_WalkBehind rh_turnoutlaw16_WalkBehind (((y8.1.2.2.1 == y7.1.2.2.1), ()), ())))
 (some (encRes ro_turnoutlaw16_WalkBehind rh_turnoutlaw16_WalkBehind ((false, ()), ()))))
 (some (encRes ro_turnoutlaw16_WalkBehind rh_turnoutlaw16_WalkBehind ((false, ()), ())))))))
 (none))
 (none)))
 (none))
 (none))
 (none)))
 (none)))))
 (none)
noncomputable def Q_turnoutlaw16_WalkBehind (a0 : (List NodeS)) (a1 : ByteArray) (a2 : ByteArray) : Option (RS ro_turnoutlaw16_WalkBehind rh_turnoutlaw16_WalkBehind) := decRes ro_turnoutlaw16_WalkBehind rh_turnoutlaw16_WalkBehind (M_turnoutlaw16_WalkBehind FUEL a0 a1 a2)
noncomputable def ok_turnoutlaw16_WalkBehind (a0 : (List NodeS)) (a1 : ByteArray) (a2 : ByteArray) : Bool := (Q_turnoutlaw16_WalkBehind a0 a1 a2).isSome
noncomputable def q_turnoutlaw16_WalkBehind (a0 : (List NodeS)) (a1 : ByteArray) (a2 : ByteArray) : RS ro_turnoutlaw16_WalkBehind rh_turnoutlaw16_WalkBehind := RS.get (Q_turnoutlaw16_WalkBehind a0 a1 a2)
/-! ### turnoutlaw16_WalkCut -/
abbrev ro_turnoutlaw16_WalkCut : List EK := [.ty .bool]
abbrev rh_turnoutlaw16_WalkCut : List HK := []
noncomputable def M_turnoutlaw16_WalkCut (n : Nat) (a0 : (List NodeS)) (a1 : ByteArray) (a2 : Int) : Option Res :=
 let y1 : ((Bool × Unit) × Unit) := (q_turnoutlaw16_large a0)
 cond (ok_turnoutlaw16_large a0)
 (cond y1.1.1
 (let y2 : ((Bool × Unit) × Unit) := q_turnoutlaw16_awake
 cond ok_turnoutlaw16_awake
 (some (encRes ro_turnoutlaw16_WalkCut rh_turnoutlaw16_WalkCut ((y2.1.1, ()), ())))
 (none))
 (cond (decide (((ByteArray.size a1 : Nat) : Int) > (10000 : Int)))
 (let y3 : ((Bool × Unit) × Unit) := q_turnoutlaw16_awake
 cond ok_turnoutlaw16_awake
 (some (encRes ro_turnoutlaw16_WalkCut rh_turnoutlaw16_WalkCut ((y3.1.1, ()), ())))
 (none))
 (let y4 : ((Bool × Unit) × Unit) := q_turnoutlaw16_awake
 cond ok_turnoutlaw16_awake
 (cond (!y4.1.1)
 (let y5 : ((Bool × Unit) × Unit) := q_turnoutlaw16_awake
 cond ok_turnoutlaw16_awake
 (some (encRes ro_turnoutlaw16_WalkCut rh_turnoutlaw16_WalkCut ((y5.1.1, ()), ())))
 (none))
 (cond ((IntKind.wrap .u64 (IntKind.wrap .i64 (((ByteArray.size a1 : Nat) : Int) + (1 : Int)))) != 0)
 (let y6 : Int := (Int.tmod (IntKind.wrap .u64 a2) (IntKind.wrap .u64 (IntKind.wrap .i64 (((ByteArray.size a1 : Nat) : Int) + (1 : Int)))))
 let y7 : ((Nat × (Int × (Int × Unit))) × ((List HeadS) × Unit)) := (q_walk_Walk a0 a1)
 cond (ok_walk_Walk a0 a1)
 (cond (decide ((0 : Int) ≤ (0 : Int) ∧ (0 : Int) ≤ (IntKind.wrap .i64 y6) ∧ (IntKind.wrap .i64 y6) ≤ ((ByteArray.size a1 : Nat) : Int)))
 (let y8 : ByteArray := (ByteArray.extract a1 (Int.toNat (0 : Int)) (Int.toNat (IntKind.wrap .i64 y6)))
 let y9 : ((Nat × (Int × (Int × Unit))) × ((List HeadS) × Unit)) := (q_walk_Walk a0 y8)
 cond (ok_walk_Walk a0 y8)
 (cond (decide (((y9.1.1 : Nat) : Int) > ((y7.1.1 : Nat) : Int)))
 (some (encRes ro_turnoutlaw16_WalkCut rh_turnoutlaw16_WalkCut ((false, ()), ())))
 (cond (decide ((0 : Int) ≤ (0 : Int) ∧ (0 : Int) ≤ ((y9.1.1 : Nat) : Int) ∧ ((y9.1.1 : Nat) : Int) ≤ ((y7.1.1 : Nat) : Int) ∧ ((y7.1.1 : Nat) : Int) ≤ ((y7.1.1 : Nat) : Int)))
 (let y10 : ((Bool × Unit) × Unit) := (q_turnoutref16_Heads (cutL zHeadS y7.2.1 0 (Int.toNat ((y9.1.1 : Nat) : Int) - Int.toNat (0 : Int))) (cutL zHeadS y9.2.1 0 y9.1.1))
 cond (ok_turnoutref16_Heads (cutL zHeadS y7.2.1 0 (Int.toNat ((y9.1.1 : Nat) : Int) - Int.toNat (0 : Int))) (cutL zHeadS y9.2.1 0 y9.1.1))
 (cond (!y10.1.1)
 (some (encRes ro_turnoutlaw16_WalkCut rh_turnoutlaw16_WalkCut ((false, ()), ())))
 (cond (decide (y9.1.2.1 > y7.1.2.1))
 (some (encRes ro_turnoutlaw16_WalkCut rh_turnoutlaw16_WalkCut ((false, ()), ())))
 (cond (y9.1.2.2.1 == (1 : Int))
 (some (encRes ro_turnoutlaw16_WalkCut rh_turnoutlaw16_WalkCut ((true, ()), ())))
 (cond (((y9.1.1 : Nat) : Int) == ((y7.1.1 : Nat) : Int))
 (cond (y9.1.2.1 == y7.1.2.1)
 (some (encRes ro_turnoutlaw16_WalkCut rh_turnoutlaw16_WalkCut (((y9.1.2.2.1 == y7.1.2.2.1), ()), ())))
 (some (encRes ro_turnoutlaw16_WalkCut rh_turnoutlaw16_WalkCut ((false, ()), ()))))
 (some (encRes ro_turnoutlaw16_WalkCut rh_turnoutlaw16_WalkCut ((false, ()), ())))))))
 (none))
 (none)))
 (none))
 (none))
 (none))
 (none)))
 (none))))
 (none)
noncomputable def Q_turnoutlaw16_WalkCut (a0 : (List NodeS)) (a1 : ByteArray) (a2 : Int) : Option (RS ro_turnoutlaw16_WalkCut rh_turnoutlaw16_WalkCut) := decRes ro_turnoutlaw16_WalkCut rh_turnoutlaw16_WalkCut (M_turnoutlaw16_WalkCut FUEL a0 a1 a2)
noncomputable def ok_turnoutlaw16_WalkCut (a0 : (List NodeS)) (a1 : ByteArray) (a2 : Int) : Bool := (Q_turnoutlaw16_WalkCut a0 a1 a2).isSome
noncomputable def q_turnoutlaw16_WalkCut (a0 : (List NodeS)) (a1 : ByteArray) (a2 : Int) : RS ro_turnoutlaw16_WalkCut rh_turnoutlaw16_WalkCut := RS.get (Q_turnoutlaw16_WalkCut a0 a1 a2)
/-! ### graph_Longest -/
abbrev ro_graph_Longest : List EK := [.ty (.int .i64)]
abbrev rh_graph_Longest : List HK := []
noncomputable def M_graph_Longest (n : Nat) (a0 : (List NodeS)) : Option Res :=
 let y1 : ((Int × Unit) × Unit) := (q_graph_May a0)
 cond (ok_graph_May a0)
 (cond (y1.1.1 != (0 : Int))
 (some (encRes ro_graph_Longest rh_graph_Longest (((0 : Int), ()), ())))
 (let y2 : ((Unit × (Bool × Unit)) × (((List NodeS) × Unit) × ((Unit × Unit) × ((Int → Option (Int)) × ((Bool × Unit) × ((Unit × Unit) × ((Int → Option (Int)) × ((Unit × Unit) × Unit)))))))) := (q_graph_longest a0)
 cond (ok_graph_longest a0)
 (let y3 : ((Int × Unit) × (((List NodeS) × Unit) × ((Unit × Unit) × ((Int → Option (Int)) × ((Bool × Unit) × ((Unit × Unit) × ((Int → Option (Int)) × ((Unit × Unit) × Unit)))))))) := (q_graph_longest_walk (1 : Int) y2.2.1.1 y2.2.2.2.1 y2.2.2.2.2.1.1 y2.2.2.2.2.2.2.1)
 cond (ok_graph_longest_walk (1 : Int) y2.2.1.1 y2.2.2.2.1 y2.2.2.2.2.1.1 y2.2.2.2.2.2.2.1)
 (some (encRes ro_graph_Longest rh_graph_Longest ((y3.1.1, ()), ())))
 (none))
 (none)))
 (none)
noncomputable def Q_graph_Longest (a0 : (List NodeS)) : Option (RS ro_graph_Longest rh_graph_Longest) := decRes ro_graph_Longest rh_graph_Longest (M_graph_Longest FUEL a0)
noncomputable def ok_graph_Longest (a0 : (List NodeS)) : Bool := (Q_graph_Longest a0).isSome
noncomputable def q_graph_Longest (a0 : (List NodeS)) : RS ro_graph_Longest rh_graph_Longest := RS.get (Q_graph_Longest a0)
/-! ### turnoutlaw16_WalkSteps -/
abbrev ro_turnoutlaw16_WalkSteps : List EK := [.ty .bool]
abbrev rh_turnoutlaw16_WalkSteps : List HK := []
noncomputable def M_turnoutlaw16_WalkSteps (n : Nat) (a0 : (List NodeS)) (a1 : ByteArray) : Option Res :=
 let y1 : ((Bool × Unit) × Unit) := (q_turnoutlaw16_large a0)
 cond (ok_turnoutlaw16_large a0)
 (cond y1.1.1
 (let y2 : ((Bool × Unit) × Unit) := q_turnoutlaw16_awake
 cond ok_turnoutlaw16_awake
 (some (encRes ro_turnoutlaw16_WalkSteps rh_turnoutlaw16_WalkSteps ((y2.1.1, ()), ())))
 (none))
 (cond (decide (((ByteArray.size a1 : Nat) : Int) > (10000 : Int)))
 (let y3 : ((Bool × Unit) × Unit) := q_turnoutlaw16_awake
 cond ok_turnoutlaw16_awake
 (some (encRes ro_turnoutlaw16_WalkSteps rh_turnoutlaw16_WalkSteps ((y3.1.1, ()), ())))
 (none))
 (let y4 : ((Bool × Unit) × Unit) := q_turnoutlaw16_awake
 cond ok_turnoutlaw16_awake
 (cond (!y4.1.1)
 (let y5 : ((Bool × Unit) × Unit) := q_turnoutlaw16_awake
 cond ok_turnoutlaw16_awake
 (some (encRes ro_turnoutlaw16_WalkSteps rh_turnoutlaw16_WalkSteps ((y5.1.1, ()), ())))
 (none))
 (let y6 : ((Nat × (Int × (Int × Unit))) × ((List HeadS) × Unit)) := (q_walk_Walk a0 a1)
 cond (ok_walk_Walk a0 a1)
 (cond (decide (y6.1.2.1 < ((y6.1.1 : Nat) : Int)))
 (some (encRes ro_turnoutlaw16_WalkSteps rh_turnoutlaw16_WalkSteps ((false, ()), ())))
 (cond (decide (y6.1.2.1 > (IntKind.wrap .i64 (((y6.1.1 : Nat) : Int) + (1 : Int)))))
 (some (encRes ro_turnoutlaw16_WalkSteps rh_turnoutlaw16_WalkSteps ((false, ()), ())))
 (cond (decide (y6.1.2.1 > ((y6.1.1 : Nat) : Int)))
 (cond (y6.1.2.2.1 != (1 : Int))
 (cond (y6.1.2.2.1 != (2 : Int))
 (some (encRes ro_turnoutlaw16_WalkSteps rh_turnoutlaw16_WalkSteps ((false, ()), ())))
 (cond (y6.1.2.2.1 != (0 : Int))
 (cond (y6.1.2.2.1 != (1 : Int))
 (cond (y6.1.2.2.1 != (2 : Int))
 (cond (y6.1.2.2.1 != (4 : Int))
 (some (encRes ro_turnoutlaw16_WalkSteps rh_turnoutlaw16_WalkSteps ((false, ()), ())))
 (let y7 : ((Int × Unit) × Unit) := (q_graph_Longest a0)
 cond (ok_graph_Longest a0)
 (cond (decide (y6.1.2.1 ≤ y7.1.1))
 (some (encRes ro_turnoutlaw16_WalkSteps rh_turnoutlaw16_WalkSteps ((true, ()), ())))
 (let y8 : ((Int × Unit) × Unit) := (q_graph_May a0)
 cond (ok_graph_May a0)
 (cond (y8.1.1 != (0 : Int))
 (some (encRes ro_turnoutlaw16_WalkSteps rh_turnoutlaw16_WalkSteps (((y6.1.2.1 == (0 : Int)), ()), ())))
 (some (encRes ro_turnoutlaw16_WalkSteps rh_turnoutlaw16_WalkSteps ((false, ()), ()))))
 (none)))
 (none)))
 (let y9 : ((Int × Unit) × Unit) := (q_graph_Longest a0)
 cond (ok_graph_Longest a0)
 (cond (decide (y6.1.2.1 ≤ y9.1.1))
 (some (encRes ro_turnoutlaw16_WalkSteps rh_turnoutlaw16_WalkSteps ((true, ()), ())))
 (let y10 : ((Int × Unit) × Unit) := (q_graph_May a0)
 cond (ok_graph_May a0)
 (cond (y10.1.1 != (0 : Int))
 (some (encRes ro_turnoutlaw16_WalkSteps rh_turnoutlaw16_WalkSteps (((y6.1.2.1 == (0 : Int)), ()), ())))
 (some (encRes ro_turnoutlaw16_WalkSteps rh_turnoutlaw16_WalkSteps ((false, ()), ()))))
 (none)))
 (none)))
 (let y11 : ((Int × Unit) × Unit) := (q_graph_Longest a0)
 cond (ok_graph_Longest a0)
 (cond (decide (y6.1.2.1 ≤ y11.1.1))
 (some (encRes ro_turnoutlaw16_WalkSteps rh_turnoutlaw16_WalkSteps ((true, ()), ())))
 (let y12 : ((Int × Unit) × Unit) := (q_graph_May a0)
 cond (ok_graph_May a0)
 (cond (y12.1.1 != (0 : Int))
 (some (encRes ro_turnoutlaw16_WalkSteps rh_turnoutlaw16_WalkSteps (((y6.1.2.1 == (0 : Int)), ()), ())))
 (some (encRes ro_turnoutlaw16_WalkSteps rh_turnoutlaw16_WalkSteps ((false, ()), ()))))
 (none)))
 (none)))
 (let y13 : ((Int × Unit) × Unit) := (q_graph_Longest a0)
 cond (ok_graph_Longest a0)
 (cond (decide (y6.1.2.1 ≤ y13.1.1))
 (some (encRes ro_turnoutlaw16_WalkSteps rh_turnoutlaw16_WalkSteps ((true, ()), ())))
 (let y14 : ((Int × Unit) × Unit) := (q_graph_May a0)
 cond (ok_graph_May a0)
 (cond (y14.1.1 != (0 : Int))
 (some (encRes ro_turnoutlaw16_WalkSteps rh_turnoutlaw16_WalkSteps (((y6.1.2.1 == (0 : Int)), ()), ())))
 (some (encRes ro_turnoutlaw16_WalkSteps rh_turnoutlaw16_WalkSteps ((false, ()), ()))))
 (none)))
 (none))))
 (cond (y6.1.2.2.1 != (0 : Int))
 (cond (y6.1.2.2.1 != (1 : Int))
 (cond (y6.1.2.2.1 != (2 : Int))
 (cond (y6.1.2.2.1 != (4 : Int))
 (some (encRes ro_turnoutlaw16_WalkSteps rh_turnoutlaw16_WalkSteps ((false, ()), ())))
 (let y15 : ((Int × Unit) × Unit) := (q_graph_Longest a0)
 cond (ok_graph_Longest a0)
 (cond (decide (y6.1.2.1 ≤ y15.1.1))
 (some (encRes ro_turnoutlaw16_WalkSteps rh_turnoutlaw16_WalkSteps ((true, ()), ())))
 (let y16 : ((Int × Unit) × Unit) := (q_graph_May a0)
 cond (ok_graph_May a0)
 (cond (y16.1.1 != (0 : Int))
 (some (encRes ro_turnoutlaw16_WalkSteps rh_turnoutlaw16_WalkSteps (((y6.1.2.1 == (0 : Int)), ()), ())))
 (some (encRes ro_turnoutlaw16_WalkSteps rh_turnoutlaw16_WalkSteps ((false, ()), ()))))
 (none)))
 (none)))
 (let y17 : ((Int × Unit) × Unit) := (q_graph_Longest a0)
 cond (ok_graph_Longest a0)
 (cond (decide (y6.1.2.1 ≤ y17.1.1))
 (some (encRes ro_turnoutlaw16_WalkSteps rh_turnoutlaw16_WalkSteps ((true, ()), ())))
 (let y18 : ((Int × Unit) × Unit) := (q_graph_May a0)
 cond (ok_graph_May a0)
 (cond (y18.1.1 != (0 : Int))
 (some (encRes ro_turnoutlaw16_WalkSteps rh_turnoutlaw16_WalkSteps (((y6.1.2.1 == (0 : Int)), ()), ())))
 (some (encRes ro_turnoutlaw16_WalkSteps rh_turnoutlaw16_WalkSteps ((false, ()), ()))))
 (none)))
 (none)))
 (let y19 : ((Int × Unit) × Unit) := (q_graph_Longest a0)
 cond (ok_graph_Longest a0)
 (cond (decide (y6.1.2.1 ≤ y19.1.1))
 (some (encRes ro_turnoutlaw16_WalkSteps rh_turnoutlaw16_WalkSteps ((true, ()), ())))
 (let y20 : ((Int × Unit) × Unit) := (q_graph_May a0)
 cond (ok_graph_May a0)
 (cond (y20.1.1 != (0 : Int))
 (some (encRes ro_turnoutlaw16_WalkSteps rh_turnoutlaw16_WalkSteps (((y6.1.2.1 == (0 : Int)), ()), ())))
 (some (encRes ro_turnoutlaw16_WalkSteps rh_turnoutlaw16_WalkSteps ((false, ()), ()))))
 (none)))
 (none)))
 (let y21 : ((Int × Unit) × Unit) := (q_graph_Longest a0)
 cond (ok_graph_Longest a0)
 (cond (decide (y6.1.2.1 ≤ y21.1.1))
 (some (encRes ro_turnoutlaw16_WalkSteps rh_turnoutlaw16_WalkSteps ((true, ()), ())))
 (let y22 : ((Int × Unit) × Unit) := (q_graph_May a0)
 cond (ok_graph_May a0)
 (cond (y22.1.1 != (0 : Int))
 (some (encRes ro_turnoutlaw16_WalkSteps rh_turnoutlaw16_WalkSteps (((y6.1.2.1 == (0 : Int)), ()), ())))
 (some (encRes ro_turnoutlaw16_WalkSteps rh_turnoutlaw16_WalkSteps ((false, ()), ()))))
 (none)))
 (none))))
 (cond (y6.1.2.2.1 != (0 : Int))
 (cond (y6.1.2.2.1 != (1 : Int))
 (cond (y6.1.2.2.1 != (2 : Int))
 (cond (y6.1.2.2.1 != (4 : Int))
 (some (encRes ro_turnoutlaw16_WalkSteps rh_turnoutlaw16_WalkSteps ((false, ()), ())))
 (let y23 : ((Int × Unit) × Unit) := (q_graph_Longest a0)
 cond (ok_graph_Longest a0)
 (cond (decide (y6.1.2.1 ≤ y23.1.1))
 (some (encRes ro_turnoutlaw16_WalkSteps rh_turnoutlaw16_WalkSteps ((true, ()), ())))
 (let y24 : ((Int × Unit) × Unit) := (q_graph_May a0)
 cond (ok_graph_May a0)
 (cond (y24.1.1 != (0 : Int))
 (some (encRes ro_turnoutlaw16_WalkSteps rh_turnoutlaw16_WalkSteps (((y6.1.2.1 == (0 : Int)), ()), ())))
 (some (encRes ro_turnoutlaw16_WalkSteps rh_turnoutlaw16_WalkSteps ((false, ()), ()))))
 (none)))
 (none)))
 (let y25 : ((Int × Unit) × Unit) := (q_graph_Longest a0)
 cond (ok_graph_Longest a0)
 (cond (decide (y6.1.2.1 ≤ y25.1.1))
 (some (encRes ro_turnoutlaw16_WalkSteps rh_turnoutlaw16_WalkSteps ((true, ()), ())))
 (let y26 : ((Int × Unit) × Unit) := (q_graph_May a0)
 cond (ok_graph_May a0)
 (cond (y26.1.1 != (0 : Int))
 (some (encRes ro_turnoutlaw16_WalkSteps rh_turnoutlaw16_WalkSteps (((y6.1.2.1 == (0 : Int)), ()), ())))
 (some (encRes ro_turnoutlaw16_WalkSteps rh_turnoutlaw16_WalkSteps ((false, ()), ()))))
 (none)))
 (none)))
 (let y27 : ((Int × Unit) × Unit) := (q_graph_Longest a0)
 cond (ok_graph_Longest a0)
 (cond (decide (y6.1.2.1 ≤ y27.1.1))
 (some (encRes ro_turnoutlaw16_WalkSteps rh_turnoutlaw16_WalkSteps ((true, ()), ())))
 (let y28 : ((Int × Unit) × Unit) := (q_graph_May a0)
 cond (ok_graph_May a0)
 (cond (y28.1.1 != (0 : Int))
 (some (encRes ro_turnoutlaw16_WalkSteps rh_turnoutlaw16_WalkSteps (((y6.1.2.1 == (0 : Int)), ()), ())))
 (some (encRes ro_turnoutlaw16_WalkSteps rh_turnoutlaw16_WalkSteps ((false, ()), ()))))
 (none)))
 (none)))
 (let y29 : ((Int × Unit) × Unit) := (q_graph_Longest a0)
 cond (ok_graph_Longest a0)
 (cond (decide (y6.1.2.1 ≤ y29.1.1))
 (some (encRes ro_turnoutlaw16_WalkSteps rh_turnoutlaw16_WalkSteps ((true, ()), ())))
 (let y30 : ((Int × Unit) × Unit) := (q_graph_May a0)
 cond (ok_graph_May a0)
 (cond (y30.1.1 != (0 : Int))
 (some (encRes ro_turnoutlaw16_WalkSteps rh_turnoutlaw16_WalkSteps (((y6.1.2.1 == (0 : Int)), ()), ())))
 (some (encRes ro_turnoutlaw16_WalkSteps rh_turnoutlaw16_WalkSteps ((false, ()), ()))))
 (none)))
 (none))))))
 (none)))
 (none))))
 (none)
noncomputable def Q_turnoutlaw16_WalkSteps (a0 : (List NodeS)) (a1 : ByteArray) : Option (RS ro_turnoutlaw16_WalkSteps rh_turnoutlaw16_WalkSteps) := decRes ro_turnoutlaw16_WalkSteps rh_turnoutlaw16_WalkSteps (M_turnoutlaw16_WalkSteps FUEL a0 a1)
noncomputable def ok_turnoutlaw16_WalkSteps (a0 : (List NodeS)) (a1 : ByteArray) : Bool := (Q_turnoutlaw16_WalkSteps a0 a1).isSome
noncomputable def q_turnoutlaw16_WalkSteps (a0 : (List NodeS)) (a1 : ByteArray) : RS ro_turnoutlaw16_WalkSteps rh_turnoutlaw16_WalkSteps := RS.get (Q_turnoutlaw16_WalkSteps a0 a1)
end Go.AMach
