/- Layer 15: the forms of nodes. -/
import Derived.Test.YtcakaagbhngkhaaD
import Derived.Test.YtcakaagbhngkhaaAm23

namespace Go.AMach
set_option linter.unusedVariables false
set_option linter.unusedSimpArgs false
set_option linter.unnecessarySimpa false
set_option linter.unusedVariables false

/-! ### Long -/
def armsN (x : NodeS) : Nat := (x.2.2.2.2.2.2.2.1 : List ArmS).length

/-! ### Form -/
def armOk (sel : Nat) (a : ArmS) : Bool := decide (a.1 < 2 ^ sel) && decide (0 ≤ a.2.1) && decide (a.2.1 ≤ 65535)
/-- Arms that rise, above a value. -/
def armsOk (sel : Nat) : Int → List ArmS → Bool
  | _, [] => true
  | p, a :: r => armOk sel a && decide (p < a.1) && armsOk sel a.1 r
/-- A node's form, but for its arms. -/
def formL (x : NodeS) : Prop :=
  1 ≤ x.1 ∧ x.1 ≤ 65534 ∧ 0 ≤ x.2.1 ∧ x.2.1 ≤ 256 ∧ 0 ≤ x.2.2.2.2.2.2.2.2.1 ∧ x.2.2.2.2.2.2.2.2.1 ≤ 65535 ∧ x.2.2.2.2.2.2.2.1.length ≤ 32 ∧
  (x.2.2.2.1 = 0 ∧ x.2.2.1 = 0 ∧ x.2.2.2.2.1 = 0 ∨ 0 < x.2.2.2.1 ∧ x.2.2.2.1 ≤ 16 ∧ 0 ≤ x.2.2.1 ∧ x.2.2.1 ≤ 2048 ∧ 1 ≤ x.2.2.2.2.1 ∧ x.2.2.2.2.1 ≤ 256) ∧
  (x.2.2.2.2.2.2.1 = 0 ∧ x.2.2.2.2.2.1 = 0 ∧ x.2.2.2.2.2.2.2.1.length = 0 ∨ 0 < x.2.2.2.2.2.2.1 ∧ x.2.2.2.2.2.2.1 ≤ 32 ∧ 0 ≤ x.2.2.2.2.2.1 ∧ x.2.2.2.2.2.1 ≤ 2048)
instance (x : NodeS) : Decidable (formL x) := by unfold formL; infer_instance
/-- A node's form. -/
def formP (x : NodeS) : Prop := formL x ∧ armsOk x.2.2.2.2.2.2.1.toNat (-1) x.2.2.2.2.2.2.2.1 = true
instance (x : NodeS) : Decidable (formP x) := by unfold formP; infer_instance
theorem not_formP {x : NodeS} (h : ¬ formL x) : decide (formP x) = false := decide_eq_false fun k => h k.1
theorem is_formP {x : NodeS} (h : formL x) : decide (formP x) = armsOk x.2.2.2.2.2.2.1.toNat (-1) x.2.2.2.2.2.2.2.1 := by
  by_cases hb : armsOk x.2.2.2.2.2.2.1.toNat (-1) x.2.2.2.2.2.2.2.1 = true
  · rw [hb, decide_eq_true (p := formP x) ⟨h, hb⟩]
  · rw [decide_eq_false (p := formP x) (fun k => hb k.2)]; simp at hb; rw [hb]
/-- Numbers in their ranges. -/
def nodeG (x : NodeS) : Prop := ∀ a ∈ x.2.2.2.2.2.2.2.1, 0 ≤ a.1 ∧ a.1 ≤ 4294967295

theorem Q_to (i : Int) : Q_graph_to i = some ((decide (0 ≤ i ∧ i ≤ 65535), ()), ()) := by
  refine fin ?_
  unfold M_graph_to
  simp only [cond_dec]
  by_cases h : i ≥ 0 <;> simp [h]
theorem Q_span (a b c : Int) : Q_graph_span_may (a, (b, (c, ()))) = some ((if b = 0 then decide (a = 0) else decide (0 < b ∧ b ≤ c ∧ 0 ≤ a ∧ a ≤ 2048), ()), ()) := by
  refine fin ?_
  unfold M_graph_span_may
  simp only [cond_dec, Bool.cond_eq_ite, int_beq]
  by_cases h1 : b = 0
  · subst h1; simp
  · by_cases h2 : 0 < b <;> by_cases h3 : b ≤ c <;> by_cases h4 : 0 ≤ a <;> simp [h1, h2, h3, h4]
theorem Q_unit (x : NodeS) : Q_graph_unit x = some ((if x.2.2.2.1 = 0 then decide (x.2.2.2.2.1 = 0) else decide (1 ≤ x.2.2.2.2.1 ∧ x.2.2.2.2.1 ≤ 256), ()), ()) := by
  refine fin ?_
  unfold M_graph_unit
  simp only [cond_dec, Bool.cond_eq_ite, int_beq]
  by_cases h1 : x.2.2.2.1 = 0 <;> by_cases h2 : 1 ≤ x.2.2.2.2.1 <;> simp [h1, h2]

/-- The value ahead of a place. -/
def prevV (l : List ArmS) (i : Nat) : Int := if i = 0 then -1 else (rdd zArmS l (i - 1)).1
theorem prevV_succ (l : List ArmS) (i : Nat) : prevV l (i + 1) = (rdd zArmS l i).1 := by simp [prevV]

theorem fdiv_pos_iff {a : Int} {n : Nat} (h : 0 ≤ a) : (Int.fdiv a (2 ^ n) > 0) ↔ ¬ a < 2 ^ n := by
  have hp : (0 : Int) < 2 ^ n := Int.pow_pos (by decide)
  rw [Int.fdiv_eq_ediv_of_nonneg _ (Int.le_of_lt hp)]
  constructor
  · intro h1 h2
    rw [Int.ediv_eq_zero_of_lt h h2] at h1
    omega
  · intro h1
    exact Int.lt_of_lt_of_le (by decide : (0 : Int) < 1) ((Int.le_ediv_iff_mul_le hp).2 (by omega))

theorem L_Form (kr : Bool → Option Res) (kt : Unit → Option Res) (x : NodeS) (l : List ArmS) (hl : l = x.2.2.2.2.2.2.2.1) (hlen : l.length ≤ 32) (hs : 0 ≤ x.2.2.2.2.2.2.1) (hs2 : x.2.2.2.2.2.2.1 ≤ 32) (hg : ∀ a ∈ l, 0 ≤ a.1 ∧ a.1 ≤ 4294967295) :
    ∀ (m i : Nat), i ≤ l.length → l.length - i < m → L_graph_Form_0 FUEL kr kt l (l.length : Int) x m (i : Int) =
      if x.2.2.2.2.2.2.1 = 0 ∧ i < l.length then kr false else if armsOk x.2.2.2.2.2.2.1.toNat (prevV l i) (l.drop i) = true then kt () else kr false
  | 0, _, _, h => by omega
  | m + 1, i, hi, hm => by
    show F_graph_Form_0 FUEL kr kt l (l.length : Int) x (L_graph_Form_0 FUEL kr kt l (l.length : Int) x m) (i : Int) = _
    unfold F_graph_Form_0
    rw [← hl]
    simp only [cond_dec, int_beq, ok_graph_to, q_graph_to, Q_to, RS.get, Option.getD_some, Option.isSome_some, cond_true]
    by_cases hil : i < l.length
    · rw [if_pos (by omega), if_pos (by omega), if_pos hs]
      simp only [toNat_cast]
      rw [drop_rdd zArmS hil, i64_succ (by omega), L_Form kr kt x l hl hlen hs hs2 hg m (i + 1) (by omega) (by omega), prevV_succ]
      have ha := hg (rdd zArmS l i) (by exact rdd_mem hil)
      have hprev : i > 0 → Int.toNat (IntKind.wrap .i64 ((i : Int) - 1)) = i - 1 := fun h => by rw [i64_pred h (by omega)]; rfl
      have hp0 : i = 0 → prevV l i = -1 := fun h => by simp [prevV, h]
      have hp1 : i > 0 → prevV l i = (rdd zArmS l (i - 1)).1 := fun h => by simp [prevV, show ¬ i = 0 by omega]
      generalize hx : rdd zArmS l i = a at *
      rw [u64_in _ (by omega)]
      have hmin : min (Int.toNat x.2.2.2.2.2.2.1) (IntKind.bits .u64) = x.2.2.2.2.2.2.1.toNat := by
        have : IntKind.bits .u64 = 64 := rfl
        omega
      rw [hmin]
      simp only [fdiv_pos_iff ha.1, armsOk, armOk]
      generalize x.2.2.2.2.2.2.1.toNat = sel at *
      by_cases h1 : a.1 < 2 ^ sel
      · rw [if_neg (by simpa using h1)]
        by_cases h2 : x.2.2.2.2.2.2.1 = 0
        · simp [h2, hil]
        · rw [if_neg h2]
          by_cases h3 : i = 0
          · subst h3
            rw [if_neg (by omega), hp0 rfl]
            by_cases h5 : 0 ≤ a.2.1 <;> by_cases h6 : a.2.1 ≤ 65535 <;> simp [h1, h2, h5, h6, show (-1 : Int) < a.1 by omega]
          · rw [if_pos (by omega), hprev (by omega), if_pos (by rw [i64_pred (by omega) (by omega)]; omega), hp1 (by omega)]
            by_cases h4 : a.1 ≤ (rdd zArmS l (i - 1)).1
            · simp [h2, h4, show ¬ (rdd zArmS l (i - 1)).1 < a.1 by omega]
            · by_cases h5 : 0 ≤ a.2.1 <;> by_cases h6 : a.2.1 ≤ 65535 <;> simp [h1, h2, h4, h5, h6, show (rdd zArmS l (i - 1)).1 < a.1 by omega]
      · rw [if_pos (by simpa using h1)]
        simp [h1]
    · rw [if_neg (by omega), List.drop_of_length_le (by omega)]
      simp [armsOk, hil]
theorem Q_Form (x : NodeS) (hx : nodeG x) : Q_graph_Form x = some ((decide (formP x), ()), ()) := by
  refine fin ?_
  unfold M_graph_Form
  simp only [cond_dec, ok_graph_to, q_graph_to, Q_to, ok_graph_span_may, q_graph_span_may, Q_span, ok_graph_unit, q_graph_unit, Q_unit, RS.get, Option.getD_some, Option.isSome_some, cond_true]
  by_cases h1 : x.1 < 1
  · rw [if_pos h1, not_formP (fun h => by unfold formL at h; omega)]
  rw [if_neg h1]
  by_cases h2 : x.1 > 65534
  · rw [if_pos h2, not_formP (fun h => by unfold formL at h; omega)]
  rw [if_neg h2]
  by_cases h3 : x.2.1 < 0
  · rw [if_pos h3, not_formP (fun h => by unfold formL at h; omega)]
  rw [if_neg h3]
  by_cases h4 : x.2.1 > 256
  · rw [if_pos h4, not_formP (fun h => by unfold formL at h; omega)]
  rw [if_neg h4]
  by_cases h5 : 0 ≤ x.2.2.2.2.2.2.2.2.1 ∧ x.2.2.2.2.2.2.2.2.1 ≤ 65535
  rotate_left
  · rw [decide_eq_false h5, Bool.not_false, cond_true, not_formP (fun h => by unfold formL at h; omega)]
  rw [decide_eq_true h5, Bool.not_true, cond_false]
  by_cases h6 : ((x.2.2.2.2.2.2.2.1.length : Nat) : Int) > 32
  · rw [if_pos h6, not_formP (fun h => by unfold formL at h; omega)]
  rw [if_neg h6]
  generalize hb7 : (if x.2.2.2.1 = 0 then decide (x.2.2.1 = 0) else decide (0 < x.2.2.2.1 ∧ x.2.2.2.1 ≤ 16 ∧ 0 ≤ x.2.2.1 ∧ x.2.2.1 ≤ 2048)) = b7
  have h7 : b7 = true ↔ (x.2.2.2.1 = 0 ∧ x.2.2.1 = 0 ∨ 0 < x.2.2.2.1 ∧ x.2.2.2.1 ≤ 16 ∧ 0 ≤ x.2.2.1 ∧ x.2.2.1 ≤ 2048) := by
    subst hb7; split <;> simp <;> omega
  cases b7 with
  | false =>
    rw [Bool.not_false, cond_true, not_formP (fun h => by unfold formL at h; simp at h7; omega)]
  | true =>
  rw [Bool.not_true, cond_false]
  generalize hb8 : (if x.2.2.2.1 = 0 then decide (x.2.2.2.2.1 = 0) else decide (1 ≤ x.2.2.2.2.1 ∧ x.2.2.2.2.1 ≤ 256)) = b8
  have h8 : b8 = true ↔ (x.2.2.2.1 = 0 ∧ x.2.2.2.2.1 = 0 ∨ x.2.2.2.1 ≠ 0 ∧ 1 ≤ x.2.2.2.2.1 ∧ x.2.2.2.2.1 ≤ 256) := by
    subst hb8; split <;> simp <;> omega
  cases b8 with
  | false =>
    rw [Bool.not_false, cond_true, not_formP (fun h => by unfold formL at h; simp at h8; omega)]
  | true =>
  rw [Bool.not_true, cond_false]
  generalize hb9 : (if x.2.2.2.2.2.2.1 = 0 then decide (x.2.2.2.2.2.1 = 0) else decide (0 < x.2.2.2.2.2.2.1 ∧ x.2.2.2.2.2.2.1 ≤ 32 ∧ 0 ≤ x.2.2.2.2.2.1 ∧ x.2.2.2.2.2.1 ≤ 2048)) = b9
  have h9 : b9 = true ↔ (x.2.2.2.2.2.2.1 = 0 ∧ x.2.2.2.2.2.1 = 0 ∨ 0 < x.2.2.2.2.2.2.1 ∧ x.2.2.2.2.2.2.1 ≤ 32 ∧ 0 ≤ x.2.2.2.2.2.1 ∧ x.2.2.2.2.2.1 ≤ 2048) := by
    subst hb9; split <;> simp <;> omega
  cases b9 with
  | false =>
    rw [Bool.not_false, cond_true, not_formP (fun h => by unfold formL at h; simp at h9; omega)]
  | true =>
  rw [Bool.not_true, cond_false]
  have h7 := h7.1 rfl
  have h8 := h8.1 rfl
  have h9 := h9.1 rfl
  have hL := L_Form (fun y8 => some (encRes ro_graph_Form rh_graph_Form ((y8, ()), ()))) (fun _ => some (encRes ro_graph_Form rh_graph_Form ((true, ()), ()))) x _ rfl (by omega) (by omega) (by omega) hx FUEL 0 (by omega) (by unfold FUEL; omega)
  refine Eq.trans hL ?_
  rw [List.drop_zero, show prevV x.2.2.2.2.2.2.2.1 0 = -1 from rfl]
  by_cases h10 : x.2.2.2.2.2.2.1 = 0 ∧ 0 < x.2.2.2.2.2.2.2.1.length
  · rw [if_pos h10, not_formP (fun h => by unfold formL at h; omega)]
  · rw [if_neg h10, is_formP (by unfold formL; omega)]
    cases armsOk x.2.2.2.2.2.2.1.toNat (-1) x.2.2.2.2.2.2.2.1 <;> rfl

/-! ### The document's -/
theorem L_below (k : Int → Option Res) (x : NodeS) (s : Nat) (hs : x.2.2.2.2.2.2.1 = (s : Int)) (h32 : s ≤ 32) : ∀ (m i : Nat), i ≤ s → s - i < m → L_turnoutref15_Form_0 FUEL k x m (2 ^ i) (i : Int) = k (2 ^ s)
  | 0, _, _, h => by omega
  | m + 1, i, hi, hm => by
    show F_turnoutref15_Form_0 FUEL k x (L_turnoutref15_Form_0 FUEL k x m) (2 ^ i) (i : Int) = _
    unfold F_turnoutref15_Form_0
    simp only [cond_dec, hs]
    by_cases h : i < s
    · rw [if_pos (by omega), i64_succ (by omega)]
      have hp : (2 : Int) ^ i ≤ 2 ^ 32 := by exact_mod_cast Nat.pow_le_pow_right (n := 2) (by decide) (show i ≤ 32 by omega)
      have hp0 : (0 : Int) < 2 ^ i := Int.pow_pos (by decide)
      rw [u64_in _ (by omega), ← Int.pow_succ]
      exact L_below k x s hs h32 m (i + 1) (by omega) (by omega)
    · rw [if_neg (by omega)]
      have : i = s := by omega
      rw [this]

theorem L_ref (kr : Bool → Option Res) (kt : Unit → Option Res) (x : NodeS) (l : List ArmS) (hl : l = x.2.2.2.2.2.2.2.1) (hlen : l.length ≤ 32) (sel : Nat) (h32 : sel ≤ 32) (hg : ∀ a ∈ l, 0 ≤ a.1 ∧ a.1 ≤ 4294967295) :
    ∀ (m i : Nat), i ≤ l.length → l.length - i < m → L_turnoutref15_Form_2 FUEL kr kt (2 ^ sel) x m (i : Int) = if armsOk sel (prevV l i) (l.drop i) = true then kt () else kr false
  | 0, _, _, h => by omega
  | m + 1, i, hi, hm => by
    show F_turnoutref15_Form_2 FUEL kr kt (2 ^ sel) x (L_turnoutref15_Form_2 FUEL kr kt (2 ^ sel) x m) (i : Int) = _
    unfold F_turnoutref15_Form_2
    rw [← hl]
    simp only [cond_dec]
    by_cases hil : i < l.length
    · rw [if_pos (by omega), if_pos (by omega)]
      simp only [toNat_cast]
      rw [drop_rdd zArmS hil, i64_succ (by omega), L_ref kr kt x l hl hlen sel h32 hg m (i + 1) (by omega) (by omega), prevV_succ]
      have ha := hg (rdd zArmS l i) (by exact rdd_mem hil)
      have hprev : i > 0 → Int.toNat (IntKind.wrap .i64 ((i : Int) - 1)) = i - 1 := fun h => by rw [i64_pred h (by omega)]; rfl
      have hp0 : i = 0 → prevV l i = -1 := fun h => by simp [prevV, h]
      have hp1 : i > 0 → prevV l i = (rdd zArmS l (i - 1)).1 := fun h => by simp [prevV, show ¬ i = 0 by omega]
      generalize hx : rdd zArmS l i = a at *
      rw [u64_in _ (by omega)]
      simp only [armsOk, armOk]
      by_cases h1 : a.1 < 2 ^ sel
      · rw [if_neg (by omega)]
        by_cases h3 : i = 0
        · subst h3
          rw [if_neg (by omega), hp0 rfl]
          by_cases h5 : 0 ≤ a.2.1
          · rw [if_neg (by omega)]
            by_cases h6 : a.2.1 ≤ 65535
            · rw [if_neg (by omega)]; simp [h1, h5, h6, show (-1 : Int) < a.1 by omega]
            · rw [if_pos (by omega)]; simp [h6]
          · rw [if_pos (by omega)]; simp [h5]
        · rw [if_pos (by omega), hprev (by omega), if_pos (by rw [i64_pred (by omega) (by omega)]; omega), hp1 (by omega)]
          by_cases h4 : a.1 ≤ (rdd zArmS l (i - 1)).1
          · rw [if_pos h4]; simp [show ¬ (rdd zArmS l (i - 1)).1 < a.1 by omega]
          · rw [if_neg h4]
            by_cases h5 : 0 ≤ a.2.1
            · rw [if_neg (by omega)]
              by_cases h6 : a.2.1 ≤ 65535
              · rw [if_neg (by omega)]; simp [h1, h5, h6, show (rdd zArmS l (i - 1)).1 < a.1 by omega]
              · rw [if_pos (by omega)]; simp [h6]
            · rw [if_pos (by omega)]; simp [h5]
      · rw [if_pos (by omega)]
        simp [h1]
    · rw [if_neg (by omega), List.drop_of_length_le (by omega)]
      simp [armsOk]

theorem ref_tail (x : NodeS) (hx : nodeG x) (hlen : x.2.2.2.2.2.2.2.1.length ≤ 32) (h0 : 0 ≤ x.2.2.2.2.2.2.1) (h32 : x.2.2.2.2.2.2.1 ≤ 32) :
    L_turnoutref15_Form_0 FUEL (fun y1 => L_turnoutref15_Form_2 FUEL (fun y3 => some (encRes ro_turnoutref15_Form rh_turnoutref15_Form ((y3, ()), ()))) (fun _ => some (encRes ro_turnoutref15_Form rh_turnoutref15_Form ((true, ()), ()))) y1 x FUEL (0 : Int)) x FUEL (1 : Int) (0 : Int) =
      some (encRes ro_turnoutref15_Form rh_turnoutref15_Form ((armsOk x.2.2.2.2.2.2.1.toNat (-1) x.2.2.2.2.2.2.2.1, ()), ())) := by
  refine Eq.trans (L_below _ x x.2.2.2.2.2.2.1.toNat (by omega) (by omega) FUEL 0 (by omega) (by unfold FUEL; omega)) ?_
  refine Eq.trans (L_ref _ _ x _ rfl hlen _ (by omega) hx FUEL 0 (by omega) (by unfold FUEL; omega)) ?_
  rw [List.drop_zero, show prevV x.2.2.2.2.2.2.2.1 0 = -1 from rfl]
  cases armsOk x.2.2.2.2.2.2.1.toNat (-1) x.2.2.2.2.2.2.2.1 <;> rfl

theorem Q_refForm (x : NodeS) (hx : nodeG x) : Q_turnoutref15_Form x = some ((decide (formP x), ()), ()) := by
  refine fin ?_
  have hno : ¬ formL x → (some (encRes ro_turnoutref15_Form rh_turnoutref15_Form ((false, ()), ())) : Option Res) = some (encRes ro_turnoutref15_Form rh_turnoutref15_Form ((decide (formP x), ()), ())) := fun h => by rw [not_formP h]
  have hyes : x.2.2.2.2.2.2.2.1.length ≤ 32 → 0 ≤ x.2.2.2.2.2.2.1 → x.2.2.2.2.2.2.1 ≤ 32 → formL x →
      L_turnoutref15_Form_0 FUEL (fun y1 => L_turnoutref15_Form_2 FUEL (fun y3 => some (encRes ro_turnoutref15_Form rh_turnoutref15_Form ((y3, ()), ()))) (fun _ => some (encRes ro_turnoutref15_Form rh_turnoutref15_Form ((true, ()), ()))) y1 x FUEL (0 : Int)) x FUEL (1 : Int) (0 : Int) =
      some (encRes ro_turnoutref15_Form rh_turnoutref15_Form ((decide (formP x), ()), ())) := fun h1 h2 h3 h4 => by
    rw [ref_tail x hx h1 h2 h3, is_formP h4]
  unfold M_turnoutref15_Form
  simp only [cond_dec, int_beq, int_bne, Bool.cond_not]
  repeat' (refine ite_eq (fun _ => ?_) (fun _ => ?_))
  all_goals first
    | exact hno fun h => by unfold formL at h; omega
    | exact hyes (by omega) (by omega) (by omega) (by unfold formL; omega)

/-! ### The law -/
theorem good_node {x : NodeS} (h : NodeT.good x) : nodeG x := by
  intro a ha
  have := (h.2.2.2.2.2.2.2.1.2 a ha).1
  exact wf_u32 this

end Go.AMach
