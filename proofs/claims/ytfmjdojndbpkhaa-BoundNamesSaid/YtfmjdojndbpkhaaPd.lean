/- The plain theory of graphs and walks, at this seat. -/
import Derived.Test.YtfmjdojndbpkhaaDx
import Derived.Test.YtfmjdojndbpkhaaAm23

namespace Go.AMach
set_option linter.unusedVariables false
set_option linter.unusedSimpArgs false
set_option linter.unnecessarySimpa false
open Go
set_option linter.unusedVariables false

/-! -: Long -/
def armsN (x : NodeS) : Nat := (x.2.2.2.2.2.2.2.1 : List ArmS).length

/-! -: Form -/
def armOk (sel : Nat) (a : ArmS) : Bool := decide (a.1 < 2 ^ sel) && decide (0 ≤ a.2.1) && decide (a.2.1 ≤ 65535)
/-- Arms that rise, above a value. -/
def armsOk (sel : Nat) : Int → List ArmS → Bool
  | _, [] => true
  | p, a :: r => armOk sel a && decide (p < a.1) && armsOk sel a.1 r
/-- A node's form, but for its arms. -/
def formL (x : NodeS) : Prop :=
  1 ≤ x.1 ∧ x.1 ≤ 65534 ∧ 0 ≤ x.2.1 ∧ x.2.1 ≤ 256 ∧ 0 ≤ x.2.2.2.2.2.2.2.2.1 ∧ x.2.2.2.2.2.2.2.2.1 ≤ 65535 ∧ x.2.2.2.2.2.2.2.1.length ≤ 32 ∧
  (x.2.2.2.1 = 0 ∧ x.2.2.1 = 0 ∧ x.2.2.2.2.1 = 0 ∨ 0 < x.2.2.2.1 ∧ x.2.2.2.1 ≤ 16 ∧ 0 ≤ x.2.2.1 ∧ x.2.2.1 ≤ 2048 ∧ 1 ≤ x.2.2.2.2.1 ∧ x.2.2.2.2.1 ≤ 256) ∧
  (x.2.2.2.2.2.2.1 = 0 ∧ x.2.2.2.2.2.1 = 0 ∧ x.2.2.2.2.2.2.2.1.length = 0 ∨ 0 < x.2.2.2.2.2.2.1 ∧ x.2.2.2.2.2.2.1 ≤ 32 ∧ 0 ≤ x.2.2.2.2.2.1 ∧ x.2.2.2.2.2.1 ≤ 2048)
instance (x : NodeS) : Decidable (formL x) := by unfold formL; infer_instance
/-- A node's form. -/
def formP (x : NodeS) : Prop := formL x ∧ armsOk x.2.2.2.2.2.2.1.toNat (-1) x.2.2.2.2.2.2.2.1 = true
instance (x : NodeS) : Decidable (formP x) := by unfold formP; infer_instance
theorem not_formP {x : NodeS} (h : ¬ formL x) : decide (formP x) = false := decide_eq_false fun k => h k.1
theorem is_formP {x : NodeS} (h : formL x) : decide (formP x) = armsOk x.2.2.2.2.2.2.1.toNat (-1) x.2.2.2.2.2.2.2.1 := by
  by_cases hb : armsOk x.2.2.2.2.2.2.1.toNat (-1) x.2.2.2.2.2.2.2.1 = true
  · rw [hb, decide_eq_true (p := formP x) ⟨h, hb⟩]
  · rw [decide_eq_false (p := formP x) (fun k => hb k.2)]; simp at hb; rw [hb]
/-- Numbers in their ranges. -/
def nodeG (x : NodeS) : Prop := ∀ a ∈ x.2.2.2.2.2.2.2.1, 0 ≤ a.1 ∧ a.1 ≤ 4294967295

theorem Q_to (i : Int) : Q_z0f i = some ((decide (0 ≤ i ∧ i ≤ 65535), ()), ()) := by
  refine fin ?_
  unfold M_z0f
  simp only [cond_dec]
  by_cases h : i ≥ 0 <;> simp [h]
theorem Q_span (a b c : Int) : Q_z0g (a, (b, (c, ()))) = some ((if b = 0 then decide (a = 0) else decide (0 < b ∧ b ≤ c ∧ 0 ≤ a ∧ a ≤ 2048), ()), ()) := by
  refine fin ?_
  unfold M_z0g
  simp only [cond_dec, Bool.cond_eq_ite, int_beq]
  by_cases h1 : b = 0
  · subst h1; simp
  · by_cases h2 : 0 < b <;> by_cases h3 : b ≤ c <;> by_cases h4 : 0 ≤ a <;> simp [h1, h2, h3, h4]
theorem Q_unit (x : NodeS) : Q_z0h x = some ((if x.2.2.2.1 = 0 then decide (x.2.2.2.2.1 = 0) else decide (1 ≤ x.2.2.2.2.1 ∧ x.2.2.2.2.1 ≤ 256), ()), ()) := by
  refine fin ?_
  unfold M_z0h
  simp only [cond_dec, Bool.cond_eq_ite, int_beq]
  by_cases h1 : x.2.2.2.1 = 0 <;> by_cases h2 : 1 ≤ x.2.2.2.2.1 <;> simp [h1, h2]

/-- The value ahead of a place. -/
def prevV (l : List ArmS) (i : Nat) : Int := if i = 0 then -1 else (rdd zArmS l (i - 1)).1
theorem prevV_succ (l : List ArmS) (i : Nat) : prevV l (i + 1) = (rdd zArmS l i).1 := by simp [prevV]

theorem fdiv_pos_iff {a : Int} {n : Nat} (h : 0 ≤ a) : (Int.fdiv a (2 ^ n) > 0) ↔ ¬ a < 2 ^ n := by
  have hp : (0 : Int) < 2 ^ n := Int.pow_pos (by decide)
  rw [Int.fdiv_eq_ediv_of_nonneg _ (Int.le_of_lt hp)]
  constructor
  · intro h1 h2
    rw [Int.ediv_eq_zero_of_lt h h2] at h1
    omega
  · intro h1
    exact Int.lt_of_lt_of_le (by decide : (0 : Int) < 1) ((Int.le_ediv_iff_mul_le hp).2 (by omega))

theorem L_Form (kr : Bool → Option Res) (kt : Unit → Option Res) (x : NodeS) (l : List ArmS) (hl : l = x.2.2.2.2.2.2.2.1) (hlen : l.length ≤ 32) (hs : 0 ≤ x.2.2.2.2.2.2.1) (hs2 : x.2.2.2.2.2.2.1 ≤ 32) (hg : ∀ a ∈ l, 0 ≤ a.1 ∧ a.1 ≤ 4294967295) :
    ∀ (m i : Nat), i ≤ l.length → l.length - i < m → L_z0i_0 FUEL kr kt l (l.length : Int) x m (i : Int) =
      if x.2.2.2.2.2.2.1 = 0 ∧ i < l.length then kr false else if armsOk x.2.2.2.2.2.2.1.toNat (prevV l i) (l.drop i) = true then kt () else kr false
  | 0, _, _, h => by omega
  | m + 1, i, hi, hm => by
    show F_z0i_0 FUEL kr kt l (l.length : Int) x (L_z0i_0 FUEL kr kt l (l.length : Int) x m) (i : Int) = _
    unfold F_z0i_0
    rw [← hl]
    simp only [cond_dec, int_beq, ok_z0f, q_z0f, Q_to, RS.get, Option.getD_some, Option.isSome_some, cond_true]
    by_cases hil : i < l.length
    · rw [if_pos (by omega), if_pos (by omega), if_pos hs]
      simp only [toNat_cast]
      rw [drop_rdd zArmS hil, i64_succ (by omega), L_Form kr kt x l hl hlen hs hs2 hg m (i + 1) (by omega) (by omega), prevV_succ]
      have ha := hg (rdd zArmS l i) (by exact rdd_mem hil)
      have hprev : i > 0 → Int.toNat (IntKind.wrap .i64 ((i : Int) - 1)) = i - 1 := fun h => by rw [i64_pred h (by omega)]; rfl
      have hp0 : i = 0 → prevV l i = -1 := fun h => by simp [prevV, h]
      have hp1 : i > 0 → prevV l i = (rdd zArmS l (i - 1)).1 := fun h => by simp [prevV, show ¬ i = 0 by omega]
      generalize hx : rdd zArmS l i = a at *
      rw [u64_in _ (by omega)]
      have hmin : min (Int.toNat x.2.2.2.2.2.2.1) (IntKind.bits .u64) = x.2.2.2.2.2.2.1.toNat := by
        have : IntKind.bits .u64 = 64 := rfl
        omega
      rw [hmin]
      simp only [fdiv_pos_iff ha.1, armsOk, armOk]
      generalize x.2.2.2.2.2.2.1.toNat = sel at *
      by_cases h1 : a.1 < 2 ^ sel
      · rw [if_neg (by simpa using h1)]
        by_cases h2 : x.2.2.2.2.2.2.1 = 0
        · simp [h2, hil]
        · rw [if_neg h2]
          by_cases h3 : i = 0
          · subst h3
            rw [if_neg (by omega), hp0 rfl]
            by_cases h5 : 0 ≤ a.2.1 <;> by_cases h6 : a.2.1 ≤ 65535 <;> simp [h1, h2, h5, h6, show (-1 : Int) < a.1 by omega]
          · rw [if_pos (by omega), hprev (by omega), if_pos (by rw [i64_pred (by omega) (by omega)]; omega), hp1 (by omega)]
            by_cases h4 : a.1 ≤ (rdd zArmS l (i - 1)).1
            · simp [h2, h4, show ¬ (rdd zArmS l (i - 1)).1 < a.1 by omega]
            · by_cases h5 : 0 ≤ a.2.1 <;> by_cases h6 : a.2.1 ≤ 65535 <;> simp [h1, h2, h4, h5, h6, show (rdd zArmS l (i - 1)).1 < a.1 by omega]
      · rw [if_pos (by simpa using h1)]
        simp [h1]
    · rw [if_neg (by omega), List.drop_of_length_le (by omega)]
      simp [armsOk, hil]
theorem Q_Form (x : NodeS) (hx : nodeG x) : Q_z0i x = some ((decide (formP x), ()), ()) := by
  refine fin ?_
  unfold M_z0i
  simp only [cond_dec, ok_z0f, q_z0f, Q_to, ok_z0g, q_z0g, Q_span, ok_z0h, q_z0h, Q_unit, RS.get, Option.getD_some, Option.isSome_some, cond_true]
  by_cases h1 : x.1 < 1
  · rw [if_pos h1, not_formP (fun h => by unfold formL at h; omega)]
  rw [if_neg h1]
  by_cases h2 : x.1 > 65534
  · rw [if_pos h2, not_formP (fun h => by unfold formL at h; omega)]
  rw [if_neg h2]
  by_cases h3 : x.2.1 < 0
  · rw [if_pos h3, not_formP (fun h => by unfold formL at h; omega)]
  rw [if_neg h3]
  by_cases h4 : x.2.1 > 256
  · rw [if_pos h4, not_formP (fun h => by unfold formL at h; omega)]
  rw [if_neg h4]
  by_cases h5 : 0 ≤ x.2.2.2.2.2.2.2.2.1 ∧ x.2.2.2.2.2.2.2.2.1 ≤ 65535
  rotate_left
  · rw [decide_eq_false h5, Bool.not_false, cond_true, not_formP (fun h => by unfold formL at h; omega)]
  rw [decide_eq_true h5, Bool.not_true, cond_false]
  by_cases h6 : ((x.2.2.2.2.2.2.2.1.length : Nat) : Int) > 32
  · rw [if_pos h6, not_formP (fun h => by unfold formL at h; omega)]
  rw [if_neg h6]
  generalize hb7 : (if x.2.2.2.1 = 0 then decide (x.2.2.1 = 0) else decide (0 < x.2.2.2.1 ∧ x.2.2.2.1 ≤ 16 ∧ 0 ≤ x.2.2.1 ∧ x.2.2.1 ≤ 2048)) = b7
  have h7 : b7 = true ↔ (x.2.2.2.1 = 0 ∧ x.2.2.1 = 0 ∨ 0 < x.2.2.2.1 ∧ x.2.2.2.1 ≤ 16 ∧ 0 ≤ x.2.2.1 ∧ x.2.2.1 ≤ 2048) := by
    subst hb7; split <;> simp <;> omega
  cases b7 with
  | false =>
    rw [Bool.not_false, cond_true, not_formP (fun h => by unfold formL at h; simp at h7; omega)]
  | true =>
  rw [Bool.not_true, cond_false]
  generalize hb8 : (if x.2.2.2.1 = 0 then decide (x.2.2.2.2.1 = 0) else decide (1 ≤ x.2.2.2.2.1 ∧ x.2.2.2.2.1 ≤ 256)) = b8
  have h8 : b8 = true ↔ (x.2.2.2.1 = 0 ∧ x.2.2.2.2.1 = 0 ∨ x.2.2.2.1 ≠ 0 ∧ 1 ≤ x.2.2.2.2.1 ∧ x.2.2.2.2.1 ≤ 256) := by
    subst hb8; split <;> simp <;> omega
  cases b8 with
  | false =>
    rw [Bool.not_false, cond_true, not_formP (fun h => by unfold formL at h; simp at h8; omega)]
  | true =>
  rw [Bool.not_true, cond_false]
  generalize hb9 : (if x.2.2.2.2.2.2.1 = 0 then decide (x.2.2.2.2.2.1 = 0) else decide (0 < x.2.2.2.2.2.2.1 ∧ x.2.2.2.2.2.2.1 ≤ 32 ∧ 0 ≤ x.2.2.2.2.2.1 ∧ x.2.2.2.2.2.1 ≤ 2048)) = b9
  have h9 : b9 = true ↔ (x.2.2.2.2.2.2.1 = 0 ∧ x.2.2.2.2.2.1 = 0 ∨ 0 < x.2.2.2.2.2.2.1 ∧ x.2.2.2.2.2.2.1 ≤ 32 ∧ 0 ≤ x.2.2.2.2.2.1 ∧ x.2.2.2.2.2.1 ≤ 2048) := by
    subst hb9; split <;> simp <;> omega
  cases b9 with
  | false =>
    rw [Bool.not_false, cond_true, not_formP (fun h => by unfold formL at h; simp at h9; omega)]
  | true =>
  rw [Bool.not_true, cond_false]
  have h7 := h7.1 rfl
  have h8 := h8.1 rfl
  have h9 := h9.1 rfl
  have hL := L_Form (fun y8 => some (encRes ro_z0i rh_z0i ((y8, ()), ()))) (fun _ => some (encRes ro_z0i rh_z0i ((true, ()), ()))) x _ rfl (by omega) (by omega) (by omega) hx FUEL 0 (by omega) (by unfold FUEL; omega)
  refine Eq.trans hL ?_
  rw [List.drop_zero, show prevV x.2.2.2.2.2.2.2.1 0 = -1 from rfl]
  by_cases h10 : x.2.2.2.2.2.2.1 = 0 ∧ 0 < x.2.2.2.2.2.2.2.1.length
  · rw [if_pos h10, not_formP (fun h => by unfold formL at h; omega)]
  · rw [if_neg h10, is_formP (by unfold formL; omega)]
    cases armsOk x.2.2.2.2.2.2.1.toNat (-1) x.2.2.2.2.2.2.2.1 <;> rfl

/-! ### The document's -/
theorem L_below (k : Int → Option Res) (x : NodeS) (s : Nat) (hs : x.2.2.2.2.2.2.1 = (s : Int)) (h32 : s ≤ 32) : ∀ (m i : Nat), i ≤ s → s - i < m → L_z0t_0 FUEL k x m (2 ^ i) (i : Int) = k (2 ^ s)
  | 0, _, _, h => by omega
  | m + 1, i, hi, hm => by
    show F_z0t_0 FUEL k x (L_z0t_0 FUEL k x m) (2 ^ i) (i : Int) = _
    unfold F_z0t_0
    simp only [cond_dec, hs]
    by_cases h : i < s
    · rw [if_pos (by omega), i64_succ (by omega)]
      have hp : (2 : Int) ^ i ≤ 2 ^ 32 := by exact_mod_cast Nat.pow_le_pow_right (n := 2) (by decide) (show i ≤ 32 by omega)
      have hp0 : (0 : Int) < 2 ^ i := Int.pow_pos (by decide)
      rw [u64_in _ (by omega), ← Int.pow_succ]
      exact L_below k x s hs h32 m (i + 1) (by omega) (by omega)
    · rw [if_neg (by omega)]
      have : i = s := by omega
      rw [this]

theorem L_ref (kr : Bool → Option Res) (kt : Unit → Option Res) (x : NodeS) (l : List ArmS) (hl : l = x.2.2.2.2.2.2.2.1) (hlen : l.length ≤ 32) (sel : Nat) (h32 : sel ≤ 32) (hg : ∀ a ∈ l, 0 ≤ a.1 ∧ a.1 ≤ 4294967295) :
    ∀ (m i : Nat), i ≤ l.length → l.length - i < m → L_z0t_2 FUEL kr kt (2 ^ sel) x m (i : Int) = if armsOk sel (prevV l i) (l.drop i) = true then kt () else kr false
  | 0, _, _, h => by omega
  | m + 1, i, hi, hm => by
    show F_z0t_2 FUEL kr kt (2 ^ sel) x (L_z0t_2 FUEL kr kt (2 ^ sel) x m) (i : Int) = _
    unfold F_z0t_2
    rw [← hl]
    simp only [cond_dec]
    by_cases hil : i < l.length
    · rw [if_pos (by omega), if_pos (by omega)]
      simp only [toNat_cast]
      rw [drop_rdd zArmS hil, i64_succ (by omega), L_ref kr kt x l hl hlen sel h32 hg m (i + 1) (by omega) (by omega), prevV_succ]
      have ha := hg (rdd zArmS l i) (by exact rdd_mem hil)
      have hprev : i > 0 → Int.toNat (IntKind.wrap .i64 ((i : Int) - 1)) = i - 1 := fun h => by rw [i64_pred h (by omega)]; rfl
      have hp0 : i = 0 → prevV l i = -1 := fun h => by simp [prevV, h]
      have hp1 : i > 0 → prevV l i = (rdd zArmS l (i - 1)).1 := fun h => by simp [prevV, show ¬ i = 0 by omega]
      generalize hx : rdd zArmS l i = a at *
      rw [u64_in _ (by omega)]
      simp only [armsOk, armOk]
      by_cases h1 : a.1 < 2 ^ sel
      · rw [if_neg (by omega)]
        by_cases h3 : i = 0
        · subst h3
          rw [if_neg (by omega), hp0 rfl]
          by_cases h5 : 0 ≤ a.2.1
          · rw [if_neg (by omega)]
            by_cases h6 : a.2.1 ≤ 65535
            · rw [if_neg (by omega)]; simp [h1, h5, h6, show (-1 : Int) < a.1 by omega]
            · rw [if_pos (by omega)]; simp [h6]
          · rw [if_pos (by omega)]; simp [h5]
        · rw [if_pos (by omega), hprev (by omega), if_pos (by rw [i64_pred (by omega) (by omega)]; omega), hp1 (by omega)]
          by_cases h4 : a.1 ≤ (rdd zArmS l (i - 1)).1
          · rw [if_pos h4]; simp [show ¬ (rdd zArmS l (i - 1)).1 < a.1 by omega]
          · rw [if_neg h4]
            by_cases h5 : 0 ≤ a.2.1
            · rw [if_neg (by omega)]
              by_cases h6 : a.2.1 ≤ 65535
              · rw [if_neg (by omega)]; simp [h1, h5, h6, show (rdd zArmS l (i - 1)).1 < a.1 by omega]
              · rw [if_pos (by omega)]; simp [h6]
            · rw [if_pos (by omega)]; simp [h5]
      · rw [if_pos (by omega)]
        simp [h1]
    · rw [if_neg (by omega), List.drop_of_length_le (by omega)]
      simp [armsOk]

theorem ref_tail (x : NodeS) (hx : nodeG x) (hlen : x.2.2.2.2.2.2.2.1.length ≤ 32) (h0 : 0 ≤ x.2.2.2.2.2.2.1) (h32 : x.2.2.2.2.2.2.1 ≤ 32) :
    L_z0t_0 FUEL (fun y1 => L_z0t_2 FUEL (fun y3 => some (encRes ro_z0t rh_z0t ((y3, ()), ()))) (fun _ => some (encRes ro_z0t rh_z0t ((true, ()), ()))) y1 x FUEL (0 : Int)) x FUEL (1 : Int) (0 : Int) =
      some (encRes ro_z0t rh_z0t ((armsOk x.2.2.2.2.2.2.1.toNat (-1) x.2.2.2.2.2.2.2.1, ()), ())) := by
  refine Eq.trans (L_below _ x x.2.2.2.2.2.2.1.toNat (by omega) (by omega) FUEL 0 (by omega) (by unfold FUEL; omega)) ?_
  refine Eq.trans (L_ref _ _ x _ rfl hlen _ (by omega) hx FUEL 0 (by omega) (by unfold FUEL; omega)) ?_
  rw [List.drop_zero, show prevV x.2.2.2.2.2.2.2.1 0 = -1 from rfl]
  cases armsOk x.2.2.2.2.2.2.1.toNat (-1) x.2.2.2.2.2.2.2.1 <;> rfl

theorem Q_refForm (x : NodeS) (hx : nodeG x) : Q_z0t x = some ((decide (formP x), ()), ()) := by
  refine fin ?_
  have hno : ¬ formL x → (some (encRes ro_z0t rh_z0t ((false, ()), ())) : Option Res) = some (encRes ro_z0t rh_z0t ((decide (formP x), ()), ())) := fun h => by rw [not_formP h]
  have hyes : x.2.2.2.2.2.2.2.1.length ≤ 32 → 0 ≤ x.2.2.2.2.2.2.1 → x.2.2.2.2.2.2.1 ≤ 32 → formL x →
      L_z0t_0 FUEL (fun y1 => L_z0t_2 FUEL (fun y3 => some (encRes ro_z0t rh_z0t ((y3, ()), ()))) (fun _ => some (encRes ro_z0t rh_z0t ((true, ()), ()))) y1 x FUEL (0 : Int)) x FUEL (1 : Int) (0 : Int) =
      some (encRes ro_z0t rh_z0t ((decide (formP x), ()), ())) := fun h1 h2 h3 h4 => by
    rw [ref_tail x hx h1 h2 h3, is_formP h4]
  unfold M_z0t
  simp only [cond_dec, int_beq, int_bne, Bool.cond_not]
  repeat' (refine ite_eq (fun _ => ?_) (fun _ => ?_))
  all_goals first
    | exact hno fun h => by unfold formL at h; omega
    | exact hyes (by omega) (by omega) (by omega) (by unfold formL; omega)

/-! ### The law -/
theorem good_node {x : NodeS} (h : NodeT.good x) : nodeG x := by
  intro a ha
  have := (h.2.2.2.2.2.2.2.1.2 a ha).1
  exact wf_u32 this


def nArms (x : NodeS) : List ArmS := x.2.2.2.2.2.2.2.1
def nOther (x : NodeS) : Int := x.2.2.2.2.2.2.2.2.1
/-- Where a node goes on: Other first. -/
def goesP (x : NodeS) : List Int := nOther x :: (nArms x).map fun a => a.2.1
/-- The same, Other last. -/
def goesR (x : NodeS) : List Int := ((nArms x).map fun a => a.2.1) ++ [nOther x]
def findP (l : List NodeS) (id : Int) : Option NodeS := l.find? fun x => decide (x.1 = id)

/-! -: Find -/
theorem L_Find (kr : Bool → NodeS → Option Res) (kt : Unit → Option Res) (id : Int) (l : List NodeS) (z : NodeS) (hl : l.length < 9223372036854775807) : ∀ (m i : Nat), i ≤ l.length → l.length - i < m →
    L_z0l_0 FUEL kr kt id l (l.length : Int) z m (i : Int) = match findP (l.drop i) id with | some x => kr true x | none => kt ()
  | 0, _, _, h => by omega
  | m + 1, i, hi, hm => by
    show F_z0l_0 FUEL kr kt id l (l.length : Int) z (L_z0l_0 FUEL kr kt id l (l.length : Int) z m) (i : Int) = _
    unfold F_z0l_0
    simp only [cond_dec, int_beq]
    by_cases h : i < l.length
    · rw [if_pos (by omega), if_pos (by omega), drop_rdd zNodeS h]
      simp only [toNat_cast, findP, List.find?_cons]
      by_cases he : (rdd zNodeS l i).1 = id
      · simp [he]
      · rw [if_neg he, i64_succ (by omega), L_Find kr kt id l z hl m (i + 1) (by omega) (by omega)]
        simp [he, findP]
    · rw [if_neg (by omega), List.drop_of_length_le (by omega)]
      rfl

def findV (o : Option NodeS) : NodeS × (Bool × Unit) := match o with
  | some x => (x, (true, ()))
  | none => (zNodeS, (false, ()))

theorem Q_Find (l : List NodeS) (id : Int) (hl : l.length < 9223372036854775807) : Q_z0l l id = some (findV (findP l id), ()) := by
  refine fin ?_
  refine Eq.trans (L_Find _ _ id l _ hl FUEL 0 (by omega) (by unfold FUEL; omega)) ?_
  rw [List.drop_zero]
  cases findP l id <;> rfl

/-! ### Where a node goes on -/
theorem L_goes (k : Nat → List Int → Option Res) (l : List ArmS) (hl : l.length < 100000) : ∀ (m i : Nat) (out : List Int), i ≤ l.length → out.length ≤ i + 1 → l.length - i < m →
    L_z0k_0 FUEL k l (l.length : Int) m out.length (i : Int) out = k (out ++ (l.drop i).map fun a => a.2.1).length (out ++ (l.drop i).map fun a => a.2.1)
  | 0, _, _, _, _, h => by omega
  | m + 1, i, out, hi, ho, hm => by
    show F_z0k_0 FUEL k l (l.length : Int) (L_z0k_0 FUEL k l (l.length : Int) m) out.length (i : Int) out = _
    unfold F_z0k_0
    simp only [cond_dec, cutL_all]
    by_cases h : i < l.length
    · rw [if_pos (by omega), if_pos (by omega), if_pos (by omega)]
      simp only [toNat_cast]
      rw [i64_succ (by omega)]
      have := L_goes k l hl m (i + 1) (out ++ [(rdd zArmS l i).2.1]) (by omega) (by simp; omega) (by omega)
      rw [List.length_append] at this
      refine Eq.trans this ?_
      rw [drop_rdd zArmS h]
      simp
    · rw [if_neg (by omega), List.drop_of_length_le (by omega)]
      simp

theorem Q_goes (x : NodeS) (h : (nArms x).length < 100000) : Q_z0k x = some (((goesP x).length, ()), (goesP x, ())) := by
  refine fin ?_
  refine Eq.trans (L_goes _ (nArms x) h FUEL 0 [nOther x] (by omega) (by simp) (by unfold FUEL; omega)) ?_
  rw [List.drop_zero]
  rfl

theorem L_refGoes (k : Nat → List Int → Option Res) (x : NodeS) (hl : (nArms x).length < 100000) : ∀ (m i : Nat) (out : List Int), i ≤ (nArms x).length → out.length ≤ i + 1 → (nArms x).length - i < m →
    L_z0u_0 FUEL k x m out.length (i : Int) out = k (out ++ ((nArms x).drop i).map fun a => a.2.1).length (out ++ ((nArms x).drop i).map fun a => a.2.1)
  | 0, _, _, _, _, h => by omega
  | m + 1, i, out, hi, ho, hm => by
    show F_z0u_0 FUEL k x (L_z0u_0 FUEL k x m) out.length (i : Int) out = _
    unfold F_z0u_0
    rw [show x.2.2.2.2.2.2.2.1 = nArms x from rfl]
    simp only [cond_dec, cutL_all]
    by_cases h : i < (nArms x).length
    · rw [if_pos (by omega), if_pos (by omega), if_pos (by omega)]
      simp only [toNat_cast]
      rw [i64_succ (by omega)]
      have := L_refGoes k x hl m (i + 1) (out ++ [(rdd zArmS (nArms x) i).2.1]) (by omega) (by simp; omega) (by omega)
      rw [List.length_append] at this
      refine Eq.trans this ?_
      rw [drop_rdd zArmS h]
      simp
    · rw [if_neg (by omega), List.drop_of_length_le (by omega)]
      simp

theorem Q_refGoes (x : NodeS) (h : (nArms x).length < 100000) : Q_z0u x = some (((goesR x).length, ()), (goesR x, ())) := by
  refine fin ?_
  unfold M_z0u
  refine Eq.trans (L_refGoes _ x h FUEL 0 [] (by omega) (by simp) (by unfold FUEL; omega)) ?_
  rw [List.drop_zero]
  simp only [List.nil_append, cutL_all, cond_dec]
  rw [if_pos (by simp; omega)]
  simp [goesR, nOther]

theorem mem_goesR {x : NodeS} {t : Int} : t ∈ goesR x ↔ t ∈ goesP x := by simp [goesR, goesP, or_comm]

/-! -: Forms -/
/-- All nodes are right, and their IDs rise, above one. -/
def formsOk : Int → List NodeS → Prop
  | _, [] => True
  | p, x :: r => formP x ∧ p < x.1 ∧ formsOk x.1 r
instance : ∀ (p : Int) (l : List NodeS), Decidable (formsOk p l)
  | _, [] => isTrue trivial
  | p, x :: r => by
    have := instDecidableFormsOk x.1 r
    unfold formsOk
    infer_instance
def prevI (l : List NodeS) (i : Nat) : Int := if i = 0 then 0 else (rdd zNodeS l (i - 1)).1

theorem L_form (kr : Bool → Option Res) (kt : Unit → Option Res) (l : List NodeS) (hl : l.length < 9223372036854775807) (hg : ∀ x ∈ l, nodeG x) : ∀ (m i : Nat), i ≤ l.length → l.length - i < m →
    L_z0j_0 FUEL kr kt l l (l.length : Int) m (i : Int) = if formsOk (prevI l i) (l.drop i) then kt () else kr false
  | 0, _, _, h => by omega
  | m + 1, i, hi, hm => by
    show F_z0j_0 FUEL kr kt l l (l.length : Int) (L_z0j_0 FUEL kr kt l l (l.length : Int) m) (i : Int) = _
    unfold F_z0j_0
    by_cases h : i < l.length
    · have hx := Q_Form (rdd zNodeS l i) (hg _ (rdd_mem h))
      simp only [cond_dec, toNat_cast, ok_z0i, q_z0i, hx, RS.get, Option.getD_some, Option.isSome_some, cond_true]
      rw [if_pos (by omega), if_pos (by omega), drop_rdd zNodeS h, i64_succ (by omega), L_form kr kt l hl hg m (i + 1) (by omega) (by omega)]
      have hp : prevI l (i + 1) = (rdd zNodeS l i).1 := by simp [prevI]
      rw [hp]
      have hprev : i > 0 → Int.toNat (IntKind.wrap .i64 ((i : Int) - 1)) = i - 1 := fun h => by rw [i64_pred h (by omega)]; rfl
      generalize hX : rdd zNodeS l i = x at *
      by_cases hf : formP x
      · simp only [decide_eq_true hf, Bool.not_true, cond_false]
        by_cases h3 : i = 0
        · subst h3
          rw [if_neg (by omega)]
          have h1 : 0 < x.1 := by have := hf.1; unfold formL at this; omega
          simp only [formsOk, hf, prevI, if_pos, h1, true_and]
        · rw [if_pos (by omega), hprev (by omega), if_pos (by rw [i64_pred (by omega) (by omega)]; omega)]
          have hp2 : prevI l i = (rdd zNodeS l (i - 1)).1 := by simp [prevI, h3]
          rw [hp2]
          by_cases h4 : x.1 ≤ (rdd zNodeS l (i - 1)).1
          · rw [if_pos h4, if_neg (by simp only [formsOk]; omega)]
          · rw [if_neg h4]
            have h5 : (rdd zNodeS l (i - 1)).1 < x.1 := by omega
            simp only [formsOk, hf, h5, true_and]
      · simp only [decide_eq_false hf, Bool.not_false, cond_true]
        rw [if_neg (by simp only [formsOk]; exact fun k => hf k.1)]
    · simp only [cond_dec]
      rw [if_neg (by omega), List.drop_of_length_le (by omega), if_pos (show formsOk _ [] from trivial)]

theorem Q_form (l : List NodeS) (hl : l.length < 9223372036854775807) (hg : ∀ x ∈ l, nodeG x) : Q_z0j l = some ((decide (formsOk 0 l), ()), ()) := by
  refine fin ?_
  refine Eq.trans (L_form _ _ l hl hg FUEL 0 (by omega) (by unfold FUEL; omega)) ?_
  rw [List.drop_zero, show prevI l 0 = 0 from rfl]
  by_cases h : formsOk 0 l
  · rw [if_pos h, decide_eq_true h]
  · rw [if_neg h, decide_eq_false h]

/-! -: References -/
def refOk (l : List NodeS) (t : Int) : Bool := (findP l t).isSome || decide (t = 0) || decide (t = 65535)
def refsOk (l : List NodeS) : Prop := ∀ x ∈ l, ∀ t ∈ goesP x, refOk l t = true
instance (l : List NodeS) : Decidable (refsOk l) := by unfold refsOk; infer_instance

theorem L_refs2 (kr : Bool → Option Res) (kt : Unit → Option Res) (l : List NodeS) (hl : l.length < 9223372036854775807) (a : Int) (b : Int) (g : List Int) (hgl : g.length < 9223372036854775807) : ∀ (m i : Nat), i ≤ g.length → g.length - i < m →
    L_z0m_2 FUEL kr kt l l a b g.length (g.length : Int) g m (i : Int) = if ∀ t ∈ g.drop i, refOk l t = true then kt () else kr false
  | 0, _, _, h => by omega
  | m + 1, i, hi, hm => by
    show F_z0m_2 FUEL kr kt l l a b g.length (g.length : Int) g (L_z0m_2 FUEL kr kt l l a b g.length (g.length : Int) g m) (i : Int) = _
    unfold F_z0m_2
    by_cases h : i < g.length
    · simp only [cond_dec, toNat_cast, ok_z0l, q_z0l, Q_Find l _ hl, RS.get, Option.getD_some, Option.isSome_some, cond_true, int_bne, Bool.cond_not]
      rw [if_pos (by omega), if_pos (by omega), drop_rdd (0 : Int) h, i64_succ (by omega), L_refs2 kr kt l hl a b g hgl m (i + 1) (by omega) (by omega)]
      generalize rdd (0 : Int) g i = t
      have hfb : (findV (findP l t)).2.1 = (findP l t).isSome := by cases findP l t <;> rfl
      simp only [hfb, List.forall_mem_cons, refOk]
      cases hf : (findP l t).isSome
      · by_cases h0 : t = 0
        · simp [h0]
        · by_cases h1 : t = 65535
          · simp [h1]
          · simp [h0, h1]
      · simp
    · simp only [cond_dec]
      rw [if_neg (by omega), List.drop_of_length_le (by omega), if_pos (by simp)]

theorem L_refs (kr : Bool → Option Res) (kt : Unit → Option Res) (l : List NodeS) (hl : l.length < 9223372036854775807) (hg : ∀ x ∈ l, (nArms x).length < 100000) : ∀ (m i : Nat), i ≤ l.length → l.length - i < m →
    L_z0m_0 FUEL kr kt l l (l.length : Int) m (i : Int) = if ∀ x ∈ l.drop i, ∀ t ∈ goesP x, refOk l t = true then kt () else kr false
  | 0, _, _, h => by omega
  | m + 1, i, hi, hm => by
    show F_z0m_0 FUEL kr kt l l (l.length : Int) (L_z0m_0 FUEL kr kt l l (l.length : Int) m) (i : Int) = _
    unfold F_z0m_0
    by_cases h : i < l.length
    · have hx := Q_goes (rdd zNodeS l i) (hg _ (rdd_mem h))
      have hgl : (goesP (rdd zNodeS l i)).length < 9223372036854775807 := by
        have := hg _ (rdd_mem (d := zNodeS) h)
        simp [goesP]; omega
      simp only [cond_dec, toNat_cast, ok_z0k, q_z0k, hx, RS.get, Option.getD_some, Option.isSome_some, cond_true]
      rw [if_pos (by omega), if_pos (by omega), drop_rdd zNodeS h, i64_succ (by omega), L_refs kr kt l hl hg m (i + 1) (by omega) (by omega)]
      refine Eq.trans (L_refs2 _ _ l hl _ _ _ hgl FUEL 0 (by omega) (by unfold FUEL; omega)) ?_
      simp only [List.drop_zero, List.forall_mem_cons]
      by_cases h1 : ∀ t ∈ goesP (rdd zNodeS l i), refOk l t = true
      · rw [if_pos h1]
        by_cases h2 : ∀ x ∈ l.drop (i + 1), ∀ t ∈ goesP x, refOk l t = true
        · rw [if_pos h2, if_pos ⟨h1, h2⟩]
        · rw [if_neg h2, if_neg (fun k => h2 k.2)]
      · rw [if_neg h1, if_neg (fun k => h1 k.1)]
    · simp only [cond_dec]
      rw [if_neg (by omega), List.drop_of_length_le (by omega), if_pos (by simp)]

theorem Q_refs (l : List NodeS) (hl : l.length < 9223372036854775807) (hg : ∀ x ∈ l, (nArms x).length < 100000) : Q_z0m l = some ((decide (refsOk l), ()), ()) := by
  refine fin ?_
  refine Eq.trans (L_refs _ _ l hl hg FUEL 0 (by omega) (by unfold FUEL; omega)) ?_
  rw [List.drop_zero]
  by_cases h : refsOk l
  · rw [decide_eq_true h]; exact if_pos h
  · rw [decide_eq_false h]; exact if_neg h

abbrev MapI := Int → Option Int
def gv (f : MapI) (k : Int) : Int := (f k).getD 0
def setM (f : MapI) (a : Int) (v : Int) : MapI := fun i => if i = a then some v else f i
theorem gv_set (f : MapI) (a v k : Int) : gv (setM f a v) k = if k = a then v else gv f k := by
  unfold gv setM
  by_cases h : k = a <;> simp [h]

def free (l : List NodeS) (on : MapI) : Nat := l.countP fun x => decide (gv on x.1 = 0)
def cnt (l : List NodeS) (dn : MapI) : Nat := l.countP fun x => decide (0 < gv dn x.1)
def hmax (f : Int → Int) (g : List Int) (m0 : Int) : Int := g.foldl (fun m t => if f t > m then f t else m) m0

theorem hmax_cons (f : Int → Int) (t : Int) (g : List Int) (m0 : Int) : hmax f (t :: g) m0 = hmax f g (if f t > m0 then f t else m0) := rfl
theorem hmax_ge0 (f : Int → Int) : ∀ (g : List Int) (m0 : Int), m0 ≤ hmax f g m0
  | [], m0 => Int.le_refl _
  | t :: g, m0 => by
    rw [hmax_cons]
    refine Int.le_trans ?_ (hmax_ge0 f g _)
    split <;> omega
theorem hmax_ge (f : Int → Int) : ∀ (g : List Int) (m0 : Int) (t : Int), t ∈ g → f t ≤ hmax f g m0
  | t :: g, m0, t', h => by
    rw [hmax_cons]
    rcases List.mem_cons.1 h with rfl | h
    · refine Int.le_trans ?_ (hmax_ge0 f g _)
      split <;> omega
    · exact hmax_ge f g _ t' h
theorem hmax_mem (f : Int → Int) : ∀ (g : List Int) (m0 : Int), hmax f g m0 = m0 ∨ ∃ t ∈ g, hmax f g m0 = f t
  | [], m0 => .inl rfl
  | t :: g, m0 => by
    rw [hmax_cons]
    rcases hmax_mem f g (if f t > m0 then f t else m0) with h | ⟨u, hu, h⟩
    · rw [h]
      split
      · exact .inr ⟨t, List.mem_cons_self, rfl⟩
      · exact .inl rfl
    · exact .inr ⟨u, List.mem_cons_of_mem _ hu, h⟩
theorem hmax_congr {f g : Int → Int} : ∀ {l : List Int} {m0 : Int}, (∀ t ∈ l, f t = g t) → hmax f l m0 = hmax g l m0
  | [], m0, _ => rfl
  | t :: l, m0, h => by
    rw [hmax_cons, hmax_cons, h t List.mem_cons_self]
    exact hmax_congr fun u hu => h u (List.mem_cons_of_mem _ hu)

theorem findP_some {l : List NodeS} {id : Int} {x : NodeS} (h : findP l id = some x) : x ∈ l ∧ x.1 = id := by
  unfold findP at h
  exact ⟨List.mem_of_find?_eq_some h, by simpa using List.find?_some h⟩
theorem findP_of_mem {l : List NodeS} {x : NodeS} (h : x ∈ l) : (findP l x.1).isSome = true := by
  unfold findP
  rw [List.find?_isSome]
  exact ⟨x, h, by simp⟩

def OnOk (on : MapI) : Prop := ∀ k, gv on k = 0 ∨ gv on k = 1
def DnOk (l : List NodeS) (dn : MapI) : Prop := ∀ k, 0 ≤ gv dn k ∧ gv dn k ≤ cnt l dn ∧ (0 < gv dn k → (findP l k).isSome = true)
def Grow (dn dn' : MapI) : Prop := ∀ k, 0 < gv dn k → gv dn' k = gv dn k
def Good (l : List NodeS) (dn : MapI) : Prop := ∀ k, 0 < gv dn k → ∃ x, findP l k = some x ∧ gv dn k = 1 + hmax (gv dn) (goesP x) 0 ∧ ∀ t ∈ goesP x, (findP l t).isSome = true → 0 < gv dn t
def IsRank (l : List NodeS) (rank : Int → Nat) : Prop := ∀ k x, findP l k = some x → ∀ t ∈ goesP x, (findP l t).isSome = true → rank t < rank k

theorem Grow.refl (dn : MapI) : Grow dn dn := fun _ _ => rfl
theorem Grow.trans {a b c : MapI} (h : Grow a b) (k : Grow b c) : Grow a c := fun i hi => (k i (by rw [h i hi]; exact hi)).trans (h i hi)
theorem Grow.cnt {l : List NodeS} {a b : MapI} (h : Grow a b) : cnt l a ≤ cnt l b := by
  unfold Go.AMach.cnt
  refine List.countP_mono_left fun x _ hx => ?_
  simp only [decide_eq_true_eq] at hx ⊢
  rw [h _ hx]; exact hx
theorem cnt_le (l : List NodeS) (dn : MapI) : cnt l dn ≤ l.length := List.countP_le_length
theorem free_congr {l : List NodeS} {a b : MapI} (h : ∀ k, gv a k = gv b k) : free l a = free l b := by
  unfold free
  exact List.countP_congr fun x _ => by rw [h]

theorem countP_lt {α : Type} {p q : α → Bool} : ∀ {l : List α}, (∀ x ∈ l, p x = true → q x = true) → (∃ x ∈ l, q x = true ∧ p x = false) → l.countP p < l.countP q
  | [], _, h => by obtain ⟨x, hx, _⟩ := h; cases hx
  | y :: l, h1, h2 => by
    have hle : l.countP p ≤ l.countP q := List.countP_mono_left fun x hx => h1 x (List.mem_cons_of_mem _ hx)
    obtain ⟨x, hx, hq, hp⟩ := h2
    rcases List.mem_cons.1 hx with rfl | hx
    · rw [List.countP_cons_of_neg (by simp [hp]), List.countP_cons_of_pos hq]; omega
    · have ih := countP_lt (l := l) (fun x hx => h1 x (List.mem_cons_of_mem _ hx)) ⟨x, hx, hq, hp⟩
      have hy := h1 y List.mem_cons_self
      rw [List.countP_cons, List.countP_cons]
      cases hpy : p y
      · simp; split <;> omega
      · rw [hy hpy]; simp; exact ih

abbrev wres (r : Int) (l : List NodeS) (on : MapI) (w : Bool) (dn : MapI) : RS ro_z0n rh_z0n := ((r, ()), ((l, ()), (((), ()), (on, ((w, ()), (((), ()), (dn, (((), ()), ()))))))))

structure WalkPost (l : List NodeS) (id : Int) (on : MapI) (w : Bool) (dn : MapI) (r : Int) (on' : MapI) (w' : Bool) (dn' : MapI) : Prop where
  onS : ∀ k, gv on' k = gv on k
  dnOk : DnOk l dn'
  grow : Grow dn dn'
  keep : ∀ s, 0 < gv on s → gv dn' s = gv dn s
  r0 : 0 ≤ r
  r1 : r ≤ cnt l dn'
  wt : w' = true → w = true
  good : w' = true → Good l dn → Good l dn' ∧ r = gv dn' id ∧ ((findP l id).isSome = true → 0 < r)
  rank : ∀ rank, IsRank l rank → ((findP l id).isSome = true → ∀ s, 0 < gv on s → rank id < rank s) → w' = w

def WalkOk (l : List NodeS) (q : Int → List NodeS → MapI → Bool → MapI → Option (RS ro_z0n rh_z0n)) (F : Nat) : Prop :=
  ∀ id on w dn, free l on < F → OnOk on → DnOk l dn → ∃ r on' w' dn', q id l on w dn = some (wres r l on' w' dn') ∧ WalkPost l id on w dn r on' w' dn'

structure LoopPost (l : List NodeS) (g : List Int) (most : Int) (on : MapI) (w : Bool) (dn : MapI) (most' : Int) (on' : MapI) (w' : Bool) (dn' : MapI) : Prop where
  onS : ∀ k, gv on' k = gv on k
  dnOk : DnOk l dn'
  grow : Grow dn dn'
  keep : ∀ s, 0 < gv on s → gv dn' s = gv dn s
  m0 : most ≤ most'
  m1 : most ≤ cnt l dn → most' ≤ cnt l dn'
  wt : w' = true → w = true
  good : w' = true → Good l dn → Good l dn' ∧ most' = hmax (gv dn') g most ∧ (∀ t ∈ g, (findP l t).isSome = true → 0 < gv dn' t)
  rank : ∀ rank, IsRank l rank → (∀ t ∈ g, (findP l t).isSome = true → ∀ s, 0 < gv on s → rank t < rank s) → w' = w

theorem L_walk {l : List NodeS} {q : Int → List NodeS → MapI → Bool → MapI → Option (RS ro_z0n rh_z0n)} {F : Nat} (hq : WalkOk l q F) (k : Int → List NodeS → MapI → Bool → MapI → Option Res) (a : Int) (g : List Int) (hg : g.length < 9223372036854775807) :
    ∀ (m i : Nat) (most : Int) (on : MapI) (w : Bool) (dn : MapI), i ≤ g.length → g.length - i < m → free l on < F → OnOk on → DnOk l dn → 
    ∃ most' on' w' dn', L_z0n_1 FUEL q k a g.length (g.length : Int) g m most (i : Int) l on w dn = k most' l on' w' dn' ∧ LoopPost l (g.drop i) most on w dn most' on' w' dn'
  | 0, _, _, _, _, _, _, h, _, _, _ => by omega
  | m + 1, i, most, on, w, dn, hi, hm, hf, ho, hd => by
    show ∃ most' on' w' dn', F_z0n_1 FUEL q k a g.length (g.length : Int) g (L_z0n_1 FUEL q k a g.length (g.length : Int) g m) most (i : Int) l on w dn = k most' l on' w' dn' ∧ _
    unfold F_z0n_1
    by_cases h : i < g.length
    · simp only [cond_dec, toNat_cast]
      rw [if_pos (by omega), if_pos (by omega), drop_rdd (0 : Int) h, i64_succ (by omega)]
      generalize rdd (0 : Int) g i = t
      obtain ⟨r, on1, w1, dn1, hr, hp⟩ := hq t on w dn hf ho hd
      simp only [hr, RS.get, Option.getD_some, Option.isSome_some, cond_true]
      obtain ⟨most', on', w', dn', h1, h2⟩ := L_walk hq k a g hg m (i + 1) (if r > most then r else most) on1 w1 dn1 (by omega) (by omega) (by rw [free_congr hp.onS]; exact hf) (fun k => by rw [hp.onS]; exact ho k) hp.dnOk
      refine ⟨most', on', w', dn', h1, ?_⟩
      have hcnt : cnt l dn1 ≤ cnt l dn' := h2.grow.cnt
      exact {
        onS := fun k => (h2.onS k).trans (hp.onS k)
        dnOk := h2.dnOk
        grow := hp.grow.trans h2.grow
        keep := fun s hs => (h2.keep s (by rw [hp.onS]; exact hs)).trans (hp.keep s hs)
        m0 := by have := h2.m0; split at this <;> omega
        m1 := fun hm => h2.m1 (by
          have := hp.grow.cnt (l := l)
          have := hp.r1
          split <;> omega)
        wt := fun hw => hp.wt (h2.wt hw)
        good := fun hw hgd => by
          obtain ⟨g1, g2, g3⟩ := hp.good (h2.wt hw) hgd
          obtain ⟨k1, k2, k3⟩ := h2.good hw g1
          have hv : gv dn' t = r := by
            by_cases hft : (findP l t).isSome = true
            · have := g3 hft
              rw [g2] at this ⊢
              exact h2.grow t this
            · have e1 : ∀ d, DnOk l d → gv d t = 0 := fun d hd => by
                have := hd t
                have h3 := this.2.2
                by_cases hpos : 0 < gv d t
                · exact absurd (h3 hpos) hft
                · omega
              rw [e1 dn' h2.dnOk, g2, e1 dn1 hp.dnOk]
          refine ⟨k1, ?_, ?_⟩
          · rw [hmax_cons, hv]; exact k2
          · intro u hu hfu
            rcases List.mem_cons.1 hu with rfl | hu
            · rw [hv]; exact g3 hfu
            · exact k3 u hu hfu
        rank := fun rank hr hs => by
          rw [h2.rank rank hr fun u hu hfu s hs' => hs u (List.mem_cons_of_mem _ hu) hfu s (by rw [← hp.onS]; exact hs')]
          exact hp.rank rank hr fun hft s hs' => hs t List.mem_cons_self hft s hs' }
    · simp only [cond_dec]
      rw [if_neg (by omega), List.drop_of_length_le (by omega)]
      exact ⟨most, on, w, dn, rfl, ⟨fun _ => rfl, hd, Grow.refl _, fun _ _ => rfl, Int.le_refl _, fun h => h, fun h => h, fun _ hgd => ⟨hgd, rfl, fun t ht => by cases ht⟩, fun _ _ _ => rfl⟩⟩

theorem walk_ok (l : List NodeS) (hl : l.length ≤ 32) (ha : ∀ x ∈ l, (nArms x).length < 100000) : ∀ dp, WalkOk l (Qd_z0n dp) dp
  | 0 => fun id on w dn hf => by omega
  | dp + 1 => fun id on w dn hf ho hd => by
    have ih := walk_ok l hl ha dp
    show ∃ r on' w' dn', decRes ro_z0n rh_z0n (M_z0n FUEL (Qd_z0n dp) id l on w dn) = some (wres r l on' w' dn') ∧ _
    unfold M_z0n
    simp only [ok_z0l, q_z0l, Q_Find l id (by omega), RS.get, Option.getD_some, Option.isSome_some, cond_true]
    have hb0 : (0 : Int) ≤ cnt l dn := by omega
    cases hfd : findP l id with
    | none =>
      simp only [findV, Bool.not_false, cond_true]
      refine ⟨0, on, w, dn, fin rfl, ⟨fun _ => rfl, hd, Grow.refl _, fun _ _ => rfl, Int.le_refl _, hb0, fun h => h, fun _ hgd => ⟨hgd, ?_, fun h => (by rw [hfd] at h; cases h)⟩, fun _ _ _ => rfl⟩⟩
      have := hd id
      by_cases hp : 0 < gv dn id
      · have := this.2.2 hp; rw [hfd] at this; cases this
      · omega
    | some x =>
      obtain ⟨hxm, hxid⟩ := findP_some hfd
      simp only [findV, Bool.not_true, cond_false, cond_dec, ok_z0k, q_z0k, Q_goes x (ha x hxm), RS.get, Option.getD_some, Option.isSome_some, cond_true]
      rw [show (on id).getD 0 = gv on id from rfl, show (dn id).getD 0 = gv dn id from rfl]
      by_cases hon : gv on id > 0
      · rw [if_pos hon]
        refine ⟨0, on, false, dn, fin rfl, ⟨fun _ => rfl, hd, Grow.refl _, fun _ _ => rfl, Int.le_refl _, hb0, fun h => (by cases h), fun h => (by cases h), fun rank hr hs => ?_⟩⟩
        exact absurd (hs (by rw [hfd]; rfl) id hon) (by omega)
      rw [if_neg hon]
      have hon0 : gv on id = 0 := by rcases ho id with h | h <;> omega
      by_cases hdn : gv dn id > 0
      · rw [if_pos hdn]
        refine ⟨gv dn id, on, w, dn, fin rfl, ⟨fun _ => rfl, hd, Grow.refl _, fun _ _ => rfl, by omega, (hd id).2.1, fun h => h, fun _ hgd => ⟨hgd, rfl, fun _ => hdn⟩, fun _ _ _ => rfl⟩⟩
      rw [if_neg hdn]
      have hdn0 : gv dn id = 0 := by have := (hd id).1; omega
      -- the loop
      have hgl : (goesP x).length < 9223372036854775807 := by have := ha x hxm; simp [goesP]; omega
      rw [hon0, show IntKind.wrap .i64 ((0 : Int) + 1) = 1 from by rw [IntWalk.i64_in _ (by omega)]; rfl]
      have hon1 : ∀ k, gv (setM on id 1) k = if k = id then 1 else gv on k := gv_set on id 1
      have hfree : free l (setM on id 1) < free l on := by
        unfold free
        refine countP_lt (fun y _ hy => ?_) ⟨x, hxm, ?_, ?_⟩
        · simp only [decide_eq_true_eq] at hy ⊢
          rw [hon1] at hy
          split at hy
          · omega
          · exact hy
        · simp [hxid, hon0]
        · simp [hxid, hon1]
      obtain ⟨most, on1, w1, dn1, h1, hp⟩ := L_walk ih (fun y4 y5 y6 y7 y8 => some (encRes ro_z0n rh_z0n (((IntKind.wrap .i64 (y4 + (1 : Int))), ()), ((y5, ()), (((), ()), ((fun i => if i = id then some (IntKind.wrap .i64 ((Option.getD (y6 id) (0 : Int)) - (1 : Int))) else y6 i), ((y7, ()), (((), ()), ((fun i => if i = id then some (IntKind.wrap .i64 (y4 + (1 : Int))) else y8 i), (((), ()), ())))))))))) id (goesP x) hgl FUEL 0 0 (setM on id 1) w dn (by omega) (by unfold FUEL; omega) (by omega)
        (fun k => by rw [hon1]; split; exact .inr rfl; exact ho k) hd
      rw [List.drop_zero] at hp
      have hmost1 : most ≤ cnt l dn1 := hp.m1 (by omega)
      have hcl := cnt_le l dn1
      have hmost0 := hp.m0
      have hw1 : IntKind.wrap .i64 (most + 1) = most + 1 := IntWalk.i64_in _ (by omega)
      have hon2 : gv on1 id = 1 := by rw [hp.onS, hon1, if_pos rfl]
      have hdn1 : gv dn1 id = 0 := by rw [hp.keep id (by rw [hon1, if_pos rfl]; omega)]; exact hdn0
      refine ⟨most + 1, setM on1 id 0, w1, setM dn1 id (most + 1), ?_, ?_⟩
      · refine fin ?_
        refine Eq.trans h1 ?_
        have e1 : IntKind.wrap .i64 ((on1 id).getD 0 - 1) = 0 := by
          rw [show (on1 id).getD 0 = gv on1 id from rfl, hon2, IntWalk.i64_in _ (by omega)]; rfl
        rw [e1, hw1]
        rfl
      have hd2 : ∀ k, gv (setM dn1 id (most + 1)) k = if k = id then most + 1 else gv dn1 k := gv_set dn1 id (most + 1)
      have hcnt2 : cnt l dn1 < cnt l (setM dn1 id (most + 1)) := by
        unfold cnt
        refine countP_lt (fun y _ hy => ?_) ⟨x, hxm, ?_, ?_⟩
        · simp only [decide_eq_true_eq] at hy ⊢
          rw [hd2]
          split
          · omega
          · exact hy
        · simp [hxid, hd2]; omega
        · simp [hxid, hdn1]
      have hnot : w1 = true → Good l dn → ∀ y k, findP l k = some y → (0 < gv dn1 k ∨ k = id) → id ∉ goesP y := fun hw hgd y k hy hk hmem => by
        obtain ⟨k1, _, k3⟩ := hp.good hw hgd
        rcases hk with hk | rfl
        · obtain ⟨y', hy', _, h3⟩ := k1 k hk
          rw [hy] at hy'; cases hy'
          have := h3 id hmem (by rw [hfd]; rfl)
          omega
        · rw [hfd] at hy; cases hy
          have := k3 k hmem (by rw [hfd]; rfl)
          omega
      exact {
        onS := fun k => by
          rw [gv_set]
          by_cases hk : k = id
          · rw [if_pos hk, hk, hon0]
          · rw [if_neg hk, hp.onS, hon1, if_neg hk]
        dnOk := fun k => by
          rw [hd2]
          by_cases hk : k = id
          · rw [if_pos hk]
            exact ⟨by omega, by omega, fun _ => by rw [hk, hfd]; rfl⟩
          · rw [if_neg hk]
            have := hp.dnOk k
            exact ⟨this.1, by omega, this.2.2⟩
        grow := fun k hk => by
          have hk' : k ≠ id := fun e => by rw [e] at hk; omega
          rw [hd2, if_neg hk']; exact hp.grow k hk
        keep := fun s hs => by
          have hs' : s ≠ id := fun e => by rw [e] at hs; omega
          rw [hd2, if_neg hs']; exact hp.keep s (by rw [hon1, if_neg hs']; exact hs)
        r0 := by omega
        r1 := by omega
        wt := hp.wt
        good := fun hw hgd => by
          obtain ⟨k1, k2, k3⟩ := hp.good hw hgd
          refine ⟨fun k hk => ?_, by rw [hd2, if_pos rfl], fun _ => by omega⟩
          rw [hd2] at hk ⊢
          by_cases hki : k = id
          · subst hki
            rw [if_pos rfl]
            refine ⟨x, hfd, ?_, fun t ht hft => ?_⟩
            · have e := hmax_congr (f := gv (setM dn1 k (most + 1))) (g := gv dn1) (l := goesP x) (m0 := 0) fun t ht => by
                rw [hd2, if_neg (fun e : t = k => hnot hw hgd x k hfd (.inr rfl) (e ▸ ht))]
              omega
            · rw [hd2, if_neg (fun e : t = k => hnot hw hgd x k hfd (.inr rfl) (e ▸ ht))]
              exact k3 t ht hft
          · rw [if_neg hki] at hk ⊢
            obtain ⟨y, hy, h4, h5⟩ := k1 k hk
            refine ⟨y, hy, ?_, fun t ht hft => ?_⟩
            · have e := hmax_congr (f := gv (setM dn1 id (most + 1))) (g := gv dn1) (l := goesP y) (m0 := 0) fun t ht => by
                rw [hd2, if_neg (fun e : t = id => hnot hw hgd y k hy (.inl hk) (e ▸ ht))]
              omega
            · rw [hd2, if_neg (fun e : t = id => hnot hw hgd y k hy (.inl hk) (e ▸ ht))]
              exact h5 t ht hft
        rank := fun rank hr hs => hp.rank rank hr fun t ht hft s hs' => by
          have h6 := hr id x hfd t ht hft
          rw [hon1] at hs'
          by_cases hsi : s = id
          · rw [hsi]; exact h6
          · rw [if_neg hsi] at hs'
            exact Nat.lt_trans h6 (hs (by rw [hfd]; rfl) s hs') }

abbrev lres (l : List NodeS) (on : MapI) (w : Bool) (dn : MapI) : RS ro_z0o rh_z0o := (((), (w, ())), ((l, ()), (((), ()), (on, ((w, ()), (((), ()), (dn, (((), ()), ()))))))))

structure AllPost (l r : List NodeS) (w : Bool) (dn : MapI) (on' : MapI) (w' : Bool) (dn' : MapI) : Prop where
  onS : ∀ k, gv on' k = 0
  dnOk : DnOk l dn'
  grow : Grow dn dn'
  wt : w' = true → w = true
  good : w' = true → Good l dn → Good l dn' ∧ ∀ x ∈ r, 0 < gv dn' x.1
  rank : ∀ rank, IsRank l rank → w' = w

theorem free_le (l : List NodeS) (on : MapI) : free l on ≤ l.length := List.countP_le_length

theorem L_longest (k : Bool → List NodeS → MapI → MapI → Option Res) (l : List NodeS) (hl : l.length ≤ 32) (ha : ∀ x ∈ l, (nArms x).length < 100000) : ∀ (m i : Nat) (w : Bool) (on dn : MapI), i ≤ l.length → l.length - i < m → (∀ k, gv on k = 0) → DnOk l dn →
    ∃ w' on' dn', L_z0o_0 FUEL k l (l.length : Int) m (i : Int) w l on dn = k w' l on' dn' ∧ AllPost l (l.drop i) w dn on' w' dn'
  | 0, _, _, _, _, _, h, _, _ => by omega
  | m + 1, i, w, on, dn, hi, hm, ho, hd => by
    show ∃ w' on' dn', F_z0o_0 FUEL k l (l.length : Int) (L_z0o_0 FUEL k l (l.length : Int) m) (i : Int) w l on dn = k w' l on' dn' ∧ _
    unfold F_z0o_0
    by_cases h : i < l.length
    · simp only [cond_dec, toNat_cast]
      have hxm := rdd_mem (d := zNodeS) h
      rw [if_pos (by omega), if_pos (by omega), drop_rdd zNodeS h, i64_succ (by omega)]
      generalize rdd zNodeS l i = x at *
      have hfr := free_le l on
      obtain ⟨r, on1, w1, dn1, hr, hp⟩ := walk_ok l hl ha FUEL x.1 on w dn (by unfold FUEL; omega) (fun k => .inl (ho k)) hd
      have hr' : Q_z0n x.1 l on w dn = some (wres r l on1 w1 dn1) := hr
      simp only [ok_z0n, q_z0n, hr', RS.get, Option.getD_some, Option.isSome_some, cond_true]
      obtain ⟨w', on', dn', h1, h2⟩ := L_longest k l hl ha m (i + 1) w1 on1 dn1 (by omega) (by omega) (fun k => by rw [hp.onS]; exact ho k) hp.dnOk
      refine ⟨w', on', dn', h1, ⟨h2.onS, h2.dnOk, hp.grow.trans h2.grow, fun hw => hp.wt (h2.wt hw), fun hw hgd => ?_, fun rank hr => ?_⟩⟩
      · obtain ⟨g1, g2, g3⟩ := hp.good (h2.wt hw) hgd
        obtain ⟨k1, k2⟩ := h2.good hw g1
        refine ⟨k1, fun y hy => ?_⟩
        rcases List.mem_cons.1 hy with rfl | hy
        · have := g3 (findP_of_mem hxm)
          rw [g2] at this
          rw [h2.grow _ this]; exact this
        · exact k2 y hy
      · rw [h2.rank rank hr]
        exact hp.rank rank hr fun _ s hs => by rw [ho] at hs; omega
    · simp only [cond_dec]
      rw [if_neg (by omega), List.drop_of_length_le (by omega)]
      exact ⟨w, on, dn, rfl, ⟨ho, hd, Grow.refl _, fun h => h, fun _ hgd => ⟨hgd, fun x hx => by cases hx⟩, fun _ _ => rfl⟩⟩

theorem Q_longest (l : List NodeS) (hl : l.length ≤ 32) (ha : ∀ x ∈ l, (nArms x).length < 100000) :
    ∃ w on dn, Q_z0o l = some (lres l on w dn) ∧ (∀ k, gv on k = 0) ∧ DnOk l dn ∧ (w = true → Good l dn ∧ ∀ x ∈ l, 0 < gv dn x.1) ∧ (∀ rank, IsRank l rank → w = true) := by
  obtain ⟨w, on, dn, h1, h2⟩ := L_longest (fun y2 y3 y4 y5 => some (encRes ro_z0o rh_z0o (((), (y2, ())), ((y3, ()), (((), ()), (y4, ((y2, ()), (((), ()), (y5, (((), ()), ())))))))))) l hl ha FUEL 0 true (fun _ => none) (fun _ => none) (by omega) (by unfold FUEL; omega) (fun k => rfl) (fun k => ⟨Int.le_refl _, by show (0 : Int) ≤ _; omega, fun h => by cases h⟩)
  rw [List.drop_zero] at h2
  exact ⟨w, on, dn, fin h1, h2.onS, h2.dnOk, fun hw => h2.good hw (fun k hk => by cases hk), fun rank hr => h2.rank rank hr⟩

/-! -: Heights -/
/-- How many nodes a longest way from each ID on has. -/
structure Hgt (l : List NodeS) (h : Int → Int) : Prop where
  no : ∀ k, findP l k = none → h k = 0
  is : ∀ k x, findP l k = some x → h k = 1 + hmax h (goesP x) 0

theorem Hgt.nonneg {l : List NodeS} {h : Int → Int} (H : Hgt l h) (k : Int) : 0 ≤ h k := by
  cases hf : findP l k with
  | none => rw [H.no k hf]; omega
  | some x => rw [H.is k x hf]; have := hmax_ge0 h (goesP x) 0; omega
theorem Hgt.pos {l : List NodeS} {h : Int → Int} (H : Hgt l h) (k : Int) : 0 < h k ↔ (findP l k).isSome = true := by
  cases hf : findP l k with
  | none => rw [H.no k hf]; simp
  | some x => rw [H.is k x hf]; have := hmax_ge0 h (goesP x) 0; simp; omega
theorem Hgt.lt {l : List NodeS} {h : Int → Int} (H : Hgt l h) {k : Int} {x : NodeS} (hf : findP l k = some x) {t : Int} (ht : t ∈ goesP x) : h t < h k := by
  rw [H.is k x hf]; have := hmax_ge h (goesP x) 0 t ht; omega
theorem Hgt.rank {l : List NodeS} {h : Int → Int} (H : Hgt l h) : IsRank l fun k => (h k).toNat := fun k x hf t ht _ => by
  have := H.lt hf ht
  have := H.nonneg t
  show (h t).toNat < (h k).toNat
  omega
theorem Hgt.unique {l : List NodeS} {h h' : Int → Int} (H : Hgt l h) (H' : Hgt l h') : ∀ k, h k = h' k := by
  have key : ∀ (n : Nat) (k : Int), h k < n → h k = h' k := by
    intro n
    induction n with
    | zero => intro k hk; have := H.nonneg k; omega
    | succ n ih =>
      intro k hk
      cases hf : findP l k with
      | none => rw [H.no k hf, H'.no k hf]
      | some x =>
        rw [H.is k x hf, H'.is k x hf]
        congr 1
        exact hmax_congr fun t ht => ih t (by have := H.lt hf ht; omega)
  exact fun k => key ((h k).toNat + 1) k (by omega)
theorem Hgt.of_good {l : List NodeS} {dn : MapI} (hd : DnOk l dn) (hg : Good l dn) (ha : ∀ x ∈ l, 0 < gv dn x.1) : Hgt l (gv dn) where
  no k hf := by
    have := hd k
    by_cases hp : 0 < gv dn k
    · have := this.2.2 hp; rw [hf] at this; cases this
    · omega
  is k x hf := by
    obtain ⟨hx, rfl⟩ := findP_some hf
    obtain ⟨y, hy, h1, _⟩ := hg x.1 (ha x hx)
    rw [hf] at hy; cases hy
    exact h1

/-- May a graph be? -/
def mayP (l : List NodeS) : Prop := formsOk 0 l ∧ l.length ≤ 32 ∧ refsOk l ∧ ∃ h, Hgt l h

theorem longest_whole {l : List NodeS} (hl : l.length ≤ 32) (ha : ∀ x ∈ l, (nArms x).length < 100000) : ∃ w on dn, Q_z0o l = some (lres l on w dn) ∧ (∀ k, gv on k = 0) ∧ DnOk l dn ∧ (w = true → Good l dn ∧ ∀ x ∈ l, 0 < gv dn x.1) ∧ (w = true ↔ ∃ h, Hgt l h) := by
  obtain ⟨w, on, dn, h1, h2, h3, h4, h5⟩ := Q_longest l hl ha
  exact ⟨w, on, dn, h1, h2, h3, h4, fun hw => ⟨gv dn, Hgt.of_good h3 (h4 hw).1 (h4 hw).2⟩, fun ⟨h, H⟩ => h5 _ H.rank⟩

open Classical in
noncomputable def mayN (l : List NodeS) : Int := if ¬ formsOk 0 l then 3 else if ¬ l.length ≤ 32 then 12 else if ¬ refsOk l then 8 else if ¬ ∃ h, Hgt l h then 10 else 0

theorem mayN_zero {l : List NodeS} : mayN l = 0 ↔ mayP l := by
  unfold mayN mayP
  by_cases h1 : formsOk 0 l
  · by_cases h2 : l.length ≤ 32
    · by_cases h3 : refsOk l
      · by_cases h4 : ∃ h, Hgt l h
        · rw [if_neg (by simp [h1]), if_neg (by simp [h2]), if_neg (by simp [h3]), if_neg (by simp [h4])]
          exact ⟨fun _ => ⟨h1, h2, h3, h4⟩, fun _ => rfl⟩
        · rw [if_neg (by simp [h1]), if_neg (by simp [h2]), if_neg (by simp [h3]), if_pos h4]
          exact ⟨fun h => by omega, fun h => absurd h.2.2.2 h4⟩
      · rw [if_neg (by simp [h1]), if_neg (by simp [h2]), if_pos h3]
        exact ⟨fun h => by omega, fun h => absurd h.2.2.1 h3⟩
    · rw [if_neg (by simp [h1]), if_pos h2]
      exact ⟨fun h => by omega, fun h => absurd h.2.1 h2⟩
  · rw [if_pos h1]
    exact ⟨fun h => by omega, fun h => absurd h.1 h1⟩

/-- What is asked of what comes in. -/
structure Nodes (l : List NodeS) : Prop where
  len : l.length < 9223372036854775807
  arms : ∀ x ∈ l, (nArms x).length < 100000
  g : ∀ x ∈ l, nodeG x

theorem Q_May (l : List NodeS) (hl : Nodes l) : Q_z0p l = some ((mayN l, ()), ()) := by
  refine fin ?_
  unfold M_z0p mayN
  simp only [ok_z0j, q_z0j, Q_form l hl.len hl.g, ok_z0m, q_z0m, Q_refs l hl.len hl.arms, RS.get, Option.getD_some, Option.isSome_some, cond_true]
  by_cases h1 : formsOk 0 l
  · rw [decide_eq_true h1, Bool.not_true, cond_false, if_neg (by simp [h1])]
    by_cases h2 : l.length ≤ 32
    · rw [cond_dec, if_neg (by omega), if_neg (by simp [h2])]
      by_cases h3 : refsOk l
      · rw [decide_eq_true h3, Bool.not_true, cond_false, if_neg (by simp [h3])]
        obtain ⟨w, on, dn, g1, g2, g3, g4, g5⟩ := longest_whole h2 hl.arms
        simp only [ok_z0o, q_z0o, g1, RS.get, Option.getD_some, Option.isSome_some, cond_true]
        cases w with
        | true => rw [Bool.not_true, cond_false, if_neg (by simp only [Classical.not_not]; exact g5.1 rfl)]
        | false => rw [Bool.not_false, cond_true, if_pos (fun h => by have := g5.2 h; cases this)]
      · rw [decide_eq_false h3, Bool.not_false, cond_true, if_pos h3]
    · rw [cond_dec, if_pos (by omega), if_pos h2]
  · rw [decide_eq_false h1, Bool.not_false, cond_true, if_pos h1]

theorem Q_Longest_no (l : List NodeS) (hl : Nodes l) (h : ¬ mayP l) : Q_z0q l = some ((0, ()), ()) := by
  refine fin ?_
  unfold M_z0q
  simp only [ok_z0p, q_z0p, Q_May l hl, RS.get, Option.getD_some, Option.isSome_some, cond_true, int_bne]
  have : ¬ mayN l = 0 := fun e => h (mayN_zero.1 e)
  rw [decide_eq_false this]
  rfl

theorem Hgt.le {l : List NodeS} {h : Int → Int} (hl : l.length ≤ 32) (ha : ∀ x ∈ l, (nArms x).length < 100000) (H : Hgt l h) (k : Int) : h k ≤ l.length := by
  obtain ⟨w, on, dn, g1, g2, g3, g4, g5⟩ := longest_whole hl ha
  have hw := g5.2 ⟨h, H⟩
  have H2 := Hgt.of_good g3 (g4 hw).1 (g4 hw).2
  rw [H.unique H2 k]
  have := (g3 k).2.1
  have := cnt_le l dn
  omega

theorem Q_Longest (l : List NodeS) (hl : Nodes l) (h : mayP l) {hg : Int → Int} (H : Hgt l hg) : Q_z0q l = some ((hg 1, ()), ()) := by
  refine fin ?_
  unfold M_z0q
  simp only [ok_z0p, q_z0p, Q_May l hl, RS.get, Option.getD_some, Option.isSome_some, cond_true, int_bne]
  rw [decide_eq_true (mayN_zero.2 h), Bool.not_true, cond_false]
  obtain ⟨w, on, dn, g1, g2, g3, g4, g5⟩ := longest_whole h.2.1 hl.arms
  have hw := g5.2 h.2.2.2
  have H2 := Hgt.of_good g3 (g4 hw).1 (g4 hw).2
  simp only [ok_z0o, q_z0o, g1, RS.get, Option.getD_some, Option.isSome_some, cond_true]
  have hfr := free_le l on
  have h32 := h.2.1
  obtain ⟨r, on1, w1, dn1, hr, hp⟩ := walk_ok l h.2.1 hl.arms FUEL 1 on w dn (by unfold FUEL; omega) (fun k => .inl (g2 k)) g3
  have hr' : Q_z0n 1 l on w dn = some (wres r l on1 w1 dn1) := hr
  simp only [ok_z0n, q_z0n, hr', RS.get, Option.getD_some, Option.isSome_some, cond_true]
  have hw1 : w1 = true := by rw [hp.rank _ H2.rank (fun _ s hs => by rw [g2] at hs; omega)]; exact hw
  obtain ⟨k1, k2, k3⟩ := hp.good hw1 (g4 hw).1
  have : r = hg 1 := by
    rw [H.unique H2 1, k2]
    by_cases hpos : 0 < gv dn 1
    · exact hp.grow 1 hpos
    · have h0 := (g3 1).1
      have hn : ¬ (findP l 1).isSome = true := fun h => hpos ((H2.pos 1).2 h)
      have := hp.dnOk 1
      by_cases hp1 : 0 < gv dn1 1
      · exact absurd (this.2.2 hp1) hn
      · omega
  rw [this]

theorem find_lt {l : List NodeS} (hm : mayP l) {h : Int → Int} (H : Hgt l h) {k : Int} {x : NodeS} (hf : findP l k = some x) {t : Int} (ht : t ∈ goesP x) : h t < h k ∧ (findP l t ≠ none ∨ t = 0 ∨ t = 65535) := by
  refine ⟨H.lt hf ht, ?_⟩
  have := hm.2.2.1 x (findP_some hf).1 t ht
  unfold refOk at this
  simp only [Bool.or_eq_true, decide_eq_true_eq] at this
  rcases this with (h | h) | h
  · left; intro e; rw [e] at h; cases h
  · exact .inr (.inl h)
  · exact .inr (.inr h)
theorem formsOk_mem : ∀ {p : Int} {l : List NodeS}, formsOk p l → ∀ x ∈ l, formP x ∧ p < x.1
  | p, y :: r, h, x, hx => by
    obtain ⟨h1, h2, h3⟩ := h
    rcases List.mem_cons.1 hx with rfl | hx
    · exact ⟨h1, h2⟩
    · have := formsOk_mem h3 x hx
      exact ⟨this.1, by omega⟩
theorem id_range {l : List NodeS} (hm : formsOk 0 l) {k : Int} {x : NodeS} (hf : findP l k = some x) : 1 ≤ k ∧ k ≤ 65534 := by
  obtain ⟨hx, rfl⟩ := findP_some hf
  have := (formsOk_mem hm x hx).1.1
  unfold formL at this
  exact ⟨this.1, this.2.1⟩

/-! -: Next -/
/-! -: Ways -/
/-! ### What comes in -/
theorem good_len {l : List NodeS} (h : (Ty.slice NodeT).good l) : l.length < 9223372036854775807 := by
  have h1 := h.1
  have : NodeT.minb = 88 := rfl
  rw [this] at h1
  omega
/-! -: GraphEnds -/
end Go.AMach
