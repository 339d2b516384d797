/- Parts of the proof. -/
import Derived.Test.YtcngpijmkdpbgaaDx
import Derived.Test.YtcngpijmkdpbgaaAm23
/- The plain theory of graphs and walks, at this seat. -/

namespace Go.AMach
set_option linter.unusedVariables false
set_option linter.unusedSimpArgs false
set_option linter.unnecessarySimpa false
open Go
set_option linter.unusedVariables false

/-! -: Long -/
def armsN (x : NodeS) : Nat := (x.2.2.2.2.2.2.2.1 : List ArmS).length

/-! -: Form -/
def armOk (sel : Nat) (a : ArmS) : Bool := decide (a.1 < 2 ^ sel) && decide (0 ≤ a.2.1) && decide (a.2.1 ≤ 65535)
/-- Arms that rise, above a value. -/
def armsOk (sel : Nat) : Int → List ArmS → Bool
  | _, [] => true
  | p, a :: r => armOk sel a && decide (p < a.1) && armsOk sel a.1 r
/-- A node's form, but for its arms. -/
def formL (x : NodeS) : Prop :=
  1 ≤ x.1 ∧ x.1 ≤ 65534 ∧ 0 ≤ x.2.1 ∧ x.2.1 ≤ 256 ∧ 0 ≤ x.2.2.2.2.2.2.2.2.1 ∧ x.2.2.2.2.2.2.2.2.1 ≤ 65535 ∧ x.2.2.2.2.2.2.2.1.length ≤ 32 ∧
  (x.2.2.2.1 = 0 ∧ x.2.2.1 = 0 ∧ x.2.2.2.2.1 = 0 ∨ 0 < x.2.2.2.1 ∧ x.2.2.2.1 ≤ 16 ∧ 0 ≤ x.2.2.1 ∧ x.2.2.1 ≤ 2048 ∧ 1 ≤ x.2.2.2.2.1 ∧ x.2.2.2.2.1 ≤ 256) ∧
  (x.2.2.2.2.2.2.1 = 0 ∧ x.2.2.2.2.2.1 = 0 ∧ x.2.2.2.2.2.2.2.1.length = 0 ∨ 0 < x.2.2.2.2.2.2.1 ∧ x.2.2.2.2.2.2.1 ≤ 32 ∧ 0 ≤ x.2.2.2.2.2.1 ∧ x.2.2.2.2.2.1 ≤ 2048)
instance (x : NodeS) : Decidable (formL x) := by unfold formL; infer_instance
/-- A node's form. -/
def formP (x : NodeS) : Prop := formL x ∧ armsOk x.2.2.2.2.2.2.1.toNat (-1) x.2.2.2.2.2.2.2.1 = true
instance (x : NodeS) : Decidable (formP x) := by unfold formP; infer_instance
theorem not_formP {x : NodeS} (h : ¬ formL x) : decide (formP x) = false := decide_eq_false fun k => h k.1
theorem is_formP {x : NodeS} (h : formL x) : decide (formP x) = armsOk x.2.2.2.2.2.2.1.toNat (-1) x.2.2.2.2.2.2.2.1 := by
  by_cases hb : armsOk x.2.2.2.2.2.2.1.toNat (-1) x.2.2.2.2.2.2.2.1 = true
  · rw [hb, decide_eq_true (p := formP x) ⟨h, hb⟩]
  · rw [decide_eq_false (p := formP x) (fun k => hb k.2)]; simp at hb; rw [hb]
/-- Numbers in their ranges. -/
def nodeG (x : NodeS) : Prop := ∀ a ∈ x.2.2.2.2.2.2.2.1, 0 ≤ a.1 ∧ a.1 ≤ 4294967295

theorem Q_to (i : Int) : Q_z05 i = some ((decide (0 ≤ i ∧ i ≤ 65535), ()), ()) := by
  refine fin ?_
  unfold M_z05
  simp only [cond_dec]
  by_cases h : i ≥ 0 <;> simp [h]
theorem Q_span (a b c : Int) : Q_z06 (a, (b, (c, ()))) = some ((if b = 0 then decide (a = 0) else decide (0 < b ∧ b ≤ c ∧ 0 ≤ a ∧ a ≤ 2048), ()), ()) := by
  refine fin ?_
  unfold M_z06
  simp only [cond_dec, Bool.cond_eq_ite, int_beq]
  by_cases h1 : b = 0
  · subst h1; simp
  · by_cases h2 : 0 < b <;> by_cases h3 : b ≤ c <;> by_cases h4 : 0 ≤ a <;> simp [h1, h2, h3, h4]
theorem Q_unit (x : NodeS) : Q_z07 x = some ((if x.2.2.2.1 = 0 then decide (x.2.2.2.2.1 = 0) else decide (1 ≤ x.2.2.2.2.1 ∧ x.2.2.2.2.1 ≤ 256), ()), ()) := by
  refine fin ?_
  unfold M_z07
  simp only [cond_dec, Bool.cond_eq_ite, int_beq]
  by_cases h1 : x.2.2.2.1 = 0 <;> by_cases h2 : 1 ≤ x.2.2.2.2.1 <;> simp [h1, h2]

/-- The value ahead of a place. -/
def prevV (l : List ArmS) (i : Nat) : Int := if i = 0 then -1 else (rdd zArmS l (i - 1)).1
theorem prevV_succ (l : List ArmS) (i : Nat) : prevV l (i + 1) = (rdd zArmS l i).1 := by simp [prevV]

theorem fdiv_pos_iff {a : Int} {n : Nat} (h : 0 ≤ a) : (Int.fdiv a (2 ^ n) > 0) ↔ ¬ a < 2 ^ n := by
  have hp : (0 : Int) < 2 ^ n := Int.pow_pos (by decide)
  rw [Int.fdiv_eq_ediv_of_nonneg _ (Int.le_of_lt hp)]
  constructor
  · intro h1 h2
    rw [Int.ediv_eq_zero_of_lt h h2] at h1
    omega
  · intro h1
    exact Int.lt_of_lt_of_le (by decide : (0 : Int) < 1) ((Int.le_ediv_iff_mul_le hp).2 (by omega))

theorem L_Form (kr : Bool → Option Res) (kt : Unit → Option Res) (x : NodeS) (l : List ArmS) (hl : l = x.2.2.2.2.2.2.2.1) (hlen : l.length ≤ 32) (hs : 0 ≤ x.2.2.2.2.2.2.1) (hs2 : x.2.2.2.2.2.2.1 ≤ 32) (hg : ∀ a ∈ l, 0 ≤ a.1 ∧ a.1 ≤ 4294967295) :
    ∀ (m i : Nat), i ≤ l.length → l.length - i < m → L_z08_0 FUEL kr kt l (l.length : Int) x m (i : Int) =
      if x.2.2.2.2.2.2.1 = 0 ∧ i < l.length then kr false else if armsOk x.2.2.2.2.2.2.1.toNat (prevV l i) (l.drop i) = true then kt () else kr false
  | 0, _, _, h => by omega
  | m + 1, i, hi, hm => by
    show F_z08_0 FUEL kr kt l (l.length : Int) x (L_z08_0 FUEL kr kt l (l.length : Int) x m) (i : Int) = _
    unfold F_z08_0
    rw [← hl]
    simp only [cond_dec, int_beq, ok_z05, q_z05, Q_to, RS.get, Option.getD_some, Option.isSome_some, cond_true]
    by_cases hil : i < l.length
    · rw [if_pos (by omega), if_pos (by omega), if_pos hs]
      simp only [toNat_cast]
      rw [drop_rdd zArmS hil, i64_succ (by omega), L_Form kr kt x l hl hlen hs hs2 hg m (i + 1) (by omega) (by omega), prevV_succ]
      have ha := hg (rdd zArmS l i) (by exact rdd_mem hil)
      have hprev : i > 0 → Int.toNat (IntKind.wrap .i64 ((i : Int) - 1)) = i - 1 := fun h => by rw [i64_pred h (by omega)]; rfl
      have hp0 : i = 0 → prevV l i = -1 := fun h => by simp [prevV, h]
      have hp1 : i > 0 → prevV l i = (rdd zArmS l (i - 1)).1 := fun h => by simp [prevV, show ¬ i = 0 by omega]
      generalize hx : rdd zArmS l i = a at *
      rw [u64_in _ (by omega)]
      have hmin : min (Int.toNat x.2.2.2.2.2.2.1) (IntKind.bits .u64) = x.2.2.2.2.2.2.1.toNat := by
        have : IntKind.bits .u64 = 64 := rfl
        omega
      rw [hmin]
      simp only [fdiv_pos_iff ha.1, armsOk, armOk]
      generalize x.2.2.2.2.2.2.1.toNat = sel at *
      by_cases h1 : a.1 < 2 ^ sel
      · rw [if_neg (by simpa using h1)]
        by_cases h2 : x.2.2.2.2.2.2.1 = 0
        · simp [h2, hil]
        · rw [if_neg h2]
          by_cases h3 : i = 0
          · subst h3
            rw [if_neg (by omega), hp0 rfl]
            by_cases h5 : 0 ≤ a.2.1 <;> by_cases h6 : a.2.1 ≤ 65535 <;> simp [h1, h2, h5, h6, show (-1 : Int) < a.1 by omega]
          · rw [if_pos (by omega), hprev (by omega), if_pos (by rw [i64_pred (by omega) (by omega)]; omega), hp1 (by omega)]
            by_cases h4 : a.1 ≤ (rdd zArmS l (i - 1)).1
            · simp [h2, h4, show ¬ (rdd zArmS l (i - 1)).1 < a.1 by omega]
            · by_cases h5 : 0 ≤ a.2.1 <;> by_cases h6 : a.2.1 ≤ 65535 <;> simp [h1, h2, h4, h5, h6, show (rdd zArmS l (i - 1)).1 < a.1 by omega]
      · rw [if_pos (by simpa using h1)]
        simp [h1]
    · rw [if_neg (by omega), List.drop_of_length_le (by omega)]
      simp [armsOk, hil]
theorem Q_Form (x : NodeS) (hx : nodeG x) : Q_z08 x = some ((decide (formP x), ()), ()) := by
  refine fin ?_
  unfold M_z08
  simp only [cond_dec, ok_z05, q_z05, Q_to, ok_z06, q_z06, Q_span, ok_z07, q_z07, Q_unit, RS.get, Option.getD_some, Option.isSome_some, cond_true]
  by_cases h1 : x.1 < 1
  · rw [if_pos h1, not_formP (fun h => by unfold formL at h; omega)]
  rw [if_neg h1]
  by_cases h2 : x.1 > 65534
  · rw [if_pos h2, not_formP (fun h => by unfold formL at h; omega)]
  rw [if_neg h2]
  by_cases h3 : x.2.1 < 0
  · rw [if_pos h3, not_formP (fun h => by unfold formL at h; omega)]
  rw [if_neg h3]
  by_cases h4 : x.2.1 > 256
  · rw [if_pos h4, not_formP (fun h => by unfold formL at h; omega)]
  rw [if_neg h4]
  by_cases h5 : 0 ≤ x.2.2.2.2.2.2.2.2.1 ∧ x.2.2.2.2.2.2.2.2.1 ≤ 65535
  rotate_left
  · rw [decide_eq_false h5, Bool.not_false, cond_true, not_formP (fun h => by unfold formL at h; omega)]
  rw [decide_eq_true h5, Bool.not_true, cond_false]
  by_cases h6 : ((x.2.2.2.2.2.2.2.1.length : Nat) : Int) > 32
  · rw [if_pos h6, not_formP (fun h => by unfold formL at h; omega)]
  rw [if_neg h6]
  generalize hb7 : (if x.2.2.2.1 = 0 then decide (x.2.2.1 = 0) else decide (0 < x.2.2.2.1 ∧ x.2.2.2.1 ≤ 16 ∧ 0 ≤ x.2.2.1 ∧ x.2.2.1 ≤ 2048)) = b7
  have h7 : b7 = true ↔ (x.2.2.2.1 = 0 ∧ x.2.2.1 = 0 ∨ 0 < x.2.2.2.1 ∧ x.2.2.2.1 ≤ 16 ∧ 0 ≤ x.2.2.1 ∧ x.2.2.1 ≤ 2048) := by
    subst hb7; split <;> simp <;> omega
  cases b7 with
  | false =>
    rw [Bool.not_false, cond_true, not_formP (fun h => by unfold formL at h; simp at h7; omega)]
  | true =>
  rw [Bool.not_true, cond_false]
  generalize hb8 : (if x.2.2.2.1 = 0 then decide (x.2.2.2.2.1 = 0) else decide (1 ≤ x.2.2.2.2.1 ∧ x.2.2.2.2.1 ≤ 256)) = b8
  have h8 : b8 = true ↔ (x.2.2.2.1 = 0 ∧ x.2.2.2.2.1 = 0 ∨ x.2.2.2.1 ≠ 0 ∧ 1 ≤ x.2.2.2.2.1 ∧ x.2.2.2.2.1 ≤ 256) := by
    subst hb8; split <;> simp <;> omega
  cases b8 with
  | false =>
    rw [Bool.not_false, cond_true, not_formP (fun h => by unfold formL at h; simp at h8; omega)]
  | true =>
  rw [Bool.not_true, cond_false]
  generalize hb9 : (if x.2.2.2.2.2.2.1 = 0 then decide (x.2.2.2.2.2.1 = 0) else decide (0 < x.2.2.2.2.2.2.1 ∧ x.2.2.2.2.2.2.1 ≤ 32 ∧ 0 ≤ x.2.2.2.2.2.1 ∧ x.2.2.2.2.2.1 ≤ 2048)) = b9
  have h9 : b9 = true ↔ (x.2.2.2.2.2.2.1 = 0 ∧ x.2.2.2.2.2.1 = 0 ∨ 0 < x.2.2.2.2.2.2.1 ∧ x.2.2.2.2.2.2.1 ≤ 32 ∧ 0 ≤ x.2.2.2.2.2.1 ∧ x.2.2.2.2.2.1 ≤ 2048) := by
    subst hb9; split <;> simp <;> omega
  cases b9 with
  | false =>
    rw [Bool.not_false, cond_true, not_formP (fun h => by unfold formL at h; simp at h9; omega)]
  | true =>
  rw [Bool.not_true, cond_false]
  have h7 := h7.1 rfl
  have h8 := h8.1 rfl
  have h9 := h9.1 rfl
  have hL := L_Form (fun y8 => some (encRes ro_z08 rh_z08 ((y8, ()), ()))) (fun _ => some (encRes ro_z08 rh_z08 ((true, ()), ()))) x _ rfl (by omega) (by omega) (by omega) hx FUEL 0 (by omega) (by unfold FUEL; omega)
  refine Eq.trans hL ?_
  rw [List.drop_zero, show prevV x.2.2.2.2.2.2.2.1 0 = -1 from rfl]
  by_cases h10 : x.2.2.2.2.2.2.1 = 0 ∧ 0 < x.2.2.2.2.2.2.2.1.length
  · rw [if_pos h10, not_formP (fun h => by unfold formL at h; omega)]
  · rw [if_neg h10, is_formP (by unfold formL; omega)]
    cases armsOk x.2.2.2.2.2.2.1.toNat (-1) x.2.2.2.2.2.2.2.1 <;> rfl

/-! ### The document's -/
/-! ### The law -/
theorem good_node {x : NodeS} (h : NodeT.good x) : nodeG x := by
  intro a ha
  have := (h.2.2.2.2.2.2.2.1.2 a ha).1
  exact wf_u32 this


def nArms (x : NodeS) : List ArmS := x.2.2.2.2.2.2.2.1
def nOther (x : NodeS) : Int := x.2.2.2.2.2.2.2.2.1
/-- Where a node goes on: Other first. -/
def goesP (x : NodeS) : List Int := nOther x :: (nArms x).map fun a => a.2.1
/-- The same, Other last. -/
def goesR (x : NodeS) : List Int := ((nArms x).map fun a => a.2.1) ++ [nOther x]
def findP (l : List NodeS) (id : Int) : Option NodeS := l.find? fun x => decide (x.1 = id)

/-! -: Find -/
theorem L_Find (kr : Bool → NodeS → Option Res) (kt : Unit → Option Res) (id : Int) (l : List NodeS) (z : NodeS) (hl : l.length < 9223372036854775807) : ∀ (m i : Nat), i ≤ l.length → l.length - i < m →
    L_z0b_0 FUEL kr kt id l (l.length : Int) z m (i : Int) = match findP (l.drop i) id with | some x => kr true x | none => kt ()
  | 0, _, _, h => by omega
  | m + 1, i, hi, hm => by
    show F_z0b_0 FUEL kr kt id l (l.length : Int) z (L_z0b_0 FUEL kr kt id l (l.length : Int) z m) (i : Int) = _
    unfold F_z0b_0
    simp only [cond_dec, int_beq]
    by_cases h : i < l.length
    · rw [if_pos (by omega), if_pos (by omega), drop_rdd zNodeS h]
      simp only [toNat_cast, findP, List.find?_cons]
      by_cases he : (rdd zNodeS l i).1 = id
      · simp [he]
      · rw [if_neg he, i64_succ (by omega), L_Find kr kt id l z hl m (i + 1) (by omega) (by omega)]
        simp [he, findP]
    · rw [if_neg (by omega), List.drop_of_length_le (by omega)]
      rfl

def findV (o : Option NodeS) : NodeS × (Bool × Unit) := match o with
  | some x => (x, (true, ()))
  | none => (zNodeS, (false, ()))

theorem Q_Find (l : List NodeS) (id : Int) (hl : l.length < 9223372036854775807) : Q_z0b l id = some (findV (findP l id), ()) := by
  refine fin ?_
  refine Eq.trans (L_Find _ _ id l _ hl FUEL 0 (by omega) (by unfold FUEL; omega)) ?_
  rw [List.drop_zero]
  cases findP l id <;> rfl

/-! ### Where a node goes on -/
theorem L_goes (k : Nat → List Int → Option Res) (l : List ArmS) (hl : l.length < 100000) : ∀ (m i : Nat) (out : List Int), i ≤ l.length → out.length ≤ i + 1 → l.length - i < m →
    L_z0a_0 FUEL k l (l.length : Int) m out.length (i : Int) out = k (out ++ (l.drop i).map fun a => a.2.1).length (out ++ (l.drop i).map fun a => a.2.1)
  | 0, _, _, _, _, h => by omega
  | m + 1, i, out, hi, ho, hm => by
    show F_z0a_0 FUEL k l (l.length : Int) (L_z0a_0 FUEL k l (l.length : Int) m) out.length (i : Int) out = _
    unfold F_z0a_0
    simp only [cond_dec, cutL_all]
    by_cases h : i < l.length
    · rw [if_pos (by omega), if_pos (by omega), if_pos (by omega)]
      simp only [toNat_cast]
      rw [i64_succ (by omega)]
      have := L_goes k l hl m (i + 1) (out ++ [(rdd zArmS l i).2.1]) (by omega) (by simp; omega) (by omega)
      rw [List.length_append] at this
      refine Eq.trans this ?_
      rw [drop_rdd zArmS h]
      simp
    · rw [if_neg (by omega), List.drop_of_length_le (by omega)]
      simp

theorem Q_goes (x : NodeS) (h : (nArms x).length < 100000) : Q_z0a x = some (((goesP x).length, ()), (goesP x, ())) := by
  refine fin ?_
  refine Eq.trans (L_goes _ (nArms x) h FUEL 0 [nOther x] (by omega) (by simp) (by unfold FUEL; omega)) ?_
  rw [List.drop_zero]
  rfl

theorem mem_goesR {x : NodeS} {t : Int} : t ∈ goesR x ↔ t ∈ goesP x := by simp [goesR, goesP, or_comm]

/-! -: Forms -/
/-- All nodes are right, and their IDs rise, above one. -/
def formsOk : Int → List NodeS → Prop
  | _, [] => True
  | p, x :: r => formP x ∧ p < x.1 ∧ formsOk x.1 r
instance : ∀ (p : Int) (l : List NodeS), Decidable (formsOk p l)
  | _, [] => isTrue trivial
  | p, x :: r => by
    have := instDecidableFormsOk x.1 r
    unfold formsOk
    infer_instance
def prevI (l : List NodeS) (i : Nat) : Int := if i = 0 then 0 else (rdd zNodeS l (i - 1)).1

theorem L_form (kr : Bool → Option Res) (kt : Unit → Option Res) (l : List NodeS) (hl : l.length < 9223372036854775807) (hg : ∀ x ∈ l, nodeG x) : ∀ (m i : Nat), i ≤ l.length → l.length - i < m →
    L_z09_0 FUEL kr kt l l (l.length : Int) m (i : Int) = if formsOk (prevI l i) (l.drop i) then kt () else kr false
  | 0, _, _, h => by omega
  | m + 1, i, hi, hm => by
    show F_z09_0 FUEL kr kt l l (l.length : Int) (L_z09_0 FUEL kr kt l l (l.length : Int) m) (i : Int) = _
    unfold F_z09_0
    by_cases h : i < l.length
    · have hx := Q_Form (rdd zNodeS l i) (hg _ (rdd_mem h))
      simp only [cond_dec, toNat_cast, ok_z08, q_z08, hx, RS.get, Option.getD_some, Option.isSome_some, cond_true]
      rw [if_pos (by omega), if_pos (by omega), drop_rdd zNodeS h, i64_succ (by omega), L_form kr kt l hl hg m (i + 1) (by omega) (by omega)]
      have hp : prevI l (i + 1) = (rdd zNodeS l i).1 := by simp [prevI]
      rw [hp]
      have hprev : i > 0 → Int.toNat (IntKind.wrap .i64 ((i : Int) - 1)) = i - 1 := fun h => by rw [i64_pred h (by omega)]; rfl
      generalize hX : rdd zNodeS l i = x at *
      by_cases hf : formP x
      · simp only [decide_eq_true hf, Bool.not_true, cond_false]
        by_cases h3 : i = 0
        · subst h3
          rw [if_neg (by omega)]
          have h1 : 0 < x.1 := by have := hf.1; unfold formL at this; omega
          simp only [formsOk, hf, prevI, if_pos, h1, true_and]
        · rw [if_pos (by omega), hprev (by omega), if_pos (by rw [i64_pred (by omega) (by omega)]; omega)]
          have hp2 : prevI l i = (rdd zNodeS l (i - 1)).1 := by simp [prevI, h3]
          rw [hp2]
          by_cases h4 : x.1 ≤ (rdd zNodeS l (i - 1)).1
          · rw [if_pos h4, if_neg (by simp only [formsOk]; omega)]
          · rw [if_neg h4]
            have h5 : (rdd zNodeS l (i - 1)).1 < x.1 := by omega
            simp only [formsOk, hf, h5, true_and]
      · simp only [decide_eq_false hf, Bool.not_false, cond_true]
        rw [if_neg (by simp only [formsOk]; exact fun k => hf k.1)]
    · simp only [cond_dec]
      rw [if_neg (by omega), List.drop_of_length_le (by omega), if_pos (show formsOk _ [] from trivial)]

theorem Q_form (l : List NodeS) (hl : l.length < 9223372036854775807) (hg : ∀ x ∈ l, nodeG x) : Q_z09 l = some ((decide (formsOk 0 l), ()), ()) := by
  refine fin ?_
  refine Eq.trans (L_form _ _ l hl hg FUEL 0 (by omega) (by unfold FUEL; omega)) ?_
  rw [List.drop_zero, show prevI l 0 = 0 from rfl]
  by_cases h : formsOk 0 l
  · rw [if_pos h, decide_eq_true h]
  · rw [if_neg h, decide_eq_false h]

/-! -: References -/
def refOk (l : List NodeS) (t : Int) : Bool := (findP l t).isSome || decide (t = 0) || decide (t = 65535)
def refsOk (l : List NodeS) : Prop := ∀ x ∈ l, ∀ t ∈ goesP x, refOk l t = true
instance (l : List NodeS) : Decidable (refsOk l) := by unfold refsOk; infer_instance

theorem L_refs2 (kr : Bool → Option Res) (kt : Unit → Option Res) (l : List NodeS) (hl : l.length < 9223372036854775807) (a : Int) (b : Int) (g : List Int) (hgl : g.length < 9223372036854775807) : ∀ (m i : Nat), i ≤ g.length → g.length - i < m →
    L_z0c_2 FUEL kr kt l l a b g.length (g.length : Int) g m (i : Int) = if ∀ t ∈ g.drop i, refOk l t = true then kt () else kr false
  | 0, _, _, h => by omega
  | m + 1, i, hi, hm => by
    show F_z0c_2 FUEL kr kt l l a b g.length (g.length : Int) g (L_z0c_2 FUEL kr kt l l a b g.length (g.length : Int) g m) (i : Int) = _
    unfold F_z0c_2
    by_cases h : i < g.length
    · simp only [cond_dec, toNat_cast, ok_z0b, q_z0b, Q_Find l _ hl, RS.get, Option.getD_some, Option.isSome_some, cond_true, int_bne, Bool.cond_not]
      rw [if_pos (by omega), if_pos (by omega), drop_rdd (0 : Int) h, i64_succ (by omega), L_refs2 kr kt l hl a b g hgl m (i + 1) (by omega) (by omega)]
      generalize rdd (0 : Int) g i = t
      have hfb : (findV (findP l t)).2.1 = (findP l t).isSome := by cases findP l t <;> rfl
      simp only [hfb, List.forall_mem_cons, refOk]
      cases hf : (findP l t).isSome
      · by_cases h0 : t = 0
        · simp [h0]
        · by_cases h1 : t = 65535
          · simp [h1]
          · simp [h0, h1]
      · simp
    · simp only [cond_dec]
      rw [if_neg (by omega), List.drop_of_length_le (by omega), if_pos (by simp)]

theorem L_refs (kr : Bool → Option Res) (kt : Unit → Option Res) (l : List NodeS) (hl : l.length < 9223372036854775807) (hg : ∀ x ∈ l, (nArms x).length < 100000) : ∀ (m i : Nat), i ≤ l.length → l.length - i < m →
    L_z0c_0 FUEL kr kt l l (l.length : Int) m (i : Int) = if ∀ x ∈ l.drop i, ∀ t ∈ goesP x, refOk l t = true then kt () else kr false
  | 0, _, _, h => by omega
  | m + 1, i, hi, hm => by
    show F_z0c_0 FUEL kr kt l l (l.length : Int) (L_z0c_0 FUEL kr kt l l (l.length : Int) m) (i : Int) = _
    unfold F_z0c_0
    by_cases h : i < l.length
    · have hx := Q_goes (rdd zNodeS l i) (hg _ (rdd_mem h))
      have hgl : (goesP (rdd zNodeS l i)).length < 9223372036854775807 := by
        have := hg _ (rdd_mem (d := zNodeS) h)
        simp [goesP]; omega
      simp only [cond_dec, toNat_cast, ok_z0a, q_z0a, hx, RS.get, Option.getD_some, Option.isSome_some, cond_true]
      rw [if_pos (by omega), if_pos (by omega), drop_rdd zNodeS h, i64_succ (by omega), L_refs kr kt l hl hg m (i + 1) (by omega) (by omega)]
      refine Eq.trans (L_refs2 _ _ l hl _ _ _ hgl FUEL 0 (by omega) (by unfold FUEL; omega)) ?_
      simp only [List.drop_zero, List.forall_mem_cons]
      by_cases h1 : ∀ t ∈ goesP (rdd zNodeS l i), refOk l t = true
      · rw [if_pos h1]
        by_cases h2 : ∀ x ∈ l.drop (i + 1), ∀ t ∈ goesP x, refOk l t = true
        · rw [if_pos h2, if_pos ⟨h1, h2⟩]
        · rw [if_neg h2, if_neg (fun k => h2 k.2)]
      · rw [if_neg h1, if_neg (fun k => h1 k.1)]
    · simp only [cond_dec]
      rw [if_neg (by omega), List.drop_of_length_le (by omega), if_pos (by simp)]

theorem Q_refs (l : List NodeS) (hl : l.length < 9223372036854775807) (hg : ∀ x ∈ l, (nArms x).length < 100000) : Q_z0c l = some ((decide (refsOk l), ()), ()) := by
  refine fin ?_
  refine Eq.trans (L_refs _ _ l hl hg FUEL 0 (by omega) (by unfold FUEL; omega)) ?_
  rw [List.drop_zero]
  by_cases h : refsOk l
  · rw [decide_eq_true h]; exact if_pos h
  · rw [decide_eq_false h]; exact if_neg h

abbrev MapI := Int → Option Int
def gv (f : MapI) (k : Int) : Int := (f k).getD 0
def setM (f : MapI) (a : Int) (v : Int) : MapI := fun i => if i = a then some v else f i
theorem gv_set (f : MapI) (a v k : Int) : gv (setM f a v) k = if k = a then v else gv f k := by
  unfold gv setM
  by_cases h : k = a <;> simp [h]

def free (l : List NodeS) (on : MapI) : Nat := l.countP fun x => decide (gv on x.1 = 0)
def cnt (l : List NodeS) (dn : MapI) : Nat := l.countP fun x => decide (0 < gv dn x.1)
def hmax (f : Int → Int) (g : List Int) (m0 : Int) : Int := g.foldl (fun m t => if f t > m then f t else m) m0

theorem hmax_cons (f : Int → Int) (t : Int) (g : List Int) (m0 : Int) : hmax f (t :: g) m0 = hmax f g (if f t > m0 then f t else m0) := rfl
theorem hmax_ge0 (f : Int → Int) : ∀ (g : List Int) (m0 : Int), m0 ≤ hmax f g m0
  | [], m0 => Int.le_refl _
  | t :: g, m0 => by
    rw [hmax_cons]
    refine Int.le_trans ?_ (hmax_ge0 f g _)
    split <;> omega
theorem hmax_ge (f : Int → Int) : ∀ (g : List Int) (m0 : Int) (t : Int), t ∈ g → f t ≤ hmax f g m0
  | t :: g, m0, t', h => by
    rw [hmax_cons]
    rcases List.mem_cons.1 h with rfl | h
    · refine Int.le_trans ?_ (hmax_ge0 f g _)
      split <;> omega
    · exact hmax_ge f g _ t' h
theorem hmax_mem (f : Int → Int) : ∀ (g : List Int) (m0 : Int), hmax f g m0 = m0 ∨ ∃ t ∈ g, hmax f g m0 = f t
  | [], m0 => .inl rfl
  | t :: g, m0 => by
    rw [hmax_cons]
    rcases hmax_mem f g (if f t > m0 then f t else m0) with h | ⟨u, hu, h⟩
    · rw [h]
      split
      · exact .inr ⟨t, List.mem_cons_self, rfl⟩
      · exact .inl rfl
    · exact .inr ⟨u, List.mem_cons_of_mem _ hu, h⟩
theorem hmax_congr {f g : Int → Int} : ∀ {l : List Int} {m0 : Int}, (∀ t ∈ l, f t = g t) → hmax f l m0 = hmax g l m0
  | [], m0, _ => rfl
  | t :: l, m0, h => by
    rw [hmax_cons, hmax_cons, h t List.mem_cons_self]
    exact hmax_congr fun u hu => h u (List.mem_cons_of_mem _ hu)

theorem findP_some {l : List NodeS} {id : Int} {x : NodeS} (h : findP l id = some x) : x ∈ l ∧ x.1 = id := by
  unfold findP at h
  exact ⟨List.mem_of_find?_eq_some h, by simpa using List.find?_some h⟩
theorem findP_of_mem {l : List NodeS} {x : NodeS} (h : x ∈ l) : (findP l x.1).isSome = true := by
  unfold findP
  rw [List.find?_isSome]
  exact ⟨x, h, by simp⟩

def OnOk (on : MapI) : Prop := ∀ k, gv on k = 0 ∨ gv on k = 1
def DnOk (l : List NodeS) (dn : MapI) : Prop := ∀ k, 0 ≤ gv dn k ∧ gv dn k ≤ cnt l dn ∧ (0 < gv dn k → (findP l k).isSome = true)
def Grow (dn dn' : MapI) : Prop := ∀ k, 0 < gv dn k → gv dn' k = gv dn k
def Good (l : List NodeS) (dn : MapI) : Prop := ∀ k, 0 < gv dn k → ∃ x, findP l k = some x ∧ gv dn k = 1 + hmax (gv dn) (goesP x) 0 ∧ ∀ t ∈ goesP x, (findP l t).isSome = true → 0 < gv dn t
def IsRank (l : List NodeS) (rank : Int → Nat) : Prop := ∀ k x, findP l k = some x → ∀ t ∈ goesP x, (findP l t).isSome = true → rank t < rank k

theorem Grow.refl (dn : MapI) : Grow dn dn := fun _ _ => rfl
theorem Grow.trans {a b c : MapI} (h : Grow a b) (k : Grow b c) : Grow a c := fun i hi => (k i (by rw [h i hi]; exact hi)).trans (h i hi)
theorem Grow.cnt {l : List NodeS} {a b : MapI} (h : Grow a b) : cnt l a ≤ cnt l b := by
  unfold Go.AMach.cnt
  refine List.countP_mono_left fun x _ hx => ?_
  simp only [decide_eq_true_eq] at hx ⊢
  rw [h _ hx]; exact hx
theorem cnt_le (l : List NodeS) (dn : MapI) : cnt l dn ≤ l.length := List.countP_le_length
theorem free_congr {l : List NodeS} {a b : MapI} (h : ∀ k, gv a k = gv b k) : free l a = free l b := by
  unfold free
  exact List.countP_congr fun x _ => by rw [h]

theorem countP_lt {α : Type} {p q : α → Bool} : ∀ {l : List α}, (∀ x ∈ l, p x = true → q x = true) → (∃ x ∈ l, q x = true ∧ p x = false) → l.countP p < l.countP q
  | [], _, h => by obtain ⟨x, hx, _⟩ := h; cases hx
  | y :: l, h1, h2 => by
    have hle : l.countP p ≤ l.countP q := List.countP_mono_left fun x hx => h1 x (List.mem_cons_of_mem _ hx)
    obtain ⟨x, hx, hq, hp⟩ := h2
    rcases List.mem_cons.1 hx with rfl | hx
    · rw [List.countP_cons_of_neg (by simp [hp]), List.countP_cons_of_pos hq]; omega
    · have ih := countP_lt (l := l) (fun x hx => h1 x (List.mem_cons_of_mem _ hx)) ⟨x, hx, hq, hp⟩
      have hy := h1 y List.mem_cons_self
      rw [List.countP_cons, List.countP_cons]
      cases hpy : p y
      · simp; split <;> omega
      · rw [hy hpy]; simp; exact ih

abbrev wres (r : Int) (l : List NodeS) (on : MapI) (w : Bool) (dn : MapI) : RS ro_z0d rh_z0d := ((r, ()), ((l, ()), (((), ()), (on, ((w, ()), (((), ()), (dn, (((), ()), ()))))))))

structure WalkPost (l : List NodeS) (id : Int) (on : MapI) (w : Bool) (dn : MapI) (r : Int) (on' : MapI) (w' : Bool) (dn' : MapI) : Prop where
  onS : ∀ k, gv on' k = gv on k
  dnOk : DnOk l dn'
  grow : Grow dn dn'
  keep : ∀ s, 0 < gv on s → gv dn' s = gv dn s
  r0 : 0 ≤ r
  r1 : r ≤ cnt l dn'
  wt : w' = true → w = true
  good : w' = true → Good l dn → Good l dn' ∧ r = gv dn' id ∧ ((findP l id).isSome = true → 0 < r)
  rank : ∀ rank, IsRank l rank → ((findP l id).isSome = true → ∀ s, 0 < gv on s → rank id < rank s) → w' = w

def WalkOk (l : List NodeS) (q : Int → List NodeS → MapI → Bool → MapI → Option (RS ro_z0d rh_z0d)) (F : Nat) : Prop :=
  ∀ id on w dn, free l on < F → OnOk on → DnOk l dn → ∃ r on' w' dn', q id l on w dn = some (wres r l on' w' dn') ∧ WalkPost l id on w dn r on' w' dn'

structure LoopPost (l : List NodeS) (g : List Int) (most : Int) (on : MapI) (w : Bool) (dn : MapI) (most' : Int) (on' : MapI) (w' : Bool) (dn' : MapI) : Prop where
  onS : ∀ k, gv on' k = gv on k
  dnOk : DnOk l dn'
  grow : Grow dn dn'
  keep : ∀ s, 0 < gv on s → gv dn' s = gv dn s
  m0 : most ≤ most'
  m1 : most ≤ cnt l dn → most' ≤ cnt l dn'
  wt : w' = true → w = true
  good : w' = true → Good l dn → Good l dn' ∧ most' = hmax (gv dn') g most ∧ (∀ t ∈ g, (findP l t).isSome = true → 0 < gv dn' t)
  rank : ∀ rank, IsRank l rank → (∀ t ∈ g, (findP l t).isSome = true → ∀ s, 0 < gv on s → rank t < rank s) → w' = w

theorem L_walk {l : List NodeS} {q : Int → List NodeS → MapI → Bool → MapI → Option (RS ro_z0d rh_z0d)} {F : Nat} (hq : WalkOk l q F) (k : Int → List NodeS → MapI → Bool → MapI → Option Res) (a : Int) (g : List Int) (hg : g.length < 9223372036854775807) :
    ∀ (m i : Nat) (most : Int) (on : MapI) (w : Bool) (dn : MapI), i ≤ g.length → g.length - i < m → free l on < F → OnOk on → DnOk l dn → 
    ∃ most' on' w' dn', L_z0d_1 FUEL q k a g.length (g.length : Int) g m most (i : Int) l on w dn = k most' l on' w' dn' ∧ LoopPost l (g.drop i) most on w dn most' on' w' dn'
  | 0, _, _, _, _, _, _, h, _, _, _ => by omega
  | m + 1, i, most, on, w, dn, hi, hm, hf, ho, hd => by
    show ∃ most' on' w' dn', F_z0d_1 FUEL q k a g.length (g.length : Int) g (L_z0d_1 FUEL q k a g.length (g.length : Int) g m) most (i : Int) l on w dn = k most' l on' w' dn' ∧ _
    unfold F_z0d_1
    by_cases h : i < g.length
    · simp only [cond_dec, toNat_cast]
      rw [if_pos (by omega), if_pos (by omega), drop_rdd (0 : Int) h, i64_succ (by omega)]
      generalize rdd (0 : Int) g i = t
      obtain ⟨r, on1, w1, dn1, hr, hp⟩ := hq t on w dn hf ho hd
      simp only [hr, RS.get, Option.getD_some, Option.isSome_some, cond_true]
      obtain ⟨most', on', w', dn', h1, h2⟩ := L_walk hq k a g hg m (i + 1) (if r > most then r else most) on1 w1 dn1 (by omega) (by omega) (by rw [free_congr hp.onS]; exact hf) (fun k => by rw [hp.onS]; exact ho k) hp.dnOk
      refine ⟨most', on', w', dn', h1, ?_⟩
      have hcnt : cnt l dn1 ≤ cnt l dn' := h2.grow.cnt
      exact {
        onS := fun k => (h2.onS k).trans (hp.onS k)
        dnOk := h2.dnOk
        grow := hp.grow.trans h2.grow
        keep := fun s hs => (h2.keep s (by rw [hp.onS]; exact hs)).trans (hp.keep s hs)
        m0 := by have := h2.m0; split at this <;> omega
        m1 := fun hm => h2.m1 (by
          have := hp.grow.cnt (l := l)
          have := hp.r1
          split <;> omega)
        wt := fun hw => hp.wt (h2.wt hw)
        good := fun hw hgd => by
          obtain ⟨g1, g2, g3⟩ := hp.good (h2.wt hw) hgd
          obtain ⟨k1, k2, k3⟩ := h2.good hw g1
          have hv : gv dn' t = r := by
            by_cases hft : (findP l t).isSome = true
            · have := g3 hft
              rw [g2] at this ⊢
              exact h2.grow t this
            · have e1 : ∀ d, DnOk l d → gv d t = 0 := fun d hd => by
                have := hd t
                have h3 := this.2.2
                by_cases hpos : 0 < gv d t
                · exact absurd (h3 hpos) hft
                · omega
              rw [e1 dn' h2.dnOk, g2, e1 dn1 hp.dnOk]
          refine ⟨k1, ?_, ?_⟩
          · rw [hmax_cons, hv]; exact k2
          · intro u hu hfu
            rcases List.mem_cons.1 hu with rfl | hu
            · rw [hv]; exact g3 hfu
            · exact k3 u hu hfu
        rank := fun rank hr hs => by
          rw [h2.rank rank hr fun u hu hfu s hs' => hs u (List.mem_cons_of_mem _ hu) hfu s (by rw [← hp.onS]; exact hs')]
          exact hp.rank rank hr fun hft s hs' => hs t List.mem_cons_self hft s hs' }
    · simp only [cond_dec]
      rw [if_neg (by omega), List.drop_of_length_le (by omega)]
      exact ⟨most, on, w, dn, rfl, ⟨fun _ => rfl, hd, Grow.refl _, fun _ _ => rfl, Int.le_refl _, fun h => h, fun h => h, fun _ hgd => ⟨hgd, rfl, fun t ht => by cases ht⟩, fun _ _ _ => rfl⟩⟩

theorem walk_ok (l : List NodeS) (hl : l.length ≤ 32) (ha : ∀ x ∈ l, (nArms x).length < 100000) : ∀ dp, WalkOk l (Qd_z0d dp) dp
  | 0 => fun id on w dn hf => by omega
  | dp + 1 => fun id on w dn hf ho hd => by
    have ih := walk_ok l hl ha dp
    show ∃ r on' w' dn', decRes ro_z0d rh_z0d (M_z0d FUEL (Qd_z0d dp) id l on w dn) = some (wres r l on' w' dn') ∧ _
    unfold M_z0d
    simp only [ok_z0b, q_z0b, Q_Find l id (by omega), RS.get, Option.getD_some, Option.isSome_some, cond_true]
    have hb0 : (0 : Int) ≤ cnt l dn := by omega
    cases hfd : findP l id with
    | none =>
      simp only [findV, Bool.not_false, cond_true]
      refine ⟨0, on, w, dn, fin rfl, ⟨fun _ => rfl, hd, Grow.refl _, fun _ _ => rfl, Int.le_refl _, hb0, fun h => h, fun _ hgd => ⟨hgd, ?_, fun h => (by rw [hfd] at h; cases h)⟩, fun _ _ _ => rfl⟩⟩
      have := hd id
      by_cases hp : 0 < gv dn id
      · have := this.2.2 hp; rw [hfd] at this; cases this
      · omega
    | some x =>
      obtain ⟨hxm, hxid⟩ := findP_some hfd
      simp only [findV, Bool.not_true, cond_false, cond_dec, ok_z0a, q_z0a, Q_goes x (ha x hxm), RS.get, Option.getD_some, Option.isSome_some, cond_true]
      rw [show (on id).getD 0 = gv on id from rfl, show (dn id).getD 0 = gv dn id from rfl]
      by_cases hon : gv on id > 0
      · rw [if_pos hon]
        refine ⟨0, on, false, dn, fin rfl, ⟨fun _ => rfl, hd, Grow.refl _, fun _ _ => rfl, Int.le_refl _, hb0, fun h => (by cases h), fun h => (by cases h), fun rank hr hs => ?_⟩⟩
        exact absurd (hs (by rw [hfd]; rfl) id hon) (by omega)
      rw [if_neg hon]
      have hon0 : gv on id = 0 := by rcases ho id with h | h <;> omega
      by_cases hdn : gv dn id > 0
      · rw [if_pos hdn]
        refine ⟨gv dn id, on, w, dn, fin rfl, ⟨fun _ => rfl, hd, Grow.refl _, fun _ _ => rfl, by omega, (hd id).2.1, fun h => h, fun _ hgd => ⟨hgd, rfl, fun _ => hdn⟩, fun _ _ _ => rfl⟩⟩
      rw [if_neg hdn]
      have hdn0 : gv dn id = 0 := by have := (hd id).1; omega
      -- the loop
      have hgl : (goesP x).length < 9223372036854775807 := by have := ha x hxm; simp [goesP]; omega
      rw [hon0, show IntKind.wrap .i64 ((0 : Int) + 1) = 1 from by rw [IntWalk.i64_in _ (by omega)]; rfl]
      have hon1 : ∀ k, gv (setM on id 1) k = if k = id then 1 else gv on k := gv_set on id 1
      have hfree : free l (setM on id 1) < free l on := by
        unfold free
        refine countP_lt (fun y _ hy => ?_) ⟨x, hxm, ?_, ?_⟩
        · simp only [decide_eq_true_eq] at hy ⊢
          rw [hon1] at hy
          split at hy
          · omega
          · exact hy
        · simp [hxid, hon0]
        · simp [hxid, hon1]
      obtain ⟨most, on1, w1, dn1, h1, hp⟩ := L_walk ih (fun y4 y5 y6 y7 y8 => some (encRes ro_z0d rh_z0d (((IntKind.wrap .i64 (y4 + (1 : Int))), ()), ((y5, ()), (((), ()), ((fun i => if i = id then some (IntKind.wrap .i64 ((Option.getD (y6 id) (0 : Int)) - (1 : Int))) else y6 i), ((y7, ()), (((), ()), ((fun i => if i = id then some (IntKind.wrap .i64 (y4 + (1 : Int))) else y8 i), (((), ()), ())))))))))) id (goesP x) hgl FUEL 0 0 (setM on id 1) w dn (by omega) (by unfold FUEL; omega) (by omega)
        (fun k => by rw [hon1]; split; exact .inr rfl; exact ho k) hd
      rw [List.drop_zero] at hp
      have hmost1 : most ≤ cnt l dn1 := hp.m1 (by omega)
      have hcl := cnt_le l dn1
      have hmost0 := hp.m0
      have hw1 : IntKind.wrap .i64 (most + 1) = most + 1 := IntWalk.i64_in _ (by omega)
      have hon2 : gv on1 id = 1 := by rw [hp.onS, hon1, if_pos rfl]
      have hdn1 : gv dn1 id = 0 := by rw [hp.keep id (by rw [hon1, if_pos rfl]; omega)]; exact hdn0
      refine ⟨most + 1, setM on1 id 0, w1, setM dn1 id (most + 1), ?_, ?_⟩
      · refine fin ?_
        refine Eq.trans h1 ?_
        have e1 : IntKind.wrap .i64 ((on1 id).getD 0 - 1) = 0 := by
          rw [show (on1 id).getD 0 = gv on1 id from rfl, hon2, IntWalk.i64_in _ (by omega)]; rfl
        rw [e1, hw1]
        rfl
      have hd2 : ∀ k, gv (setM dn1 id (most + 1)) k = if k = id then most + 1 else gv dn1 k := gv_set dn1 id (most + 1)
      have hcnt2 : cnt l dn1 < cnt l (setM dn1 id (most + 1)) := by
        unfold cnt
        refine countP_lt (fun y _ hy => ?_) ⟨x, hxm, ?_, ?_⟩
        · simp only [decide_eq_true_eq] at hy ⊢
          rw [hd2]
          split
          · omega
          · exact hy
        · simp [hxid, hd2]; omega
        · simp [hxid, hdn1]
      have hnot : w1 = true → Good l dn → ∀ y k, findP l k = some y → (0 < gv dn1 k ∨ k = id) → id ∉ goesP y := fun hw hgd y k hy hk hmem => by
        obtain ⟨k1, _, k3⟩ := hp.good hw hgd
        rcases hk with hk | rfl
        · obtain ⟨y', hy', _, h3⟩ := k1 k hk
          rw [hy] at hy'; cases hy'
          have := h3 id hmem (by rw [hfd]; rfl)
          omega
        · rw [hfd] at hy; cases hy
          have := k3 k hmem (by rw [hfd]; rfl)
          omega
      exact {
        onS := fun k => by
          rw [gv_set]
          by_cases hk : k = id
          · rw [if_pos hk, hk, hon0]
          · rw [if_neg hk, hp.onS, hon1, if_neg hk]
        dnOk := fun k => by
          rw [hd2]
          by_cases hk : k = id
          · rw [if_pos hk]
            exact ⟨by omega, by omega, fun _ => by rw [hk, hfd]; rfl⟩
          · rw [if_neg hk]
            have := hp.dnOk k
            exact ⟨this.1, by omega, this.2.2⟩
        grow := fun k hk => by
          have hk' : k ≠ id := fun e => by rw [e] at hk; omega
          rw [hd2, if_neg hk']; exact hp.grow k hk
        keep := fun s hs => by
          have hs' : s ≠ id := fun e => by rw [e] at hs; omega
          rw [hd2, if_neg hs']; exact hp.keep s (by rw [hon1, if_neg hs']; exact hs)
        r0 := by omega
        r1 := by omega
        wt := hp.wt
        good := fun hw hgd => by
          obtain ⟨k1, k2, k3⟩ := hp.good hw hgd
          refine ⟨fun k hk => ?_, by rw [hd2, if_pos rfl], fun _ => by omega⟩
          rw [hd2] at hk ⊢
          by_cases hki : k = id
          · subst hki
            rw [if_pos rfl]
            refine ⟨x, hfd, ?_, fun t ht hft => ?_⟩
            · have e := hmax_congr (f := gv (setM dn1 k (most + 1))) (g := gv dn1) (l := goesP x) (m0 := 0) fun t ht => by
                rw [hd2, if_neg (fun e : t = k => hnot hw hgd x k hfd (.inr rfl) (e ▸ ht))]
              omega
            · rw [hd2, if_neg (fun e : t = k => hnot hw hgd x k hfd (.inr rfl) (e ▸ ht))]
              exact k3 t ht hft
          · rw [if_neg hki] at hk ⊢
            obtain ⟨y, hy, h4, h5⟩ := k1 k hk
            refine ⟨y, hy, ?_, fun t ht hft => ?_⟩
            · have e := hmax_congr (f := gv (setM dn1 id (most + 1))) (g := gv dn1) (l := goesP y) (m0 := 0) fun t ht => by
                rw [hd2, if_neg (fun e : t = id => hnot hw hgd y k hy (.inl hk) (e ▸ ht))]
              omega
            · rw [hd2, if_neg (fun e : t = id => hnot hw hgd y k hy (.inl hk) (e ▸ ht))]
              exact h5 t ht hft
        rank := fun rank hr hs => hp.rank rank hr fun t ht hft s hs' => by
          have h6 := hr id x hfd t ht hft
          rw [hon1] at hs'
          by_cases hsi : s = id
          · rw [hsi]; exact h6
          · rw [if_neg hsi] at hs'
            exact Nat.lt_trans h6 (hs (by rw [hfd]; rfl) s hs') }

abbrev lres (l : List NodeS) (on : MapI) (w : Bool) (dn : MapI) : RS ro_z0e rh_z0e := (((), (w, ())), ((l, ()), (((), ()), (on, ((w, ()), (((), ()), (dn, (((), ()), ()))))))))

structure AllPost (l r : List NodeS) (w : Bool) (dn : MapI) (on' : MapI) (w' : Bool) (dn' : MapI) : Prop where
  onS : ∀ k, gv on' k = 0
  dnOk : DnOk l dn'
  grow : Grow dn dn'
  wt : w' = true → w = true
  good : w' = true → Good l dn → Good l dn' ∧ ∀ x ∈ r, 0 < gv dn' x.1
  rank : ∀ rank, IsRank l rank → w' = w

theorem free_le (l : List NodeS) (on : MapI) : free l on ≤ l.length := List.countP_le_length

theorem L_longest (k : Bool → List NodeS → MapI → MapI → Option Res) (l : List NodeS) (hl : l.length ≤ 32) (ha : ∀ x ∈ l, (nArms x).length < 100000) : ∀ (m i : Nat) (w : Bool) (on dn : MapI), i ≤ l.length → l.length - i < m → (∀ k, gv on k = 0) → DnOk l dn →
    ∃ w' on' dn', L_z0e_0 FUEL k l (l.length : Int) m (i : Int) w l on dn = k w' l on' dn' ∧ AllPost l (l.drop i) w dn on' w' dn'
  | 0, _, _, _, _, _, h, _, _ => by omega
  | m + 1, i, w, on, dn, hi, hm, ho, hd => by
    show ∃ w' on' dn', F_z0e_0 FUEL k l (l.length : Int) (L_z0e_0 FUEL k l (l.length : Int) m) (i : Int) w l on dn = k w' l on' dn' ∧ _
    unfold F_z0e_0
    by_cases h : i < l.length
    · simp only [cond_dec, toNat_cast]
      have hxm := rdd_mem (d := zNodeS) h
      rw [if_pos (by omega), if_pos (by omega), drop_rdd zNodeS h, i64_succ (by omega)]
      generalize rdd zNodeS l i = x at *
      have hfr := free_le l on
      obtain ⟨r, on1, w1, dn1, hr, hp⟩ := walk_ok l hl ha FUEL x.1 on w dn (by unfold FUEL; omega) (fun k => .inl (ho k)) hd
      have hr' : Q_z0d x.1 l on w dn = some (wres r l on1 w1 dn1) := hr
      simp only [ok_z0d, q_z0d, hr', RS.get, Option.getD_some, Option.isSome_some, cond_true]
      obtain ⟨w', on', dn', h1, h2⟩ := L_longest k l hl ha m (i + 1) w1 on1 dn1 (by omega) (by omega) (fun k => by rw [hp.onS]; exact ho k) hp.dnOk
      refine ⟨w', on', dn', h1, ⟨h2.onS, h2.dnOk, hp.grow.trans h2.grow, fun hw => hp.wt (h2.wt hw), fun hw hgd => ?_, fun rank hr => ?_⟩⟩
      · obtain ⟨g1, g2, g3⟩ := hp.good (h2.wt hw) hgd
        obtain ⟨k1, k2⟩ := h2.good hw g1
        refine ⟨k1, fun y hy => ?_⟩
        rcases List.mem_cons.1 hy with rfl | hy
        · have := g3 (findP_of_mem hxm)
          rw [g2] at this
          rw [h2.grow _ this]; exact this
        · exact k2 y hy
      · rw [h2.rank rank hr]
        exact hp.rank rank hr fun _ s hs => by rw [ho] at hs; omega
    · simp only [cond_dec]
      rw [if_neg (by omega), List.drop_of_length_le (by omega)]
      exact ⟨w, on, dn, rfl, ⟨ho, hd, Grow.refl _, fun h => h, fun _ hgd => ⟨hgd, fun x hx => by cases hx⟩, fun _ _ => rfl⟩⟩

theorem Q_longest (l : List NodeS) (hl : l.length ≤ 32) (ha : ∀ x ∈ l, (nArms x).length < 100000) :
    ∃ w on dn, Q_z0e l = some (lres l on w dn) ∧ (∀ k, gv on k = 0) ∧ DnOk l dn ∧ (w = true → Good l dn ∧ ∀ x ∈ l, 0 < gv dn x.1) ∧ (∀ rank, IsRank l rank → w = true) := by
  obtain ⟨w, on, dn, h1, h2⟩ := L_longest (fun y2 y3 y4 y5 => some (encRes ro_z0e rh_z0e (((), (y2, ())), ((y3, ()), (((), ()), (y4, ((y2, ()), (((), ()), (y5, (((), ()), ())))))))))) l hl ha FUEL 0 true (fun _ => none) (fun _ => none) (by omega) (by unfold FUEL; omega) (fun k => rfl) (fun k => ⟨Int.le_refl _, by show (0 : Int) ≤ _; omega, fun h => by cases h⟩)
  rw [List.drop_zero] at h2
  exact ⟨w, on, dn, fin h1, h2.onS, h2.dnOk, fun hw => h2.good hw (fun k hk => by cases hk), fun rank hr => h2.rank rank hr⟩

/-! -: Heights -/
/-- How many nodes a longest way from each ID on has. -/
structure Hgt (l : List NodeS) (h : Int → Int) : Prop where
  no : ∀ k, findP l k = none → h k = 0
  is : ∀ k x, findP l k = some x → h k = 1 + hmax h (goesP x) 0

theorem Hgt.nonneg {l : List NodeS} {h : Int → Int} (H : Hgt l h) (k : Int) : 0 ≤ h k := by
  cases hf : findP l k with
  | none => rw [H.no k hf]; omega
  | some x => rw [H.is k x hf]; have := hmax_ge0 h (goesP x) 0; omega
theorem Hgt.pos {l : List NodeS} {h : Int → Int} (H : Hgt l h) (k : Int) : 0 < h k ↔ (findP l k).isSome = true := by
  cases hf : findP l k with
  | none => rw [H.no k hf]; simp
  | some x => rw [H.is k x hf]; have := hmax_ge0 h (goesP x) 0; simp; omega
theorem Hgt.lt {l : List NodeS} {h : Int → Int} (H : Hgt l h) {k : Int} {x : NodeS} (hf : findP l k = some x) {t : Int} (ht : t ∈ goesP x) : h t < h k := by
  rw [H.is k x hf]; have := hmax_ge h (goesP x) 0 t ht; omega
theorem Hgt.rank {l : List NodeS} {h : Int → Int} (H : Hgt l h) : IsRank l fun k => (h k).toNat := fun k x hf t ht _ => by
  have := H.lt hf ht
  have := H.nonneg t
  show (h t).toNat < (h k).toNat
  omega
theorem Hgt.unique {l : List NodeS} {h h' : Int → Int} (H : Hgt l h) (H' : Hgt l h') : ∀ k, h k = h' k := by
  have key : ∀ (n : Nat) (k : Int), h k < n → h k = h' k := by
    intro n
    induction n with
    | zero => intro k hk; have := H.nonneg k; omega
    | succ n ih =>
      intro k hk
      cases hf : findP l k with
      | none => rw [H.no k hf, H'.no k hf]
      | some x =>
        rw [H.is k x hf, H'.is k x hf]
        congr 1
        exact hmax_congr fun t ht => ih t (by have := H.lt hf ht; omega)
  exact fun k => key ((h k).toNat + 1) k (by omega)
theorem Hgt.of_good {l : List NodeS} {dn : MapI} (hd : DnOk l dn) (hg : Good l dn) (ha : ∀ x ∈ l, 0 < gv dn x.1) : Hgt l (gv dn) where
  no k hf := by
    have := hd k
    by_cases hp : 0 < gv dn k
    · have := this.2.2 hp; rw [hf] at this; cases this
    · omega
  is k x hf := by
    obtain ⟨hx, rfl⟩ := findP_some hf
    obtain ⟨y, hy, h1, _⟩ := hg x.1 (ha x hx)
    rw [hf] at hy; cases hy
    exact h1

/-- May a graph be? -/
def mayP (l : List NodeS) : Prop := formsOk 0 l ∧ l.length ≤ 32 ∧ refsOk l ∧ ∃ h, Hgt l h

theorem longest_whole {l : List NodeS} (hl : l.length ≤ 32) (ha : ∀ x ∈ l, (nArms x).length < 100000) : ∃ w on dn, Q_z0e l = some (lres l on w dn) ∧ (∀ k, gv on k = 0) ∧ DnOk l dn ∧ (w = true → Good l dn ∧ ∀ x ∈ l, 0 < gv dn x.1) ∧ (w = true ↔ ∃ h, Hgt l h) := by
  obtain ⟨w, on, dn, h1, h2, h3, h4, h5⟩ := Q_longest l hl ha
  exact ⟨w, on, dn, h1, h2, h3, h4, fun hw => ⟨gv dn, Hgt.of_good h3 (h4 hw).1 (h4 hw).2⟩, fun ⟨h, H⟩ => h5 _ H.rank⟩

open Classical in
noncomputable def mayN (l : List NodeS) : Int := if ¬ formsOk 0 l then 3 else if ¬ l.length ≤ 32 then 12 else if ¬ refsOk l then 8 else if ¬ ∃ h, Hgt l h then 10 else 0

theorem mayN_zero {l : List NodeS} : mayN l = 0 ↔ mayP l := by
  unfold mayN mayP
  by_cases h1 : formsOk 0 l
  · by_cases h2 : l.length ≤ 32
    · by_cases h3 : refsOk l
      · by_cases h4 : ∃ h, Hgt l h
        · rw [if_neg (by simp [h1]), if_neg (by simp [h2]), if_neg (by simp [h3]), if_neg (by simp [h4])]
          exact ⟨fun _ => ⟨h1, h2, h3, h4⟩, fun _ => rfl⟩
        · rw [if_neg (by simp [h1]), if_neg (by simp [h2]), if_neg (by simp [h3]), if_pos h4]
          exact ⟨fun h => by omega, fun h => absurd h.2.2.2 h4⟩
      · rw [if_neg (by simp [h1]), if_neg (by simp [h2]), if_pos h3]
        exact ⟨fun h => by omega, fun h => absurd h.2.2.1 h3⟩
    · rw [if_neg (by simp [h1]), if_pos h2]
      exact ⟨fun h => by omega, fun h => absurd h.2.1 h2⟩
  · rw [if_pos h1]
    exact ⟨fun h => by omega, fun h => absurd h.1 h1⟩

/-- What is asked of what comes in. -/
structure Nodes (l : List NodeS) : Prop where
  len : l.length < 9223372036854775807
  arms : ∀ x ∈ l, (nArms x).length < 100000
  g : ∀ x ∈ l, nodeG x

theorem Q_May (l : List NodeS) (hl : Nodes l) : Q_z0f l = some ((mayN l, ()), ()) := by
  refine fin ?_
  unfold M_z0f mayN
  simp only [ok_z09, q_z09, Q_form l hl.len hl.g, ok_z0c, q_z0c, Q_refs l hl.len hl.arms, RS.get, Option.getD_some, Option.isSome_some, cond_true]
  by_cases h1 : formsOk 0 l
  · rw [decide_eq_true h1, Bool.not_true, cond_false, if_neg (by simp [h1])]
    by_cases h2 : l.length ≤ 32
    · rw [cond_dec, if_neg (by omega), if_neg (by simp [h2])]
      by_cases h3 : refsOk l
      · rw [decide_eq_true h3, Bool.not_true, cond_false, if_neg (by simp [h3])]
        obtain ⟨w, on, dn, g1, g2, g3, g4, g5⟩ := longest_whole h2 hl.arms
        simp only [ok_z0e, q_z0e, g1, RS.get, Option.getD_some, Option.isSome_some, cond_true]
        cases w with
        | true => rw [Bool.not_true, cond_false, if_neg (by simp only [Classical.not_not]; exact g5.1 rfl)]
        | false => rw [Bool.not_false, cond_true, if_pos (fun h => by have := g5.2 h; cases this)]
      · rw [decide_eq_false h3, Bool.not_false, cond_true, if_pos h3]
    · rw [cond_dec, if_pos (by omega), if_pos h2]
  · rw [decide_eq_false h1, Bool.not_false, cond_true, if_pos h1]

theorem Hgt.le {l : List NodeS} {h : Int → Int} (hl : l.length ≤ 32) (ha : ∀ x ∈ l, (nArms x).length < 100000) (H : Hgt l h) (k : Int) : h k ≤ l.length := by
  obtain ⟨w, on, dn, g1, g2, g3, g4, g5⟩ := longest_whole hl ha
  have hw := g5.2 ⟨h, H⟩
  have H2 := Hgt.of_good g3 (g4 hw).1 (g4 hw).2
  rw [H.unique H2 k]
  have := (g3 k).2.1
  have := cnt_le l dn
  omega


theorem find_lt {l : List NodeS} (hm : mayP l) {h : Int → Int} (H : Hgt l h) {k : Int} {x : NodeS} (hf : findP l k = some x) {t : Int} (ht : t ∈ goesP x) : h t < h k ∧ (findP l t ≠ none ∨ t = 0 ∨ t = 65535) := by
  refine ⟨H.lt hf ht, ?_⟩
  have := hm.2.2.1 x (findP_some hf).1 t ht
  unfold refOk at this
  simp only [Bool.or_eq_true, decide_eq_true_eq] at this
  rcases this with (h | h) | h
  · left; intro e; rw [e] at h; cases h
  · exact .inr (.inl h)
  · exact .inr (.inr h)
theorem formsOk_mem : ∀ {p : Int} {l : List NodeS}, formsOk p l → ∀ x ∈ l, formP x ∧ p < x.1
  | p, y :: r, h, x, hx => by
    obtain ⟨h1, h2, h3⟩ := h
    rcases List.mem_cons.1 hx with rfl | hx
    · exact ⟨h1, h2⟩
    · have := formsOk_mem h3 x hx
      exact ⟨this.1, by omega⟩
theorem id_range {l : List NodeS} (hm : formsOk 0 l) {k : Int} {x : NodeS} (hf : findP l k = some x) : 1 ≤ k ∧ k ≤ 65534 := by
  obtain ⟨hx, rfl⟩ := findP_some hf
  have := (formsOk_mem hm x hx).1.1
  unfold formL at this
  exact ⟨this.1, this.2.1⟩

/-! -: Next -/
theorem L_Next (kr : Int → Option Res) (kt : Unit → Option Res) (v : Int) (l : List ArmS) (z : NodeS) (hl : l.length < 9223372036854775807) : ∀ (m i : Nat), i ≤ l.length → l.length - i < m →
    (∃ a ∈ l, L_z0u_0 FUEL kr kt v l (l.length : Int) z m (i : Int) = kr a.2.1) ∨ L_z0u_0 FUEL kr kt v l (l.length : Int) z m (i : Int) = kt ()
  | 0, _, _, h => by omega
  | m + 1, i, hi, hm => by
    show (∃ a ∈ l, F_z0u_0 FUEL kr kt v l (l.length : Int) z (L_z0u_0 FUEL kr kt v l (l.length : Int) z m) (i : Int) = kr a.2.1) ∨ F_z0u_0 FUEL kr kt v l (l.length : Int) z (L_z0u_0 FUEL kr kt v l (l.length : Int) z m) (i : Int) = kt ()
    unfold F_z0u_0
    simp only [cond_dec, int_beq, toNat_cast]
    by_cases h : i < l.length
    · rw [if_pos (by omega), if_pos (by omega), i64_succ (by omega)]
      by_cases he : (rdd zArmS l i).1 = v
      · rw [if_pos he]; exact .inl ⟨_, rdd_mem h, rfl⟩
      · rw [if_neg he]; exact L_Next kr kt v l z hl m (i + 1) (by omega) (by omega)
    · rw [if_neg (by omega)]; exact .inr rfl

theorem Q_Next (l : List NodeS) (hl : Nodes l) {id : Int} {x : NodeS} (hf : findP l id = some x) (v : Int) : ∃ t ∈ goesP x, Q_z0u l id v = some ((t, ()), ()) := by
  have hlen := hl.len
  have harm := hl.arms x (findP_some hf).1
  unfold Q_z0u M_z0u
  simp only [ok_z0b, q_z0b, Q_Find l id (by omega), RS.get, Option.getD_some, Option.isSome_some, cond_true, hf, findV]
  rcases L_Next (fun y2 => some (encRes ro_z0u rh_z0u ((y2, ()), ()))) (fun _ => some (encRes ro_z0u rh_z0u ((x.2.2.2.2.2.2.2.2.1, ()), ()))) v (nArms x) x (by omega) FUEL 0 (by omega) (by unfold FUEL; omega) with ⟨a, ha, h⟩ | h
  · exact ⟨a.2.1, List.mem_cons_of_mem _ (List.mem_map.2 ⟨a, ha, rfl⟩), fin h⟩
  · exact ⟨nOther x, List.mem_cons_self, fin h⟩

/-! -: Ways -/
/-! ### What comes in -/
theorem good_len {l : List NodeS} (h : (Ty.slice NodeT).good l) : l.length < 9223372036854775807 := by
  have h1 := h.1
  have : NodeT.minb = 88 := rfl
  rw [this] at h1
  omega
/-! -: GraphEnds -/
end Go.AMach

/- The plain theory of graphs and walks, at this seat. -/

namespace Go.AMach
set_option linter.unusedVariables false
set_option linter.unusedSimpArgs false
set_option linter.unnecessarySimpa false
open Go
set_option linter.unusedVariables false

theorem Q_Left (w : WordS) (k : Int) (hk : -4611686018427387904 ≤ k ∧ k ≤ 4611686018427387904) : Q_z0j w k = some (((q_z0j w k).1.1, ()), ()) := by
  have : ∃ v, Q_z0j w k = some ((v, ()), ()) := by
    have : ∃ v, M_z0j FUEL w k = some (encRes ro_z0j rh_z0j ((v, ()), ())) := by
      unfold M_z0j
      simp only [cond_dec]
      by_cases h1 : k ≤ 0
      · rw [if_pos h1]; exact ⟨_, rfl⟩
      rw [if_neg h1]
      by_cases h2 : k ≥ 64
      · rw [if_pos h2, if_pos (by rw [IntWalk.i64_in _ (by omega)]; omega)]; exact ⟨_, rfl⟩
      · rw [if_neg h2, if_pos (by omega), if_pos (by rw [IntWalk.i64_in _ (by omega)]; omega), if_pos (by omega)]; exact ⟨_, rfl⟩
    obtain ⟨v, hv⟩ := this
    exact ⟨v, fin hv⟩
  obtain ⟨v, hv⟩ := this
  unfold q_z0j
  rw [hv]; rfl

theorem Q_Right (w : WordS) (k : Int) (hk : -4611686018427387904 ≤ k ∧ k ≤ 4611686018427387904) : Q_z0n w k = some (((q_z0n w k).1.1, ()), ()) := by
  have : ∃ v, Q_z0n w k = some ((v, ()), ()) := by
    have : ∃ v, M_z0n FUEL w k = some (encRes ro_z0n rh_z0n ((v, ()), ())) := by
      unfold M_z0n
      simp only [cond_dec]
      by_cases h1 : k ≤ 0
      · rw [if_pos h1]; exact ⟨_, rfl⟩
      rw [if_neg h1]
      by_cases h2 : k ≥ 64
      · rw [if_pos h2, if_pos (by rw [IntWalk.i64_in _ (by omega)]; omega)]; exact ⟨_, rfl⟩
      · rw [if_neg h2, if_pos (by omega), if_pos (by omega), if_pos (by rw [IntWalk.i64_in _ (by omega)]; omega)]; exact ⟨_, rfl⟩
    obtain ⟨v, hv⟩ := this
    exact ⟨v, fin hv⟩
  obtain ⟨v, hv⟩ := this
  unfold q_z0n
  rw [hv]; rfl

theorem Q_New (x : Int) : Q_z0k x = some (((0, (x, ())), ()), ()) := fin rfl
theorem Q_Or (a b : WordS) : Q_z0l a b = some (((q_z0l a b).1.1, ()), ()) := by
  have : ∃ v, Q_z0l a b = some ((v, ()), ()) := ⟨_, fin rfl⟩
  obtain ⟨v, hv⟩ := this
  unfold q_z0l
  rw [hv]; rfl
theorem Q_And (a b : WordS) : Q_z0p a b = some (((q_z0p a b).1.1, ()), ()) := by
  have : ∃ v, Q_z0p a b = some ((v, ()), ()) := ⟨_, fin rfl⟩
  obtain ⟨v, hv⟩ := this
  unfold q_z0p
  rw [hv]; rfl
theorem Q_Not (a : WordS) : Q_z0m a = some (((q_z0m a).1.1, ()), ()) := by
  have : ∃ v, Q_z0m a = some ((v, ()), ()) := ⟨_, fin rfl⟩
  obtain ⟨v, hv⟩ := this
  unfold q_z0m
  rw [hv]; rfl
theorem Q_Mask (k : Int) : Q_z0o k = some (((q_z0o k).1.1, ()), ()) := by
  have : ∃ v, Q_z0o k = some ((v, ()), ()) := by
    have : ∃ v, M_z0o FUEL k = some (encRes ro_z0o rh_z0o ((v, ()), ())) := by
      unfold M_z0o
      simp only [ok_z0m, Q_Not, Option.isSome_some, cond_true]
      generalize hy : (if (128 : Int) < (if (0 : Int) > k then (0 : Int) else k) then (128 : Int) else (if (0 : Int) > k then (0 : Int) else k)) = y
      have h0 : 0 ≤ y ∧ y ≤ 128 := by
        subst hy
        split <;> split <;> omega
      simp only [ok_z0n]
      rw [Q_Right _ _ (by rw [IntWalk.i64_in _ (by omega)]; omega)]
      exact ⟨_, rfl⟩
    obtain ⟨v, hv⟩ := this
    exact ⟨v, fin hv⟩
  obtain ⟨v, hv⟩ := this
  unfold q_z0o
  rw [hv]; rfl
theorem Q_Cut (a : WordS) (k : Int) : Q_z0q a k = some (((q_z0q a k).1.1, ()), ()) := by
  have : ∃ v, Q_z0q a k = some ((v, ()), ()) := by
    have : ∃ v, M_z0q FUEL a k = some (encRes ro_z0q rh_z0q ((v, ()), ())) := by
      unfold M_z0q
      simp only [ok_z0o, Q_Mask, ok_z0p, Q_And, Option.isSome_some, cond_true]
      exact ⟨_, rfl⟩
    obtain ⟨v, hv⟩ := this
    exact ⟨v, fin hv⟩
  obtain ⟨v, hv⟩ := this
  unfold q_z0q
  rw [hv]; rfl

/-! -: Get -/
noncomputable def absorb (w : WordS) (b : Int) : WordS := (q_z0l (q_z0j w 8).1.1 (q_z0k (IntKind.wrap .u64 b)).1.1).1.1
/-- Bytes taken in, one behind the other. -/
noncomputable def absorbs (bf : Nat → Int) (f : Nat) : Nat → WordS → WordS
  | 0, w => w
  | c + 1, w => absorbs bf (f + 1) c (absorb w (bf f))
theorem absorbs_congr {bf bg : Nat → Int} : ∀ (c f : Nat) (w : WordS), (∀ i, f ≤ i → i < f + c → bf i = bg i) → absorbs bf f c w = absorbs bg f c w
  | 0, f, w, h => rfl
  | c + 1, f, w, h => by
    simp only [absorbs]
    rw [h f (by omega) (by omega)]
    exact absorbs_congr c (f + 1) _ fun i h1 h2 => h i (by omega) (by omega)

theorem L_Get (k : WordS → Option Res) (s : ByteArray) (a1 a2 la : Int) (z : WordS) (f c : Nat) (hc : f + c ≤ s.size) (hs : s.size < 1000000000) : ∀ (m i : Nat) (acc : WordS), i ≤ c → c - i < m →
    L_z0r_0 FUEL k s a1 a2 (f : Int) la (c : Int) z m (i : Int) acc = k (absorbs (byteAt s) (f + i) (c - i) acc)
  | 0, _, _, _, h => by omega
  | m + 1, i, acc, hi, hm => by
    show F_z0r_0 FUEL k s a1 a2 (f : Int) la (c : Int) z (L_z0r_0 FUEL k s a1 a2 (f : Int) la (c : Int) z m) (i : Int) acc = _
    unfold F_z0r_0
    simp only [cond_dec]
    by_cases h : i < c
    · rw [if_pos (by omega)]
      have hw : IntKind.wrap .i64 ((f : Int) + (i : Int)) = ((f + i : Nat) : Int) := by rw [IntWalk.i64_in _ (by omega)]; omega
      simp only [hw, toNat_cast, ok_z0j, Q_Left acc 8 (by omega), ok_z0k, Q_New, ok_z0l, Q_Or, Option.isSome_some, cond_true]
      rw [if_pos (by omega), i64_succ (by omega)]
      have := L_Get k s a1 a2 la z f c hc hs m (i + 1) (absorb acc (byteAt s (f + i))) (by omega) (by omega)
      rw [show c - i = (c - (i + 1)) + 1 by omega]
      simp only [absorbs]
      rw [show f + i + 1 = f + (i + 1) by omega, ← this]
      rfl
    · rw [if_neg (by omega), show c - i = 0 by omega]
      rfl

/-- What is read. -/
noncomputable def getP (bf : Nat → Int) (off w : Nat) : WordS :=
  let e := (off + w + 7) / 8
  let d : Nat := e * 8 - off - w
  (q_z0q (q_z0l (q_z0j (absorbs bf (off / 8) (e - off / 8 - 1) (0, (0, ()))) ((8 - d : Nat) : Int)).1.1 (q_z0k (IntKind.wrap .u64 (Int.fdiv (bf (e - 1)) (2 ^ (min d 8))))).1.1).1.1 (w : Int)).1.1

theorem getP_congr {bf bg : Nat → Int} {off w : Nat} (hw : 1 ≤ w) (h : ∀ i, i < (off + w + 7) / 8 → bf i = bg i) : getP bf off w = getP bg off w := by
  unfold getP
  simp only []
  rw [absorbs_congr (bg := bg) _ _ _ (fun i h1 h2 => h i (by omega)), h ((off + w + 7) / 8 - 1) (by omega)]

theorem Q_fmay (s : ByteArray) (off w : Nat) (hs : s.size < 1000000000) (h1 : 1 ≤ w) (h2 : w ≤ 128) (h3 : off < 1000000000) : Q_z0i s (off : Int) (w : Int) = some ((if off + w ≤ 8 * s.size then 0 else 4, ()), ()) := by
  refine fin ?_
  unfold M_z0i
  simp only [cond_dec]
  rw [if_neg (by omega), if_neg (by omega), if_neg (by omega)]
  have hw : IntKind.wrap .i64 (IntKind.wrap .i64 (8 * (s.size : Int)) - (w : Int)) = 8 * (s.size : Int) - w := by
    rw [IntWalk.i64_in (8 * (s.size : Int)) (by omega), IntWalk.i64_in _ (by omega)]
  rw [hw]
  by_cases h : off + w ≤ 8 * s.size
  · rw [if_neg (by omega), if_pos h]
  · rw [if_pos (by omega), if_neg h]

theorem Q_Get (s : ByteArray) (off w : Nat) (hs : s.size < 1000000000) (h1 : 1 ≤ w) (h2 : w ≤ 128) (h3 : off < 1000000000) :
    Q_z0r s (off : Int) (w : Int) = some (if off + w ≤ 8 * s.size then (getP (byteAt s) off w, (0, ())) else ((0, (0, ())), (4, ())), ()) := by
  refine fin ?_
  unfold M_z0r
  simp only [ok_z0i, q_z0i, Q_fmay s off w hs h1 h2 h3, RS.get, Option.getD_some, Option.isSome_some, cond_true, int_bne]
  by_cases h : off + w ≤ 8 * s.size
  · rw [if_pos h]
    simp only [decide_true, Bool.not_true, cond_false, if_pos h]
    have e1 : IntKind.wrap .i64 (IntKind.wrap .i64 (IntKind.wrap .i64 ((off : Int) + (w : Int)) + 8) - 1) = ((off + w + 7 : Nat) : Int) := by
      rw [IntWalk.i64_in ((off : Int) + w) (by omega), IntWalk.i64_in ((off : Int) + w + 8) (by omega), IntWalk.i64_in _ (by omega)]; omega
    have e2 : IntKind.wrap .i64 (Int.tdiv ((off + w + 7 : Nat) : Int) 8) = (((off + w + 7) / 8 : Nat) : Int) := by
      rw [Int.tdiv_eq_ediv_of_nonneg (by omega), IntWalk.i64_in _ (by omega)]; omega
    have e3 : IntKind.wrap .i64 (Int.tdiv (off : Int) 8) = ((off / 8 : Nat) : Int) := by
      rw [Int.tdiv_eq_ediv_of_nonneg (by omega), IntWalk.i64_in _ (by omega)]; omega
    have e4 : IntKind.wrap .i64 (IntKind.wrap .i64 ((((off + w + 7) / 8 : Nat) : Int) - ((off / 8 : Nat) : Int)) - 1) = (((off + w + 7) / 8 - off / 8 - 1 : Nat) : Int) := by
      rw [IntWalk.i64_in ((((off + w + 7) / 8 : Nat) : Int) - ((off / 8 : Nat) : Int)) (by omega), IntWalk.i64_in _ (by omega)]; omega
    have e5 : IntKind.wrap .i64 (IntKind.wrap .i64 (IntKind.wrap .i64 ((((off + w + 7) / 8 : Nat) : Int) * 8) - (off : Int)) - (w : Int)) = (((off + w + 7) / 8 * 8 - off - w : Nat) : Int) := by
      rw [IntWalk.i64_in ((((off + w + 7) / 8 : Nat) : Int) * 8) (by omega), IntWalk.i64_in ((((off + w + 7) / 8 : Nat) : Int) * 8 - off) (by omega), IntWalk.i64_in _ (by omega)]; omega
    have e6 : IntKind.wrap .i64 (8 - (((off + w + 7) / 8 * 8 - off - w : Nat) : Int)) = ((8 - ((off + w + 7) / 8 * 8 - off - w) : Nat) : Int) := by
      rw [IntWalk.i64_in _ (by omega)]; omega
    have e7 : IntKind.wrap .i64 ((((off + w + 7) / 8 : Nat) : Int) - 1) = (((off + w + 7) / 8 - 1 : Nat) : Int) := by
      rw [IntWalk.i64_in _ (by omega)]; omega
    have h8 : ((8 : Int) != 0) = true := by decide
    simp only [e1, e2, e3, e4, h8, cond_true]
    refine Eq.trans (L_Get _ s _ _ _ _ (off / 8) ((off + w + 7) / 8 - off / 8 - 1) (by omega) hs FUEL 0 _ (by omega) (by unfold FUEL; omega)) ?_
    simp only [e5, e6, e7, toNat_cast, Nat.add_zero, Nat.sub_zero, ok_z0j, Q_Left _ ((8 - ((off + w + 7) / 8 * 8 - off - w) : Nat) : Int) (by omega), ok_z0k, Q_New, ok_z0l, Q_Or, ok_z0q, Q_Cut, Option.isSome_some, cond_true, cond_dec]
    rw [if_pos (by omega), if_pos (by omega)]
    rfl
  · rw [if_neg h]
    simp only [if_neg h]
    rfl

theorem byteAt_extract {s : ByteArray} {a i : Nat} (h : a + i < s.size) : byteAt (s.extract a s.size) i = byteAt s (a + i) := by
  unfold byteAt
  rw [List.getD_eq_getElem?_getD, List.getD_eq_getElem?_getD]
  have hs : (s.extract a s.size).data = s.data.extract a s.size := by simp
  rw [hs]
  have hsz : s.size = s.data.size := rfl
  have e1 : (s.data.extract a s.size).toList[i]? = s.data.toList[a + i]? := by
    rw [Array.getElem?_toList, Array.getElem?_toList, Array.getElem?_extract, if_pos (by rw [hsz] at h ⊢; omega)]
  rw [e1]
theorem size_extract {s : ByteArray} {a : Nat} : (s.extract a s.size).size = s.size - a := by simp

/-- The number of bits of a text, from a byte on. -/
noncomputable def numV (s : ByteArray) (at_ : Int) (off w : Nat) : Int × Bool :=
  if 0 ≤ at_ ∧ at_ ≤ (s.size : Int) ∧ off + w ≤ 8 * (s.size - at_.toNat) then (IntKind.wrap .i64 (getP (fun i => byteAt s (at_.toNat + i)) off w).2.1, true) else (0, false)

theorem Q_number (s : ByteArray) (at_ : Int) (off w : Nat) (hs : s.size < 1000000000) (h1 : 1 ≤ w) (h2 : w ≤ 128) (h3 : off < 1000000000) :
    Q_z0s s at_ (off : Int) (w : Int) = some (((numV s at_ off w).1, ((numV s at_ off w).2, ())), ()) := by
  refine fin ?_
  unfold M_z0s numV
  simp only [cond_dec]
  by_cases a1 : at_ < 0
  · rw [if_pos a1, if_neg (by omega)]
  rw [if_neg a1]
  by_cases a2 : at_ > (s.size : Int)
  · rw [if_pos a2, if_neg (by omega)]
  rw [if_neg a2, if_pos (by omega)]
  obtain ⟨a, rfl⟩ := Int.eq_ofNat_of_zero_le (Int.not_lt.1 a1)
  simp only [Int.ofNat_eq_natCast, toNat_cast] at *
  have hQ := Q_Get (s.extract a s.size) off w (by rw [size_extract]; omega) h1 h2 h3
  rw [size_extract] at hQ
  simp only [ok_z0r, q_z0r, hQ, RS.get, Option.getD_some, Option.isSome_some, cond_true]
  by_cases h : off + w ≤ 8 * (s.size - a)
  · rw [if_pos h, if_pos ⟨by omega, by omega, h⟩]
    have : getP (byteAt (s.extract a s.size)) off w = getP (fun i => byteAt s (a + i)) off w := getP_congr h1 fun i hi => byteAt_extract (by omega)
    rw [this]
    rfl
  · rw [if_neg h, if_neg (fun k => h k.2.2)]
    rfl

def mayL (x : NodeS) : Prop := (0 ≤ x.2.1 ∧ x.2.1 ≤ 256) ∧ (0 ≤ x.2.2.1 ∧ x.2.2.1 ≤ 2048) ∧ (0 ≤ x.2.2.2.1 ∧ x.2.2.2.1 ≤ 16) ∧ (if x.2.2.2.1 = 0 then x.2.2.1 = 0 ∧ x.2.2.2.2.1 = 0 else 1 ≤ x.2.2.2.2.1 ∧ x.2.2.2.2.1 ≤ 256)
instance (x : NodeS) : Decidable (mayL x) := by unfold mayL; infer_instance

theorem Q_wmay (x : NodeS) : Q_z0h x = some ((decide (mayL x), ()), ()) := by
  refine fin ?_
  unfold M_z0h
  simp only [cond_dec, int_beq]
  have no : ¬ mayL x → some (encRes ro_z0h rh_z0h ((false, ()), ())) = some (encRes ro_z0h rh_z0h ((decide (mayL x), ()), ())) := fun h => by rw [decide_eq_false h]
  refine ite_eq (fun h => no fun k => ?_) fun c1 => ?_
  · have := k.1; omega
  refine ite_eq (fun h => no fun k => ?_) fun c2 => ?_
  · have := k.1; omega
  refine ite_eq (fun h => no fun k => ?_) fun c3 => ?_
  · have := k.2.1; omega
  refine ite_eq (fun h => no fun k => ?_) fun c4 => ?_
  · have := k.2.1; omega
  refine ite_eq (fun h => no fun k => ?_) fun c5 => ?_
  · have := k.2.2.1; omega
  refine ite_eq (fun h => no fun k => ?_) fun c6 => ?_
  · have := k.2.2.1; omega
  have base : ∀ (b : Prop) [Decidable b], (b ↔ (if x.2.2.2.1 = 0 then x.2.2.1 = 0 ∧ x.2.2.2.2.1 = 0 else 1 ≤ x.2.2.2.2.1 ∧ x.2.2.2.2.1 ≤ 256)) → some (encRes ro_z0h rh_z0h ((decide b, ()), ())) = some (encRes ro_z0h rh_z0h ((decide (mayL x), ()), ())) := fun b _ hb => by
    have : (b ↔ mayL x) := by
      rw [hb]
      unfold mayL
      constructor
      · exact fun h => ⟨by omega, by omega, by omega, h⟩
      · exact fun h => h.2.2.2
    rw [decide_eq_decide.2 this]
  refine ite_eq (fun c7 => ?_) fun c7 => ?_
  · refine ite_eq (fun c8 => base _ ?_) fun c8 => no fun k => ?_
    · rw [if_pos c7]; simp [c8]
    · have := k.2.2.2; rw [if_pos c7] at this; exact c8 this.1
  · refine ite_eq (fun c8 => base _ ?_) fun c8 => no fun k => ?_
    · rw [if_neg c7]
      exact ⟨fun h => ⟨by omega, h⟩, fun h => h.2⟩
    · have := k.2.2.2; rw [if_neg c7] at this; omega

def finV (s : ByteArray) (at_ sz : Int) : Int × Int :=
  if sz > 256 then (0, 2) else if at_ < 0 then (0, 1) else if at_ > (s.size : Int) then (0, 1) else if sz > (s.size : Int) - at_ then (0, 1) else (sz, 0)
noncomputable def sizeV (x : NodeS) (s : ByteArray) (at_ : Int) : Int × Int :=
  if ¬ mayL x then (0, 4) else
  if x.2.2.2.1 > 0 then
    if (numV s at_ x.2.2.1.toNat x.2.2.2.1.toNat).2 = false then (0, 1) else finV s at_ (IntKind.wrap .i64 (x.2.1 + IntKind.wrap .i64 (x.2.2.2.2.1 * (numV s at_ x.2.2.1.toNat x.2.2.2.1.toNat).1)))
  else finV s at_ x.2.1

theorem fin_size (s : ByteArray) (at_ sz : Int) (hs : s.size < 1000000000) :
    (cond (decide (sz > 256)) (some (encRes ro_z0t rh_z0t ((0, (2, ())), ())))
      (cond (decide (at_ < 0)) (some (encRes ro_z0t rh_z0t ((0, (1, ())), ())))
      (cond (decide (at_ > (s.size : Int))) (some (encRes ro_z0t rh_z0t ((0, (1, ())), ())))
      (cond (decide (sz > IntKind.wrap .i64 ((s.size : Int) - at_))) (some (encRes ro_z0t rh_z0t ((0, (1, ())), ())))
      (some (encRes ro_z0t rh_z0t ((sz, (0, ())), ()))))))) = some (encRes ro_z0t rh_z0t (((finV s at_ sz).1, ((finV s at_ sz).2, ())), ())) := by
  unfold finV
  simp only [cond_dec]
  refine ite_eq (fun h => by rw [if_pos h]) fun h1 => ?_
  refine ite_eq (fun h => by rw [if_neg h1, if_pos h]) fun h2 => ?_
  refine ite_eq (fun h => by rw [if_neg h1, if_neg h2, if_pos h]) fun h3 => ?_
  rw [IntWalk.i64_in _ (by omega)]
  refine ite_eq (fun h => by rw [if_neg h1, if_neg h2, if_neg h3, if_pos h]) fun h4 => ?_
  rw [if_neg h1, if_neg h2, if_neg h3, if_neg h4]

theorem Q_Size (x : NodeS) (s : ByteArray) (at_ : Int) (hs : s.size < 1000000000) : Q_z0t x s at_ = some (((sizeV x s at_).1, ((sizeV x s at_).2, ())), ()) := by
  refine fin ?_
  unfold M_z0t sizeV
  simp only [ok_z0h, q_z0h, Q_wmay, RS.get, Option.getD_some, Option.isSome_some, cond_true]
  by_cases hm : mayL x
  · rw [if_neg (fun h => h hm)]
    simp only [hm, decide_true, Bool.not_true, cond_false]
    by_cases hw : x.2.2.2.1 > 0
    · rw [if_pos hw]
      simp only [hw, decide_true, cond_true]
      have e1 : ((x.2.2.1.toNat : Nat) : Int) = x.2.2.1 := by have := hm.2.1; omega
      have e2 : ((x.2.2.2.1.toNat : Nat) : Int) = x.2.2.2.1 := by omega
      have hQ := Q_number s at_ x.2.2.1.toNat x.2.2.2.1.toNat hs (by omega) (by have := hm.2.2.1; omega) (by have := hm.2.1; omega)
      rw [e1, e2] at hQ
      simp only [ok_z0s, q_z0s, hQ, RS.get, Option.getD_some, Option.isSome_some, cond_true]
      cases hv : (numV s at_ x.2.2.1.toNat x.2.2.2.1.toNat).2 with
      | false => rw [if_pos rfl]; rfl
      | true =>
        rw [if_neg (by simp)]
        simp only [Bool.not_true, cond_false]
        exact fin_size s at_ _ hs
    · rw [if_neg hw]
      simp only [hw, decide_false, cond_false]
      exact fin_size s at_ _ hs
  · rw [if_pos hm]
    simp only [hm, decide_false, Bool.not_false, cond_true]

noncomputable def nextT (l : List NodeS) (x : NodeS) (v : Int) : Int := (q_z0u l x.1 v).1.1
theorem nextT_ok (l : List NodeS) (hl : Nodes l) {x : NodeS} (hf : findP l x.1 = some x) (v : Int) : nextT l x v ∈ goesP x ∧ Q_z0u l x.1 v = some ((nextT l x v, ()), ()) := by
  obtain ⟨t, ht, hq⟩ := Q_Next l hl hf v
  have : nextT l x v = t := by unfold nextT q_z0u; rw [hq]; rfl
  rw [this]; exact ⟨ht, hq⟩
noncomputable def goV (l : List NodeS) (x : NodeS) (v : Int) : Int × Int := if nextT l x v = 65535 then (0, 4) else (nextT l x v, 0)
noncomputable def nextV (l : List NodeS) (x : NodeS) (s : ByteArray) (at_ : Int) : Int × Int :=
  if x.2.2.2.2.2.2.1 > 0 then
    if (numV s at_ x.2.2.2.2.2.1.toNat x.2.2.2.2.2.2.1.toNat).2 = false then (0, 1) else goV l x (IntKind.wrap .u32 (numV s at_ x.2.2.2.2.2.1.toNat x.2.2.2.2.2.2.1.toNat).1)
  else goV l x (IntKind.wrap .u32 0)

theorem Q_next (l : List NodeS) (hl : Nodes l) {x : NodeS} (hf : findP l x.1 = some x) (s : ByteArray) (at_ : Int) (hs : s.size < 1000000000) (h1 : 0 ≤ x.2.2.2.2.2.1 ∧ x.2.2.2.2.2.1 ≤ 2048) (h2 : x.2.2.2.2.2.2.1 ≤ 32) :
    Q_z0v l x s at_ = some (((nextV l x s at_).1, ((nextV l x s at_).2, ())), ()) := by
  refine fin ?_
  unfold M_z0v nextV
  have go : ∀ v, (cond (nextT l x v == 65535) (some (encRes ro_z0v rh_z0v ((0, (4, ())), ()))) (some (encRes ro_z0v rh_z0v ((nextT l x v, (0, ())), ())))) = some (encRes ro_z0v rh_z0v (((goV l x v).1, ((goV l x v).2, ())), ())) := fun v => by
    unfold goV
    rw [int_beq, cond_dec]
    split <;> rfl
  simp only [ok_z0u, q_z0u, fun v => (nextT_ok l hl hf v).2, RS.get, Option.getD_some, Option.isSome_some, cond_true]
  by_cases hw : x.2.2.2.2.2.2.1 > 0
  · rw [if_pos hw]
    simp only [hw, decide_true, cond_true]
    have e1 : ((x.2.2.2.2.2.1.toNat : Nat) : Int) = x.2.2.2.2.2.1 := by omega
    have e2 : ((x.2.2.2.2.2.2.1.toNat : Nat) : Int) = x.2.2.2.2.2.2.1 := by omega
    have hQ := Q_number s at_ x.2.2.2.2.2.1.toNat x.2.2.2.2.2.2.1.toNat hs (by omega) (by omega) (by omega)
    rw [e1, e2] at hQ
    simp only [ok_z0s, q_z0s, hQ, RS.get, Option.getD_some, Option.isSome_some, cond_true]
    cases hv : (numV s at_ x.2.2.2.2.2.1.toNat x.2.2.2.2.2.2.1.toNat).2 with
    | false => rw [if_pos rfl]; rfl
    | true =>
      rw [if_neg (by simp)]
      simp only [Bool.not_true, cond_false]
      exact go _
  · rw [if_neg hw]
    simp only [hw, decide_false, cond_false]
    exact go _

theorem mayP_sel {l : List NodeS} (hm : mayP l) {k : Int} {x : NodeS} (hf : findP l k = some x) : (0 ≤ x.2.2.2.2.2.1 ∧ x.2.2.2.2.2.1 ≤ 2048) ∧ x.2.2.2.2.2.2.1 ≤ 32 := by
  have := (formsOk_mem hm.1 x (findP_some hf).1).1.1
  unfold formL at this
  omega

/-- What is found behind a node that is come to: headers, steps, why. -/
noncomputable def W (l : List NodeS) (s : ByteArray) : Nat → Int → NodeS → List HeadS × (Int × Int)
  | 0, _, _ => ([], (0, 0))
  | f + 1, at_, x =>
    if (sizeV x s at_).2 ≠ 0 then ([], (1, (sizeV x s at_).2)) else
    if (nextV l x s at_).2 ≠ 0 then ([(x.1, (at_, ()))], (1, (nextV l x s at_).2)) else
    match findP l (nextV l x s at_).1 with
    | none => ([(x.1, (at_, ()))], (1, 0))
    | some y => ((x.1, (at_, ())) :: (W l s f (IntKind.wrap .i64 (at_ + (sizeV x s at_).1)) y).1, (1 + (W l s f (IntKind.wrap .i64 (at_ + (sizeV x s at_).1)) y).2.1, (W l s f (IntKind.wrap .i64 (at_ + (sizeV x s at_).1)) y).2.2))

theorem W_bound (l : List NodeS) (s : ByteArray) : ∀ (f : Nat) (at_ : Int) (x : NodeS), (W l s f at_ x).1.length ≤ f ∧ 0 ≤ (W l s f at_ x).2.1 ∧ (W l s f at_ x).2.1 ≤ f
  | 0, at_, x => by simp [W]
  | f + 1, at_, x => by
    simp only [W]
    split
    · simp; omega
    split
    · simp; omega
    split
    · simp; omega
    · rename_i y _
      have := W_bound l s f (IntKind.wrap .i64 (at_ + (sizeV x s at_).1)) y
      simp; omega
theorem W_pos (l : List NodeS) (s : ByteArray) (f : Nat) (at_ : Int) (x : NodeS) : 1 ≤ (W l s (f + 1) at_ x).2.1 := by
  simp only [W]
  split
  · simp
  split
  · simp
  split
  · simp
  · rename_i y _
    have := W_bound l s f (IntKind.wrap .i64 (at_ + (sizeV x s at_).1)) y
    simp; omega

theorem nextV_mem {l : List NodeS} (hl : Nodes l) {x : NodeS} (hf : findP l x.1 = some x) (s : ByteArray) (at_ : Int) (h : (nextV l x s at_).2 = 0) : (nextV l x s at_).1 ∈ goesP x := by
  have go : ∀ v, (goV l x v).2 = 0 → (goV l x v).1 ∈ goesP x := fun v => by
    unfold goV
    split
    · intro h; simp at h
    · intro _; exact (nextT_ok l hl hf v).1
  unfold nextV at h ⊢
  split
  · rename_i hw
    rw [if_pos hw] at h
    split
    · rename_i hv; rw [if_pos hv] at h; simp at h
    · rename_i hv; rw [if_neg hv] at h; exact go _ h
  · rename_i hw
    rw [if_neg hw] at h
    exact go _ h

theorem L_steps (k : Nat → Int → Int → List HeadS → Option Res) (l : List NodeS) (hl : Nodes l) (hm : mayP l) {h : Int → Int} (H : Hgt l h) (s : ByteArray) (hs : s.size < 1000000000) :
    ∀ (f m : Nat) (at_ cnt why : Int) (hd : List HeadS) (x : NodeS), findP l x.1 = some x → (h x.1).toNat ≤ f → f ≤ 64 → f < m → 0 ≤ cnt → cnt + f ≤ 100 → hd.length + f ≤ 100 →
    L_z0w_0 FUEL k k l s m at_ true hd.length cnt why hd x = k (hd ++ (W l s f at_ x).1).length (cnt + (W l s f at_ x).2.1) (W l s f at_ x).2.2 (hd ++ (W l s f at_ x).1)
  | 0, m, at_, cnt, why, hd, x, hf, hh, _, _, _, _, _ => by
    have := (H.pos x.1).2 (by rw [hf]; rfl)
    omega
  | f + 1, 0, at_, cnt, why, hd, x, hf, hh, _, hm', _, _, _ => by omega
  | f + 1, m + 1, at_, cnt, why, hd, x, hf, hh, h64, hm', h1, h2, h3 => by
    show F_z0w_0 FUEL k k l s (L_z0w_0 FUEL k k l s m) at_ true hd.length cnt why hd x = _
    unfold F_z0w_0
    have hsel := mayP_sel hm hf
    have hc : IntKind.wrap .i64 (cnt + 1) = cnt + 1 := IntWalk.i64_in _ (by omega)
    simp only [cond_true, ok_z0t, q_z0t, Q_Size x s at_ hs, ok_z0v, q_z0v, Q_next l hl hf s at_ hs hsel.1 hsel.2, RS.get, Option.getD_some, Option.isSome_some, cutL_all, hc, int_bne]
    simp only [W]
    by_cases hz : (sizeV x s at_).2 = 0
    · rw [if_neg (by simp [hz])]
      simp only [hz, decide_true, Bool.not_true, cond_false]
      have hroom : (decide ((hd.length + 1) * 16 ≤ 2 ^ 46 ∧ hd.length + 1 ≤ 2 ^ 46)) = true := by
        rw [decide_eq_true_eq]; omega
      rw [hroom, cond_true]
      by_cases hn : (nextV l x s at_).2 = 0
      · rw [if_neg (by simp [hn])]
        simp only [hn, decide_true, Bool.not_true, cond_false, ok_z0b, q_z0b, Q_Find l _ hl.len, RS.get, Option.getD_some, Option.isSome_some, cond_true]
        cases hfy : findP l (nextV l x s at_).1 with
        | none =>
          simp only [findV]
          cases m with
          | zero => omega
          | succ m =>
            show F_z0w_0 FUEL k k l s (L_z0w_0 FUEL k k l s m) _ false (hd.length + 1) (cnt + 1) 0 (hd ++ [(x.1, (at_, ()))]) zNodeS = _
            unfold F_z0w_0
            simp
        | some y =>
          simp only [findV]
          obtain ⟨_, hy⟩ := findP_some hfy
          have hlt := H.lt hf (nextV_mem hl hf s at_ hn)
          rw [← hy] at hlt
          have hnn := H.nonneg y.1
          have ih := L_steps k l hl hm H s hs f m (IntKind.wrap .i64 (at_ + (sizeV x s at_).1)) (cnt + 1) 0 (hd ++ [(x.1, (at_, ()))]) y (by rw [hy]; exact hfy) (by omega) (by omega) (by omega) (by omega) (by omega) (by simp; omega)
          rw [show (hd ++ [(x.1, (at_, ()))]).length = hd.length + 1 by simp] at ih
          rw [ih]
          simp only [List.append_assoc, List.singleton_append]
          rw [show cnt + 1 + (W l s f (IntKind.wrap .i64 (at_ + (sizeV x s at_).1)) y).2.1 = cnt + (1 + (W l s f (IntKind.wrap .i64 (at_ + (sizeV x s at_).1)) y).2.1) by omega]
      · rw [if_pos hn]
        simp [hn]
    · rw [if_pos hz]
      simp [hz]

noncomputable def walkV (l : List NodeS) (s : ByteArray) : List HeadS × (Int × Int) :=
  open Classical in if mayP l then (match findP l 1 with | some x => W l s 64 0 x | none => ([], (0, 0))) else ([], (0, 0))

theorem Q_steps (l : List NodeS) (s : ByteArray) : Q_z0g l s = some (((), ()), ((l, ()), ((s, ()), ()))) := fin rfl

theorem Q_Walk (l : List NodeS) (hl : Nodes l) (s : ByteArray) (hs : s.size < 1000000000) : Q_z0x l s = some (((walkV l s).1.length, ((walkV l s).2.1, ((walkV l s).2.2, ()))), ((walkV l s).1, ())) := by
  refine fin ?_
  unfold M_z0x
  simp only [ok_z0f, q_z0f, Q_May l hl, RS.get, Option.getD_some, Option.isSome_some, cond_true, int_bne]
  by_cases hm : mayP l
  · rw [decide_eq_true (mayN_zero.2 hm)]
    simp only [Bool.not_true, cond_false]
    have hw : walkV l s = (match findP l 1 with | some x => W l s 64 0 x | none => ([], (0, 0))) := by unfold walkV; rw [if_pos hm]
    rw [hw]
    obtain ⟨h, H⟩ := hm.2.2.2
    have hsteps : Q_z0w 0 [] 0 0 l s = some (((), (((), ((), ((), ((), ((), ((), ((), ((), ((), ((), ((), ((), ((), ((), ((), ((), ((), ((), ((), ((), ((), ((), ((), ((), ((), ((), ((), ((), ((), ((), ((), ((), ())))))))))))))))))))))))))))))))), (((walkV l s).1.length, ()), ((), (((walkV l s).2.1, ()), (((walkV l s).2.2, ()), ((l, ()), ((s, ()), ((walkV l s).1, ())))))))))) := by
      rw [hw]
      refine fin ?_
      unfold M_z0w
      simp only [ok_z0b, q_z0b, Q_Find l 1 hl.len, RS.get, Option.getD_some, Option.isSome_some, cond_true]
      cases hf : findP l 1 with
      | none => rfl
      | some x =>
        simp only [findV]
        obtain ⟨_, hx⟩ := findP_some hf
        have hle := Hgt.le hm.2.1 hl.arms H x.1
        have h32 := hm.2.1
        have := L_steps (fun y5 y6 y7 y8 => some (encRes ro_z0w rh_z0w ((), (((), ((), ((), ((), ((), ((), ((), ((), ((), ((), ((), ((), ((), ((), ((), ((), ((), ((), ((), ((), ((), ((), ((), ((), ((), ((), ((), ((), ((), ((), ((), ((), ())))))))))))))))))))))))))))))))), ((y5, ()), ((), ((y6, ()), ((y7, ()), ((l, ()), ((s, ()), (y8, ()))))))))))) l hl hm H s hs 64 FUEL 0 0 0 [] x (by rw [hx]; exact hf) (by omega) (by omega) (by unfold FUEL; omega) (by omega) (by omega) (by simp)
        simp only [List.nil_append, List.length_nil, Int.zero_add] at this
        exact this
    simp only [ok_z0g, q_z0g, Q_steps, ok_z0w, q_z0w, hsteps, RS.get, Option.getD_some, Option.isSome_some, cond_true]
    rw [hw]
  · have hn : ¬ mayN l = 0 := fun e => hm (mayN_zero.1 e)
    rw [decide_eq_false hn]
    simp only [Bool.not_false, cond_true]
    have hw : walkV l s = ([], (0, 0)) := by unfold walkV; rw [if_neg hm]
    rw [hw]; rfl

structure Pre (s t : ByteArray) : Prop where
  le : s.size ≤ t.size
  eq : ∀ i, i < s.size → byteAt s i = byteAt t i

theorem numV_mono {s t : ByteArray} (h : Pre s t) {at_ : Int} {off w : Nat} (hw : 1 ≤ w) (hv : (numV s at_ off w).2 = true) : numV t at_ off w = numV s at_ off w := by
  unfold numV at hv ⊢
  by_cases hc : 0 ≤ at_ ∧ at_ ≤ (s.size : Int) ∧ off + w ≤ 8 * (s.size - at_.toNat)
  · have hle := h.le
    rw [if_pos hc, if_pos ⟨hc.1, by omega, by omega⟩]
    have : getP (fun i => byteAt t (at_.toNat + i)) off w = getP (fun i => byteAt s (at_.toNat + i)) off w := getP_congr hw fun i hi => (h.eq _ (by omega)).symm
    rw [this]
  · rw [if_neg hc] at hv; cases hv

theorem finV_mono {s t : ByteArray} (h : Pre s t) {at_ sz : Int} (hv : (finV s at_ sz).2 ≠ 1) : finV t at_ sz = finV s at_ sz := by
  have hle := h.le
  unfold finV at hv ⊢
  by_cases c1 : sz > 256
  · rw [if_pos c1, if_pos c1]
  rw [if_neg c1] at hv ⊢
  rw [if_neg c1]
  by_cases c2 : at_ < 0
  · rw [if_pos c2] at hv; exact absurd rfl hv
  rw [if_neg c2] at hv ⊢
  rw [if_neg c2]
  by_cases c3 : at_ > (s.size : Int)
  · rw [if_pos c3] at hv; exact absurd rfl hv
  rw [if_neg c3] at hv ⊢
  by_cases c4 : sz > (s.size : Int) - at_
  · rw [if_pos c4] at hv; exact absurd rfl hv
  rw [if_neg c4, if_neg (by omega), if_neg (by omega)]

theorem sizeV_mono {s t : ByteArray} (h : Pre s t) {x : NodeS} {at_ : Int} (hv : (sizeV x s at_).2 ≠ 1) : sizeV x t at_ = sizeV x s at_ := by
  unfold sizeV at hv ⊢
  by_cases c1 : ¬ mayL x
  · rw [if_pos c1, if_pos c1]
  rw [if_neg c1] at hv ⊢
  rw [if_neg c1]
  by_cases c2 : x.2.2.2.1 > 0
  · rw [if_pos c2] at hv ⊢
    rw [if_pos c2]
    by_cases c3 : (numV s at_ x.2.2.1.toNat x.2.2.2.1.toNat).2 = false
    · rw [if_pos c3] at hv; exact absurd rfl hv
    · rw [if_neg c3] at hv ⊢
      rw [numV_mono h (by omega) (by simpa using c3), if_neg c3]
      exact finV_mono h hv
  · rw [if_neg c2] at hv ⊢
    rw [if_neg c2]
    exact finV_mono h hv

theorem nextV_mono {s t : ByteArray} (h : Pre s t) {l : List NodeS} {x : NodeS} {at_ : Int} (hv : (nextV l x s at_).2 ≠ 1) : nextV l x t at_ = nextV l x s at_ := by
  unfold nextV at hv ⊢
  by_cases c2 : x.2.2.2.2.2.2.1 > 0
  · rw [if_pos c2] at hv ⊢
    rw [if_pos c2]
    by_cases c3 : (numV s at_ x.2.2.2.2.2.1.toNat x.2.2.2.2.2.2.1.toNat).2 = false
    · rw [if_pos c3] at hv; exact absurd rfl hv
    · rw [if_neg c3]
      rw [numV_mono h (by omega) (by simpa using c3), if_neg c3]
  · rw [if_neg c2, if_neg c2]

/-- What a longer text changes: nothing, but where the shorter one ends. -/
def More (a b : List HeadS × (Int × Int)) : Prop := (∃ t, b.1 = a.1 ++ t) ∧ a.2.1 ≤ b.2.1 ∧ (a.2.2 = 1 ∨ b = a)
theorem More.refl (a : List HeadS × (Int × Int)) : More a a := ⟨⟨[], by simp⟩, Int.le_refl _, .inr rfl⟩

theorem W_mono {s t : ByteArray} (h : Pre s t) (l : List NodeS) : ∀ (f : Nat) (at_ : Int) (x : NodeS), More (W l s f at_ x) (W l t f at_ x)
  | 0, at_, x => More.refl _
  | f + 1, at_, x => by
    have hp := W_pos l t f at_ x
    by_cases hz : (sizeV x s at_).2 = 1
    · have : W l s (f + 1) at_ x = ([], (1, 1)) := by simp [W, hz]
      rw [this]
      exact ⟨⟨_, rfl⟩, hp, .inl rfl⟩
    have es := sizeV_mono h hz
    by_cases hz0 : (sizeV x s at_).2 ≠ 0
    · have e1 : W l s (f + 1) at_ x = ([], (1, (sizeV x s at_).2)) := by simp only [W]; rw [if_pos hz0]
      have e2 : W l t (f + 1) at_ x = ([], (1, (sizeV x s at_).2)) := by simp only [W]; rw [es, if_pos hz0]
      rw [e1, e2]; exact More.refl _
    by_cases hn : (nextV l x s at_).2 = 1
    · have e1 : W l s (f + 1) at_ x = ([(x.1, (at_, ()))], (1, 1)) := by simp only [W]; rw [if_neg hz0, hn]; simp
      have e2 : ∃ r, (W l t (f + 1) at_ x).1 = [(x.1, (at_, ()))] ++ r := by
        simp only [W]
        rw [es, if_neg hz0]
        split
        · exact ⟨[], rfl⟩
        split
        · exact ⟨[], rfl⟩
        · exact ⟨_, rfl⟩
      rw [e1]
      exact ⟨e2, hp, .inl rfl⟩
    have en := nextV_mono h (l := l) hn
    by_cases hn0 : (nextV l x s at_).2 ≠ 0
    · have e1 : W l s (f + 1) at_ x = ([(x.1, (at_, ()))], (1, (nextV l x s at_).2)) := by simp only [W]; rw [if_neg hz0, if_pos hn0]
      have e2 : W l t (f + 1) at_ x = ([(x.1, (at_, ()))], (1, (nextV l x s at_).2)) := by simp only [W]; rw [es, en, if_neg hz0, if_pos hn0]
      rw [e1, e2]; exact More.refl _
    simp only [W]
    rw [es, en, if_neg hz0, if_neg hn0, if_neg hz0, if_neg hn0]
    cases hf : findP l (nextV l x s at_).1 with
    | none => exact More.refl _
    | some y =>
      obtain ⟨⟨r, h1⟩, h2, h3⟩ := W_mono h l f (IntKind.wrap .i64 (at_ + (sizeV x s at_).1)) y
      refine ⟨⟨r, by simp [h1]⟩, by simp; omega, ?_⟩
      rcases h3 with h3 | h3
      · exact .inl h3
      · right; simp only [h3]

theorem walkV_mono {s t : ByteArray} (h : Pre s t) (l : List NodeS) : More (walkV l s) (walkV l t) := by
  unfold walkV
  split
  · split
    · exact W_mono h l 64 0 _
    · exact More.refl _
  · exact More.refl _

theorem walkV_bound (l : List NodeS) (s : ByteArray) : (walkV l s).1.length ≤ 64 ∧ 0 ≤ (walkV l s).2.1 ∧ (walkV l s).2.1 ≤ 64 := by
  unfold walkV
  split
  · split
    · exact W_bound l s 64 0 _
    · simp
  · simp

/-! ### Headers held against each other -/

theorem nodes_of {l : List NodeS} (h : (Ty.slice NodeT).good l) (ha : ∀ x ∈ l, armsN x < 3000) : Nodes l where
  len := good_len h
  arms x hx := by have := ha x hx; unfold armsN at this; unfold nArms; omega
  g x hx := good_node (h.2 x hx)

theorem pre_append (s t : ByteArray) : Pre s (s ++ t) where
  le := by simp
  eq i hi := by
    unfold byteAt
    rw [List.getD_eq_getElem?_getD, List.getD_eq_getElem?_getD]
    have : (s ++ t).data.toList = s.data.toList ++ t.data.toList := by simp
    rw [this, List.getElem?_append_left (by simpa using hi)]
theorem pre_extract (s : ByteArray) {n : Nat} (h : n ≤ s.size) : Pre (s.extract 0 n) s where
  le := by simp; omega
  eq i hi := by
    have hi : i < n := by simpa [Nat.min_eq_left h] using hi
    unfold byteAt
    rw [List.getD_eq_getElem?_getD, List.getD_eq_getElem?_getD]
    have hs : (s.extract 0 n).data = s.data.extract 0 n := by simp
    have hsz : s.size = s.data.size := rfl
    have e1 : (s.extract 0 n).data.toList[i]? = s.data.toList[i]? := by
      rw [hs, Array.getElem?_toList, Array.getElem?_toList, Array.getElem?_extract, if_pos (by rw [hsz] at h; omega)]
      simp
    rw [e1]


theorem mayL_of {l : List NodeS} (hm : mayP l) {k : Int} {x : NodeS} (hf : findP l k = some x) : mayL x := by
  have := (formsOk_mem hm.1 x (findP_some hf).1).1.1
  unfold formL at this
  unfold mayL
  obtain ⟨_, _, a, b, _, _, _, c, _⟩ := this
  refine ⟨⟨a, b⟩, ?_, ?_, ?_⟩
  · omega
  · omega
  · split <;> omega

theorem sizeV_why {x : NodeS} (hm : mayL x) (s : ByteArray) (at_ : Int) : (sizeV x s at_).2 = 0 ∨ (sizeV x s at_).2 = 1 ∨ (sizeV x s at_).2 = 2 := by
  have go : ∀ sz, (finV s at_ sz).2 = 0 ∨ (finV s at_ sz).2 = 1 ∨ (finV s at_ sz).2 = 2 := fun sz => by
    unfold finV
    repeat' split
    all_goals simp
  unfold sizeV
  rw [if_neg (fun h => h hm)]
  split
  · split
    · simp
    · exact go _
  · exact go _
theorem nextV_why (l : List NodeS) (x : NodeS) (s : ByteArray) (at_ : Int) : (nextV l x s at_).2 = 0 ∨ (nextV l x s at_).2 = 1 ∨ (nextV l x s at_).2 = 4 := by
  have go : ∀ v, (goV l x v).2 = 0 ∨ (goV l x v).2 = 1 ∨ (goV l x v).2 = 4 := fun v => by
    unfold goV
    split <;> simp
  unfold nextV
  split
  · split
    · simp
    · exact go _
  · exact go _

theorem W_law {l : List NodeS} (hl : Nodes l) (hm : mayP l) {h : Int → Int} (H : Hgt l h) (s : ByteArray) : ∀ (f : Nat) (at_ : Int) (x : NodeS), findP l x.1 = some x → (h x.1).toNat ≤ f →
    ((W l s f at_ x).1.length : Int) ≤ (W l s f at_ x).2.1 ∧ (W l s f at_ x).2.1 ≤ ((W l s f at_ x).1.length : Int) + 1 ∧ ((W l s f at_ x).2.1 > ((W l s f at_ x).1.length : Int) → (W l s f at_ x).2.2 = 1 ∨ (W l s f at_ x).2.2 = 2) ∧
    ((W l s f at_ x).2.2 = 0 ∨ (W l s f at_ x).2.2 = 1 ∨ (W l s f at_ x).2.2 = 2 ∨ (W l s f at_ x).2.2 = 4) ∧ (W l s f at_ x).2.1 ≤ h x.1
  | 0, at_, x, hf, hh => by
    have := (H.pos x.1).2 (by rw [hf]; rfl)
    omega
  | f + 1, at_, x, hf, hh => by
    have hpos := (H.pos x.1).2 (by rw [hf]; rfl)
    simp only [W]
    have hz := sizeV_why (mayL_of hm hf) s at_
    by_cases hz0 : (sizeV x s at_).2 ≠ 0
    · rw [if_pos hz0]
      refine ⟨by simp, by simp, fun _ => ?_, ?_, by simp; omega⟩
      · show (sizeV x s at_).2 = 1 ∨ (sizeV x s at_).2 = 2
        omega
      · show (sizeV x s at_).2 = 0 ∨ (sizeV x s at_).2 = 1 ∨ (sizeV x s at_).2 = 2 ∨ (sizeV x s at_).2 = 4
        omega
    rw [if_neg hz0]
    have hn := nextV_why l x s at_
    by_cases hn0 : (nextV l x s at_).2 ≠ 0
    · rw [if_pos hn0]
      refine ⟨by simp, by simp, fun h => by simp at h, ?_, by simp; omega⟩
      show (nextV l x s at_).2 = 0 ∨ (nextV l x s at_).2 = 1 ∨ (nextV l x s at_).2 = 2 ∨ (nextV l x s at_).2 = 4
      omega
    rw [if_neg hn0]
    cases hfy : findP l (nextV l x s at_).1 with
    | none => exact ⟨by simp, by simp, fun h => by simp at h, .inl rfl, by simp; omega⟩
    | some y =>
      obtain ⟨_, hy⟩ := findP_some hfy
      have hlt := H.lt hf (nextV_mem hl hf s at_ (by simpa using hn0))
      rw [← hy] at hlt
      have hnn := H.nonneg y.1
      dsimp only
      obtain ⟨a1, a2, a3, a4, a5⟩ := W_law hl hm H s f (IntKind.wrap .i64 (at_ + (sizeV x s at_).1)) y (by rw [hy]; exact hfy) (by omega)
      generalize W l s f (IntKind.wrap .i64 (at_ + (sizeV x s at_).1)) y = r at a1 a2 a3 a4 a5 ⊢
      refine ⟨by simp; omega, by simp; omega, fun h => a3 ?_, a4, by omega⟩
      simp at h
      omega

end Go.AMach
