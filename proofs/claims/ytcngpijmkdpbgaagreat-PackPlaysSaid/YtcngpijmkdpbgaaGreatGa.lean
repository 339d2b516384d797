/- Parts of the proof. -/
import Derived.Test.YtcngpijmkdpbgaaGreatDx
import Derived.Test.YtcngpijmkdpbgaaGreatAm23
/- The plain theory of graphs and walks, at this seat. -/
namespace Go.AMach
set_option linter.unusedVariables false
set_option linter.unusedSimpArgs false
set_option linter.unnecessarySimpa false
open Go
set_option linter.unusedVariables false

def jBS (x : jai) : Nat := (x.2.2.2.2.2.2.2.1 : List ArmS).length

def armOk (sel : Nat) (a : ArmS) : Bool := decide (a.1 < 2 ^ sel) && decide (0 ≤ a.2.1) && decide (a.2.1 ≤ 65535)
def jcN (sel : Nat) : Int → List ArmS → Bool
  | _, [] => true
  | p, a :: r => armOk sel a && decide (p < a.1) && jcN sel a.1 r
def jct (x : jai) : Prop :=
  1 ≤ x.1 ∧ x.1 ≤ 65534 ∧ 0 ≤ x.2.1 ∧ x.2.1 ≤ 256 ∧ 0 ≤ x.2.2.2.2.2.2.2.2.1 ∧ x.2.2.2.2.2.2.2.2.1 ≤ 65535 ∧ x.2.2.2.2.2.2.2.1.length ≤ 32 ∧
  (x.2.2.2.1 = 0 ∧ x.2.2.1 = 0 ∧ x.2.2.2.2.1 = 0 ∨ 0 < x.2.2.2.1 ∧ x.2.2.2.1 ≤ 16 ∧ 0 ≤ x.2.2.1 ∧ x.2.2.1 ≤ 2048 ∧ 1 ≤ x.2.2.2.2.1 ∧ x.2.2.2.2.1 ≤ 256) ∧
  (x.2.2.2.2.2.2.1 = 0 ∧ x.2.2.2.2.2.1 = 0 ∧ x.2.2.2.2.2.2.2.1.length = 0 ∨ 0 < x.2.2.2.2.2.2.1 ∧ x.2.2.2.2.2.2.1 ≤ 32 ∧ 0 ≤ x.2.2.2.2.2.1 ∧ x.2.2.2.2.2.1 ≤ 2048)
instance (x : jai) : Decidable (jct x) := by unfold jct; infer_instance
def jiP (x : jai) : Prop := jct x ∧ jcN x.2.2.2.2.2.2.1.toNat (-1) x.2.2.2.2.2.2.2.1 = true
instance (x : jai) : Decidable (jiP x) := by unfold jiP; infer_instance
theorem jbS {x : jai} (h : ¬ jct x) : decide (jiP x) = false := decide_eq_false fun k => h k.1
theorem jyT {x : jai} (h : jct x) : decide (jiP x) = jcN x.2.2.2.2.2.2.1.toNat (-1) x.2.2.2.2.2.2.2.1 := by
  by_cases hb : jcN x.2.2.2.2.2.2.1.toNat (-1) x.2.2.2.2.2.2.2.1 = true
  · rw [hb, decide_eq_true (p := jiP x) ⟨h, hb⟩]
  · rw [decide_eq_false (p := jiP x) (fun k => hb k.2)]; simp at hb; rw [hb]
def jtt (x : jai) : Prop := ∀ a ∈ x.2.2.2.2.2.2.2.1, 0 ≤ a.1 ∧ a.1 ≤ 4294967295

theorem Q_to (i : Int) : jNn i = some ((decide (0 ≤ i ∧ i ≤ 65535), ()), ()) := by
  refine fin ?_
  unfold jOw
  simp only [jao]
  by_cases h : i ≥ 0 <;> simp [h]
theorem Q_span (a b c : Int) : jNm (a, (b, (c, ()))) = some ((if b = 0 then decide (a = 0) else decide (0 < b ∧ b ≤ c ∧ 0 ≤ a ∧ a ≤ 2048), ()), ()) := by
  refine fin ?_
  unfold jOv
  simp only [jao, Bool.cond_eq_ite, jaQ]
  by_cases h1 : b = 0
  · subst h1; simp
  · by_cases h2 : 0 < b <;> by_cases h3 : b ≤ c <;> by_cases h4 : 0 ≤ a <;> simp [h1, h2, h3, h4]
theorem Q_unit (x : jai) : jNl x = some ((if x.2.2.2.1 = 0 then decide (x.2.2.2.2.1 = 0) else decide (1 ≤ x.2.2.2.2.1 ∧ x.2.2.2.2.1 ≤ 256), ()), ()) := by
  refine fin ?_
  unfold jOu
  simp only [jao, Bool.cond_eq_ite, jaQ]
  by_cases h1 : x.2.2.2.1 = 0 <;> by_cases h2 : 1 ≤ x.2.2.2.2.1 <;> simp [h1, h2]

def jiG (l : List ArmS) (i : Nat) : Int := if i = 0 then -1 else (rdd jbq l (i - 1)).1
theorem jom (l : List ArmS) (i : Nat) : jiG l (i + 1) = (rdd jbq l i).1 := by simp [jiG]

theorem jug {a : Int} {n : Nat} (h : 0 ≤ a) : (Int.fdiv a (2 ^ n) > 0) ↔ ¬ a < 2 ^ n := by
  have hp : (0 : Int) < 2 ^ n := Int.pow_pos (by decide)
  rw [Int.fdiv_eq_ediv_of_nonneg _ (Int.le_of_lt hp)]
  constructor
  · intro h1 h2
    rw [Int.ediv_eq_zero_of_lt h h2] at h1
    omega
  · intro h1
    exact Int.lt_of_lt_of_le (by decide : (0 : Int) < 1) ((Int.le_ediv_iff_mul_le hp).2 (by omega))

theorem jRn (kr : Bool → Option Res) (kt : Unit → Option Res) (x : jai) (l : List ArmS) (hl : l = x.2.2.2.2.2.2.2.1) (hlen : l.length ≤ 32) (hs : 0 ≤ x.2.2.2.2.2.2.1) (hs2 : x.2.2.2.2.2.2.1 ≤ 32) (hg : ∀ a ∈ l, 0 ≤ a.1 ∧ a.1 ≤ 4294967295) :
    ∀ (m i : Nat), i ≤ l.length → l.length - i < m → jkg FUEL kr kt l (l.length : Int) x m (i : Int) =
      if x.2.2.2.2.2.2.1 = 0 ∧ i < l.length then kr false else if jcN x.2.2.2.2.2.2.1.toNat (jiG l i) (l.drop i) = true then kt () else kr false
  | 0, _, _, h => by omega
  | m + 1, i, hi, hm => by
    show jsh FUEL kr kt l (l.length : Int) x (jkg FUEL kr kt l (l.length : Int) x m) (i : Int) = _
    unfold jsh
    rw [← hl]
    simp only [jao, jaQ, jtq, jEe, Q_to, RS.get, Option.getD_some, Option.isSome_some, cond_true]
    by_cases hil : i < l.length
    · rw [if_pos (by omega), if_pos (by omega), if_pos hs]
      simp only [jal]
      rw [jaP jbq hil, jaD (by omega), jRn kr kt x l hl hlen hs hs2 hg m (i + 1) (by omega) (by omega), jom]
      have ha := hg (rdd jbq l i) (by exact jbO hil)
      have hprev : i > 0 → Int.toNat (IntKind.wrap .i64 ((i : Int) - 1)) = i - 1 := fun h => by rw [jev h (by omega)]; rfl
      have hp0 : i = 0 → jiG l i = -1 := fun h => by simp [jiG, h]
      have hp1 : i > 0 → jiG l i = (rdd jbq l (i - 1)).1 := fun h => by simp [jiG, show ¬ i = 0 by omega]
      generalize hx : rdd jbq l i = a at *
      rw [jeb _ (by omega)]
      have hmin : min (Int.toNat x.2.2.2.2.2.2.1) (IntKind.bits .u64) = x.2.2.2.2.2.2.1.toNat := by
        have : IntKind.bits .u64 = 64 := rfl
        omega
      rw [hmin]
      simp only [jug ha.1, jcN, armOk]
      generalize x.2.2.2.2.2.2.1.toNat = sel at *
      by_cases h1 : a.1 < 2 ^ sel
      · rw [if_neg (by simpa using h1)]
        by_cases h2 : x.2.2.2.2.2.2.1 = 0
        · simp [h2, hil]
        · rw [if_neg h2]
          by_cases h3 : i = 0
          · subst h3
            rw [if_neg (by omega), hp0 rfl]
            by_cases h5 : 0 ≤ a.2.1 <;> by_cases h6 : a.2.1 ≤ 65535 <;> simp [h1, h2, h5, h6, show (-1 : Int) < a.1 by omega]
          · rw [if_pos (by omega), hprev (by omega), if_pos (by rw [jev (by omega) (by omega)]; omega), hp1 (by omega)]
            by_cases h4 : a.1 ≤ (rdd jbq l (i - 1)).1
            · simp [h2, h4, show ¬ (rdd jbq l (i - 1)).1 < a.1 by omega]
            · by_cases h5 : 0 ≤ a.2.1 <;> by_cases h6 : a.2.1 ≤ 65535 <;> simp [h1, h2, h4, h5, h6, show (rdd jbq l (i - 1)).1 < a.1 by omega]
      · rw [if_pos (by simpa using h1)]
        simp [h1]
    · rw [if_neg (by omega), List.drop_of_length_le (by omega)]
      simp [jcN, hil]
theorem Q_Form (x : jai) (hx : jtt x) : jNk x = some ((decide (jiP x), ()), ()) := by
  refine fin ?_
  unfold jOt
  simp only [jao, jtq, jEe, Q_to, jEv, q_z06, Q_span, jPg, q_z07, Q_unit, RS.get, Option.getD_some, Option.isSome_some, cond_true]
  by_cases h1 : x.1 < 1
  · rw [if_pos h1, jbS (fun h => by unfold jct at h; omega)]
  rw [if_neg h1]
  by_cases h2 : x.1 > 65534
  · rw [if_pos h2, jbS (fun h => by unfold jct at h; omega)]
  rw [if_neg h2]
  by_cases h3 : x.2.1 < 0
  · rw [if_pos h3, jbS (fun h => by unfold jct at h; omega)]
  rw [if_neg h3]
  by_cases h4 : x.2.1 > 256
  · rw [if_pos h4, jbS (fun h => by unfold jct at h; omega)]
  rw [if_neg h4]
  by_cases h5 : 0 ≤ x.2.2.2.2.2.2.2.2.1 ∧ x.2.2.2.2.2.2.2.2.1 ≤ 65535
  rotate_left
  · rw [decide_eq_false h5, Bool.not_false, cond_true, jbS (fun h => by unfold jct at h; omega)]
  rw [decide_eq_true h5, Bool.not_true, cond_false]
  by_cases h6 : ((x.2.2.2.2.2.2.2.1.length : Nat) : Int) > 32
  · rw [if_pos h6, jbS (fun h => by unfold jct at h; omega)]
  rw [if_neg h6]
  generalize hb7 : (if x.2.2.2.1 = 0 then decide (x.2.2.1 = 0) else decide (0 < x.2.2.2.1 ∧ x.2.2.2.1 ≤ 16 ∧ 0 ≤ x.2.2.1 ∧ x.2.2.1 ≤ 2048)) = b7
  have h7 : b7 = true ↔ (x.2.2.2.1 = 0 ∧ x.2.2.1 = 0 ∨ 0 < x.2.2.2.1 ∧ x.2.2.2.1 ≤ 16 ∧ 0 ≤ x.2.2.1 ∧ x.2.2.1 ≤ 2048) := by
    subst hb7; split <;> simp <;> omega
  cases b7 with
  | false =>
    rw [Bool.not_false, cond_true, jbS (fun h => by unfold jct at h; simp at h7; omega)]
  | true =>
  rw [Bool.not_true, cond_false]
  generalize hb8 : (if x.2.2.2.1 = 0 then decide (x.2.2.2.2.1 = 0) else decide (1 ≤ x.2.2.2.2.1 ∧ x.2.2.2.2.1 ≤ 256)) = b8
  have h8 : b8 = true ↔ (x.2.2.2.1 = 0 ∧ x.2.2.2.2.1 = 0 ∨ x.2.2.2.1 ≠ 0 ∧ 1 ≤ x.2.2.2.2.1 ∧ x.2.2.2.2.1 ≤ 256) := by
    subst hb8; split <;> simp <;> omega
  cases b8 with
  | false =>
    rw [Bool.not_false, cond_true, jbS (fun h => by unfold jct at h; simp at h8; omega)]
  | true =>
  rw [Bool.not_true, cond_false]
  generalize hb9 : (if x.2.2.2.2.2.2.1 = 0 then decide (x.2.2.2.2.2.1 = 0) else decide (0 < x.2.2.2.2.2.2.1 ∧ x.2.2.2.2.2.2.1 ≤ 32 ∧ 0 ≤ x.2.2.2.2.2.1 ∧ x.2.2.2.2.2.1 ≤ 2048)) = b9
  have h9 : b9 = true ↔ (x.2.2.2.2.2.2.1 = 0 ∧ x.2.2.2.2.2.1 = 0 ∨ 0 < x.2.2.2.2.2.2.1 ∧ x.2.2.2.2.2.2.1 ≤ 32 ∧ 0 ≤ x.2.2.2.2.2.1 ∧ x.2.2.2.2.2.1 ≤ 2048) := by
    subst hb9; split <;> simp <;> omega
  cases b9 with
  | false =>
    rw [Bool.not_false, cond_true, jbS (fun h => by unfold jct at h; simp at h9; omega)]
  | true =>
  rw [Bool.not_true, cond_false]
  have h7 := h7.1 rfl
  have h8 := h8.1 rfl
  have h9 := h9.1 rfl
  have hL := jRn (fun y8 => some (jaa jef jeg ((y8, ()), ()))) (fun _ => some (jaa jef jeg ((true, ()), ()))) x _ rfl (by omega) (by omega) (by omega) hx FUEL 0 (by omega) (by unfold FUEL; omega)
  refine Eq.trans hL ?_
  rw [List.drop_zero, show jiG x.2.2.2.2.2.2.2.1 0 = -1 from rfl]
  by_cases h10 : x.2.2.2.2.2.2.1 = 0 ∧ 0 < x.2.2.2.2.2.2.2.1.length
  · rw [if_pos h10, jbS (fun h => by unfold jct at h; omega)]
  · rw [if_neg h10, jyT (by unfold jct; omega)]
    cases jcN x.2.2.2.2.2.2.1.toNat (-1) x.2.2.2.2.2.2.2.1 <;> rfl

theorem jKG (k : Int → Option Res) (x : jai) (s : Nat) (hs : x.2.2.2.2.2.2.1 = (s : Int)) (h32 : s ≤ 32) : ∀ (m i : Nat), i ≤ s → s - i < m → jbu FUEL k x m (2 ^ i) (i : Int) = k (2 ^ s)
  | 0, _, _, h => by omega
  | m + 1, i, hi, hm => by
    show jrS FUEL k x (jbu FUEL k x m) (2 ^ i) (i : Int) = _
    unfold jrS
    simp only [jao, hs]
    by_cases h : i < s
    · rw [if_pos (by omega), jaD (by omega)]
      have hp : (2 : Int) ^ i ≤ 2 ^ 32 := by exact_mod_cast Nat.pow_le_pow_right (n := 2) (by decide) (show i ≤ 32 by omega)
      have hp0 : (0 : Int) < 2 ^ i := Int.pow_pos (by decide)
      rw [jeb _ (by omega), ← Int.pow_succ]
      exact jKG k x s hs h32 m (i + 1) (by omega) (by omega)
    · rw [if_neg (by omega)]
      have : i = s := by omega
      rw [this]

theorem L_ref (kr : Bool → Option Res) (kt : Unit → Option Res) (x : jai) (l : List ArmS) (hl : l = x.2.2.2.2.2.2.2.1) (hlen : l.length ≤ 32) (sel : Nat) (h32 : sel ≤ 32) (hg : ∀ a ∈ l, 0 ≤ a.1 ∧ a.1 ≤ 4294967295) :
    ∀ (m i : Nat), i ≤ l.length → l.length - i < m → jbt FUEL kr kt (2 ^ sel) x m (i : Int) = if jcN sel (jiG l i) (l.drop i) = true then kt () else kr false
  | 0, _, _, h => by omega
  | m + 1, i, hi, hm => by
    show jrR FUEL kr kt (2 ^ sel) x (jbt FUEL kr kt (2 ^ sel) x m) (i : Int) = _
    unfold jrR
    rw [← hl]
    simp only [jao]
    by_cases hil : i < l.length
    · rw [if_pos (by omega), if_pos (by omega)]
      simp only [jal]
      rw [jaP jbq hil, jaD (by omega), L_ref kr kt x l hl hlen sel h32 hg m (i + 1) (by omega) (by omega), jom]
      have ha := hg (rdd jbq l i) (by exact jbO hil)
      have hprev : i > 0 → Int.toNat (IntKind.wrap .i64 ((i : Int) - 1)) = i - 1 := fun h => by rw [jev h (by omega)]; rfl
      have hp0 : i = 0 → jiG l i = -1 := fun h => by simp [jiG, h]
      have hp1 : i > 0 → jiG l i = (rdd jbq l (i - 1)).1 := fun h => by simp [jiG, show ¬ i = 0 by omega]
      generalize hx : rdd jbq l i = a at *
      rw [jeb _ (by omega)]
      simp only [jcN, armOk]
      by_cases h1 : a.1 < 2 ^ sel
      · rw [if_neg (by omega)]
        by_cases h3 : i = 0
        · subst h3
          rw [if_neg (by omega), hp0 rfl]
          by_cases h5 : 0 ≤ a.2.1
          · rw [if_neg (by omega)]
            by_cases h6 : a.2.1 ≤ 65535
            · rw [if_neg (by omega)]; simp [h1, h5, h6, show (-1 : Int) < a.1 by omega]
            · rw [if_pos (by omega)]; simp [h6]
          · rw [if_pos (by omega)]; simp [h5]
        · rw [if_pos (by omega), hprev (by omega), if_pos (by rw [jev (by omega) (by omega)]; omega), hp1 (by omega)]
          by_cases h4 : a.1 ≤ (rdd jbq l (i - 1)).1
          · rw [if_pos h4]; simp [show ¬ (rdd jbq l (i - 1)).1 < a.1 by omega]
          · rw [if_neg h4]
            by_cases h5 : 0 ≤ a.2.1
            · rw [if_neg (by omega)]
              by_cases h6 : a.2.1 ≤ 65535
              · rw [if_neg (by omega)]; simp [h1, h5, h6, show (rdd jbq l (i - 1)).1 < a.1 by omega]
              · rw [if_pos (by omega)]; simp [h6]
            · rw [if_pos (by omega)]; simp [h5]
      · rw [if_pos (by omega)]
        simp [h1]
    · rw [if_neg (by omega), List.drop_of_length_le (by omega)]
      simp [jcN]

theorem jKR (x : jai) (hx : jtt x) (hlen : x.2.2.2.2.2.2.2.1.length ≤ 32) (h0 : 0 ≤ x.2.2.2.2.2.2.1) (h32 : x.2.2.2.2.2.2.1 ≤ 32) :
    jbu FUEL (fun y1 => jbt FUEL (fun y3 => some (jaa jas jat ((y3, ()), ()))) (fun _ => some (jaa jas jat ((true, ()), ()))) y1 x FUEL (0 : Int)) x FUEL (1 : Int) (0 : Int) =
      some (jaa jas jat ((jcN x.2.2.2.2.2.2.1.toNat (-1) x.2.2.2.2.2.2.2.1, ()), ())) := by
  refine Eq.trans (jKG _ x x.2.2.2.2.2.2.1.toNat (by omega) (by omega) FUEL 0 (by omega) (by unfold FUEL; omega)) ?_
  refine Eq.trans (L_ref _ _ x _ rfl hlen _ (by omega) hx FUEL 0 (by omega) (by unfold FUEL; omega)) ?_
  rw [List.drop_zero, show jiG x.2.2.2.2.2.2.2.1 0 = -1 from rfl]
  cases jcN x.2.2.2.2.2.2.1.toNat (-1) x.2.2.2.2.2.2.2.1 <;> rfl

theorem jJQ (x : jai) (hx : jtt x) : jMH x = some ((decide (jiP x), ()), ()) := by
  refine fin ?_
  have hno : ¬ jct x → (some (jaa jas jat ((false, ()), ())) : Option Res) = some (jaa jas jat ((decide (jiP x), ()), ())) := fun h => by rw [jbS h]
  have hyes : x.2.2.2.2.2.2.2.1.length ≤ 32 → 0 ≤ x.2.2.2.2.2.2.1 → x.2.2.2.2.2.2.1 ≤ 32 → jct x →
      jbu FUEL (fun y1 => jbt FUEL (fun y3 => some (jaa jas jat ((y3, ()), ()))) (fun _ => some (jaa jas jat ((true, ()), ()))) y1 x FUEL (0 : Int)) x FUEL (1 : Int) (0 : Int) =
      some (jaa jas jat ((decide (jiP x), ()), ())) := fun h1 h2 h3 h4 => by
    rw [jKR x hx h1 h2 h3, jyT h4]
  unfold jNX
  simp only [jao, jaQ, jaV, Bool.cond_not]
  repeat' (refine jbU (fun _ => ?_) (fun _ => ?_))
  all_goals first
    | exact hno fun h => by unfold jct at h; omega
    | exact hyes (by omega) (by omega) (by omega) (by unfold jct; omega)

theorem jGR {x : jai} (h : jay.good x) : jtt x := by
  intro a ha
  have := (h.2.2.2.2.2.2.2.1.2 a ha).1
  exact wf_u32 this


def jby (x : jai) : List ArmS := x.2.2.2.2.2.2.2.1
def jme (x : jai) : Int := x.2.2.2.2.2.2.2.2.1
def jbk (x : jai) : List Int := jme x :: (jby x).map fun a => a.2.1
def jgY (x : jai) : List Int := ((jby x).map fun a => a.2.1) ++ [jme x]
def jaO (l : List jai) (id : Int) : Option jai := l.find? fun x => decide (x.1 = id)

theorem jRo (kr : Bool → jai → Option Res) (kt : Unit → Option Res) (id : Int) (l : List jai) (z : jai) (hl : l.length < 9223372036854775807) : ∀ (m i : Nat), i ≤ l.length → l.length - i < m →
    jkd FUEL kr kt id l (l.length : Int) z m (i : Int) = match jaO (l.drop i) id with | some x => kr true x | none => kt ()
  | 0, _, _, h => by omega
  | m + 1, i, hi, hm => by
    show jse FUEL kr kt id l (l.length : Int) z (jkd FUEL kr kt id l (l.length : Int) z m) (i : Int) = _
    unfold jse
    simp only [jao, jaQ]
    by_cases h : i < l.length
    · rw [if_pos (by omega), if_pos (by omega), jaP jaC h]
      simp only [jal, jaO, List.find?_cons]
      by_cases he : (rdd jaC l i).1 = id
      · simp [he]
      · rw [if_neg he, jaD (by omega), jRo kr kt id l z hl m (i + 1) (by omega) (by omega)]
        simp [he, jaO]
    · rw [if_neg (by omega), List.drop_of_length_le (by omega)]
      rfl

def jml (o : Option jai) : jai × (Bool × Unit) := match o with
  | some x => (x, (true, ()))
  | none => (jaC, (false, ()))

theorem joL (l : List jai) (id : Int) (hl : l.length < 9223372036854775807) : jNh l id = some (jml (jaO l id), ()) := by
  refine fin ?_
  refine Eq.trans (jRo _ _ id l _ hl FUEL 0 (by omega) (by unfold FUEL; omega)) ?_
  rw [List.drop_zero]
  cases jaO l id <;> rfl

theorem jRh (k : Nat → List Int → Option Res) (l : List ArmS) (hl : l.length < 100000) : ∀ (m i : Nat) (out : List Int), i ≤ l.length → out.length ≤ i + 1 → l.length - i < m →
    jke FUEL k l (l.length : Int) m out.length (i : Int) out = k (out ++ (l.drop i).map fun a => a.2.1).length (out ++ (l.drop i).map fun a => a.2.1)
  | 0, _, _, _, _, h => by omega
  | m + 1, i, out, hi, ho, hm => by
    show jsf FUEL k l (l.length : Int) (jke FUEL k l (l.length : Int) m) out.length (i : Int) out = _
    unfold jsf
    simp only [jao, jbI]
    by_cases h : i < l.length
    · rw [if_pos (by omega), if_pos (by omega), if_pos (by omega)]
      simp only [jal]
      rw [jaD (by omega)]
      have := jRh k l hl m (i + 1) (out ++ [(rdd jbq l i).2.1]) (by omega) (by simp; omega) (by omega)
      rw [List.length_append] at this
      refine Eq.trans this ?_
      rw [jaP jbq h]
      simp
    · rw [if_neg (by omega), List.drop_of_length_le (by omega)]
      simp

theorem jQX (x : jai) (h : (jby x).length < 100000) : jNi x = some (((jbk x).length, ()), (jbk x, ())) := by
  refine fin ?_
  refine Eq.trans (jRh _ (jby x) h FUEL 0 [jme x] (by omega) (by simp) (by unfold FUEL; omega)) ?_
  rw [List.drop_zero]
  rfl

theorem juC (k : Nat → List Int → Option Res) (x : jai) (hl : (jby x).length < 100000) : ∀ (m i : Nat) (out : List Int), i ≤ (jby x).length → out.length ≤ i + 1 → (jby x).length - i < m →
    jjT FUEL k x m out.length (i : Int) out = k (out ++ ((jby x).drop i).map fun a => a.2.1).length (out ++ ((jby x).drop i).map fun a => a.2.1)
  | 0, _, _, _, _, h => by omega
  | m + 1, i, out, hi, ho, hm => by
    show jrQ FUEL k x (jjT FUEL k x m) out.length (i : Int) out = _
    unfold jrQ
    rw [show x.2.2.2.2.2.2.2.1 = jby x from rfl]
    simp only [jao, jbI]
    by_cases h : i < (jby x).length
    · rw [if_pos (by omega), if_pos (by omega), if_pos (by omega)]
      simp only [jal]
      rw [jaD (by omega)]
      have := juC k x hl m (i + 1) (out ++ [(rdd jbq (jby x) i).2.1]) (by omega) (by simp; omega) (by omega)
      rw [List.length_append] at this
      refine Eq.trans this ?_
      rw [jaP jbq h]
      simp
    · rw [if_neg (by omega), List.drop_of_length_le (by omega)]
      simp

theorem juu (x : jai) (h : (jby x).length < 100000) : jMG x = some (((jgY x).length, ()), (jgY x, ())) := by
  refine fin ?_
  unfold jNW
  refine Eq.trans (juC _ x h FUEL 0 [] (by omega) (by simp) (by unfold FUEL; omega)) ?_
  rw [List.drop_zero]
  simp only [List.nil_append, jbI, jao]
  rw [if_pos (by simp; omega)]
  simp [jgY, jme]

theorem jiJ {x : jai} {t : Int} : t ∈ jgY x ↔ t ∈ jbk x := by simp [jgY, jbk, or_comm]

def formsOk : Int → List jai → Prop
  | _, [] => True
  | p, x :: r => jiP x ∧ p < x.1 ∧ formsOk x.1 r
instance : ∀ (p : Int) (l : List jai), Decidable (formsOk p l)
  | _, [] => isTrue trivial
  | p, x :: r => by
    have := instDecidableFormsOk x.1 r
    unfold formsOk
    infer_instance
def jfE (l : List jai) (i : Nat) : Int := if i = 0 then 0 else (rdd jaC l (i - 1)).1

theorem jRi (kr : Bool → Option Res) (kt : Unit → Option Res) (l : List jai) (hl : l.length < 9223372036854775807) (hg : ∀ x ∈ l, jtt x) : ∀ (m i : Nat), i ≤ l.length → l.length - i < m →
    jkf FUEL kr kt l l (l.length : Int) m (i : Int) = if formsOk (jfE l i) (l.drop i) then kt () else kr false
  | 0, _, _, h => by omega
  | m + 1, i, hi, hm => by
    show jsg FUEL kr kt l l (l.length : Int) (jkf FUEL kr kt l l (l.length : Int) m) (i : Int) = _
    unfold jsg
    by_cases h : i < l.length
    · have hx := Q_Form (rdd jaC l i) (hg _ (jbO h))
      simp only [jao, jal, jPf, q_z08, hx, RS.get, Option.getD_some, Option.isSome_some, cond_true]
      rw [if_pos (by omega), if_pos (by omega), jaP jaC h, jaD (by omega), jRi kr kt l hl hg m (i + 1) (by omega) (by omega)]
      have hp : jfE l (i + 1) = (rdd jaC l i).1 := by simp [jfE]
      rw [hp]
      have hprev : i > 0 → Int.toNat (IntKind.wrap .i64 ((i : Int) - 1)) = i - 1 := fun h => by rw [jev h (by omega)]; rfl
      generalize hX : rdd jaC l i = x at *
      by_cases hf : jiP x
      · simp only [decide_eq_true hf, Bool.not_true, cond_false]
        by_cases h3 : i = 0
        · subst h3
          rw [if_neg (by omega)]
          have h1 : 0 < x.1 := by have := hf.1; unfold jct at this; omega
          simp only [formsOk, hf, jfE, if_pos, h1, true_and]
        · rw [if_pos (by omega), hprev (by omega), if_pos (by rw [jev (by omega) (by omega)]; omega)]
          have hp2 : jfE l i = (rdd jaC l (i - 1)).1 := by simp [jfE, h3]
          rw [hp2]
          by_cases h4 : x.1 ≤ (rdd jaC l (i - 1)).1
          · rw [if_pos h4, if_neg (by simp only [formsOk]; omega)]
          · rw [if_neg h4]
            have h5 : (rdd jaC l (i - 1)).1 < x.1 := by omega
            simp only [formsOk, hf, h5, true_and]
      · simp only [decide_eq_false hf, Bool.not_false, cond_true]
        rw [if_neg (by simp only [formsOk]; exact fun k => hf k.1)]
    · simp only [jao]
      rw [if_neg (by omega), List.drop_of_length_le (by omega), if_pos (show formsOk _ [] from trivial)]

theorem Q_form (l : List jai) (hl : l.length < 9223372036854775807) (hg : ∀ x ∈ l, jtt x) : jNj l = some ((decide (formsOk 0 l), ()), ()) := by
  refine fin ?_
  refine Eq.trans (jRi _ _ l hl hg FUEL 0 (by omega) (by unfold FUEL; omega)) ?_
  rw [List.drop_zero, show jfE l 0 = 0 from rfl]
  by_cases h : formsOk 0 l
  · rw [if_pos h, decide_eq_true h]
  · rw [if_neg h, decide_eq_false h]

def jjf (l : List jai) (t : Int) : Bool := (jaO l t).isSome || decide (t = 0) || decide (t = 65535)
def jfC (l : List jai) : Prop := ∀ x ∈ l, ∀ t ∈ jbk x, jjf l t = true
instance (l : List jai) : Decidable (jfC l) := by unfold jfC; infer_instance

theorem jKz (kr : Bool → Option Res) (kt : Unit → Option Res) (l : List jai) (hl : l.length < 9223372036854775807) (a : Int) (b : Int) (g : List Int) (hgl : g.length < 9223372036854775807) : ∀ (m i : Nat), i ≤ g.length → g.length - i < m →
    jkb FUEL kr kt l l a b g.length (g.length : Int) g m (i : Int) = if ∀ t ∈ g.drop i, jjf l t = true then kt () else kr false
  | 0, _, _, h => by omega
  | m + 1, i, hi, hm => by
    show jsc FUEL kr kt l l a b g.length (g.length : Int) g (jkb FUEL kr kt l l a b g.length (g.length : Int) g m) (i : Int) = _
    unfold jsc
    by_cases h : i < g.length
    · simp only [jao, jal, jfK, jlT, joL l _ hl, RS.get, Option.getD_some, Option.isSome_some, cond_true, jaV, Bool.cond_not]
      rw [if_pos (by omega), if_pos (by omega), jaP (0 : Int) h, jaD (by omega), jKz kr kt l hl a b g hgl m (i + 1) (by omega) (by omega)]
      generalize rdd (0 : Int) g i = t
      have hfb : (jml (jaO l t)).2.1 = (jaO l t).isSome := by cases jaO l t <;> rfl
      simp only [hfb, List.forall_mem_cons, jjf]
      cases hf : (jaO l t).isSome
      · by_cases h0 : t = 0
        · simp [h0]
        · by_cases h1 : t = 65535
          · simp [h1]
          · simp [h0, h1]
      · simp
    · simp only [jao]
      rw [if_neg (by omega), List.drop_of_length_le (by omega), if_pos (by simp)]

theorem jRg (kr : Bool → Option Res) (kt : Unit → Option Res) (l : List jai) (hl : l.length < 9223372036854775807) (hg : ∀ x ∈ l, (jby x).length < 100000) : ∀ (m i : Nat), i ≤ l.length → l.length - i < m →
    jkc FUEL kr kt l l (l.length : Int) m (i : Int) = if ∀ x ∈ l.drop i, ∀ t ∈ jbk x, jjf l t = true then kt () else kr false
  | 0, _, _, h => by omega
  | m + 1, i, hi, hm => by
    show jsd FUEL kr kt l l (l.length : Int) (jkc FUEL kr kt l l (l.length : Int) m) (i : Int) = _
    unfold jsd
    by_cases h : i < l.length
    · have hx := jQX (rdd jaC l i) (hg _ (jbO h))
      have hgl : (jbk (rdd jaC l i)).length < 9223372036854775807 := by
        have := hg _ (jbO (d := jaC) h)
        simp [jbk]; omega
      simp only [jao, jal, jyI, jLg, hx, RS.get, Option.getD_some, Option.isSome_some, cond_true]
      rw [if_pos (by omega), if_pos (by omega), jaP jaC h, jaD (by omega), jRg kr kt l hl hg m (i + 1) (by omega) (by omega)]
      refine Eq.trans (jKz _ _ l hl _ _ _ hgl FUEL 0 (by omega) (by unfold FUEL; omega)) ?_
      simp only [List.drop_zero, List.forall_mem_cons]
      by_cases h1 : ∀ t ∈ jbk (rdd jaC l i), jjf l t = true
      · rw [if_pos h1]
        by_cases h2 : ∀ x ∈ l.drop (i + 1), ∀ t ∈ jbk x, jjf l t = true
        · rw [if_pos h2, if_pos ⟨h1, h2⟩]
        · rw [if_neg h2, if_neg (fun k => h2 k.2)]
      · rw [if_neg h1, if_neg (fun k => h1 k.1)]
    · simp only [jao]
      rw [if_neg (by omega), List.drop_of_length_le (by omega), if_pos (by simp)]

theorem Q_refs (l : List jai) (hl : l.length < 9223372036854775807) (hg : ∀ x ∈ l, (jby x).length < 100000) : jNg l = some ((decide (jfC l), ()), ()) := by
  refine fin ?_
  refine Eq.trans (jRg _ _ l hl hg FUEL 0 (by omega) (by unfold FUEL; omega)) ?_
  rw [List.drop_zero]
  by_cases h : jfC l
  · rw [decide_eq_true h]; exact if_pos h
  · rw [decide_eq_false h]; exact if_neg h

abbrev MapI := Int → Option Int
def gv (f : MapI) (k : Int) : Int := (f k).getD 0
def setM (f : MapI) (a : Int) (v : Int) : MapI := fun i => if i = a then some v else f i
theorem jGQ (f : MapI) (a v k : Int) : gv (setM f a v) k = if k = a then v else gv f k := by
  unfold gv setM
  by_cases h : k = a <;> simp [h]

def free (l : List jai) (on : MapI) : Nat := l.countP fun x => decide (gv on x.1 = 0)
def cnt (l : List jai) (dn : MapI) : Nat := l.countP fun x => decide (0 < gv dn x.1)
def hmax (f : Int → Int) (g : List Int) (m0 : Int) : Int := g.foldl (fun m t => if f t > m then f t else m) m0

theorem jei (f : Int → Int) (t : Int) (g : List Int) (m0 : Int) : hmax f (t :: g) m0 = hmax f g (if f t > m0 then f t else m0) := rfl
theorem jcq (f : Int → Int) : ∀ (g : List Int) (m0 : Int), m0 ≤ hmax f g m0
  | [], m0 => Int.le_refl _
  | t :: g, m0 => by
    rw [jei]
    refine Int.le_trans ?_ (jcq f g _)
    split <;> omega
theorem jgX (f : Int → Int) : ∀ (g : List Int) (m0 : Int) (t : Int), t ∈ g → f t ≤ hmax f g m0
  | t :: g, m0, t', h => by
    rw [jei]
    rcases List.mem_cons.1 h with rfl | h
    · refine Int.le_trans ?_ (jcq f g _)
      split <;> omega
    · exact jgX f g _ t' h
theorem jqd (f : Int → Int) : ∀ (g : List Int) (m0 : Int), hmax f g m0 = m0 ∨ ∃ t ∈ g, hmax f g m0 = f t
  | [], m0 => .inl rfl
  | t :: g, m0 => by
    rw [jei]
    rcases jqd f g (if f t > m0 then f t else m0) with h | ⟨u, hu, h⟩
    · rw [h]
      split
      · exact .inr ⟨t, List.mem_cons_self, rfl⟩
      · exact .inl rfl
    · exact .inr ⟨u, List.mem_cons_of_mem _ hu, h⟩
theorem jgv {f g : Int → Int} : ∀ {l : List Int} {m0 : Int}, (∀ t ∈ l, f t = g t) → hmax f l m0 = hmax g l m0
  | [], m0, _ => rfl
  | t :: l, m0, h => by
    rw [jei, jei, h t List.mem_cons_self]
    exact jgv fun u hu => h u (List.mem_cons_of_mem _ hu)

theorem jbb {l : List jai} {id : Int} {x : jai} (h : jaO l id = some x) : x ∈ l ∧ x.1 = id := by
  unfold jaO at h
  exact ⟨List.mem_of_find?_eq_some h, by simpa using List.find?_some h⟩
theorem jue {l : List jai} {x : jai} (h : x ∈ l) : (jaO l x.1).isSome = true := by
  unfold jaO
  rw [List.find?_isSome]
  exact ⟨x, h, by simp⟩

def OnOk (on : MapI) : Prop := ∀ k, gv on k = 0 ∨ gv on k = 1
def DnOk (l : List jai) (dn : MapI) : Prop := ∀ k, 0 ≤ gv dn k ∧ gv dn k ≤ cnt l dn ∧ (0 < gv dn k → (jaO l k).isSome = true)
def Grow (dn dn' : MapI) : Prop := ∀ k, 0 < gv dn k → gv dn' k = gv dn k
def Good (l : List jai) (dn : MapI) : Prop := ∀ k, 0 < gv dn k → ∃ x, jaO l k = some x ∧ gv dn k = 1 + hmax (gv dn) (jbk x) 0 ∧ ∀ t ∈ jbk x, (jaO l t).isSome = true → 0 < gv dn t
def juE (l : List jai) (rank : Int → Nat) : Prop := ∀ k x, jaO l k = some x → ∀ t ∈ jbk x, (jaO l t).isSome = true → rank t < rank k

theorem Grow.refl (dn : MapI) : Grow dn dn := fun _ _ => rfl
theorem Grow.trans {a b c : MapI} (h : Grow a b) (k : Grow b c) : Grow a c := fun i hi => (k i (by rw [h i hi]; exact hi)).trans (h i hi)
theorem Grow.cnt {l : List jai} {a b : MapI} (h : Grow a b) : cnt l a ≤ cnt l b := by
  unfold Go.AMach.cnt
  refine List.countP_mono_left fun x _ hx => ?_
  simp only [decide_eq_true_eq] at hx ⊢
  rw [h _ hx]; exact hx
theorem jQN (l : List jai) (dn : MapI) : cnt l dn ≤ l.length := List.countP_le_length
theorem jBH {l : List jai} {a b : MapI} (h : ∀ k, gv a k = gv b k) : free l a = free l b := by
  unfold free
  exact List.countP_congr fun x _ => by rw [h]

theorem jmp {α : Type} {p q : α → Bool} : ∀ {l : List α}, (∀ x ∈ l, p x = true → q x = true) → (∃ x ∈ l, q x = true ∧ p x = false) → l.countP p < l.countP q
  | [], _, h => by obtain ⟨x, hx, _⟩ := h; cases hx
  | y :: l, h1, h2 => by
    have hle : l.countP p ≤ l.countP q := List.countP_mono_left fun x hx => h1 x (List.mem_cons_of_mem _ hx)
    obtain ⟨x, hx, hq, hp⟩ := h2
    rcases List.mem_cons.1 hx with rfl | hx
    · rw [List.countP_cons_of_neg (by simp [hp]), List.countP_cons_of_pos hq]; omega
    · have ih := jmp (l := l) (fun x hx => h1 x (List.mem_cons_of_mem _ hx)) ⟨x, hx, hq, hp⟩
      have hy := h1 y List.mem_cons_self
      rw [List.countP_cons, List.countP_cons]
      cases hpy : p y
      · simp; split <;> omega
      · rw [hy hpy]; simp; exact ih

abbrev wres (r : Int) (l : List jai) (on : MapI) (w : Bool) (dn : MapI) : RS jbw jbx := ((r, ()), ((l, ()), (((), ()), (on, ((w, ()), (((), ()), (dn, (((), ()), ()))))))))

structure WalkPost (l : List jai) (id : Int) (on : MapI) (w : Bool) (dn : MapI) (r : Int) (on' : MapI) (w' : Bool) (dn' : MapI) : Prop where
  onS : ∀ k, gv on' k = gv on k
  dnOk : DnOk l dn'
  grow : Grow dn dn'
  keep : ∀ s, 0 < gv on s → gv dn' s = gv dn s
  r0 : 0 ≤ r
  r1 : r ≤ cnt l dn'
  wt : w' = true → w = true
  good : w' = true → Good l dn → Good l dn' ∧ r = gv dn' id ∧ ((jaO l id).isSome = true → 0 < r)
  rank : ∀ rank, juE l rank → ((jaO l id).isSome = true → ∀ s, 0 < gv on s → rank id < rank s) → w' = w

def jQR (l : List jai) (q : Int → List jai → MapI → Bool → MapI → Option (RS jbw jbx)) (F : Nat) : Prop :=
  ∀ id on w dn, free l on < F → OnOk on → DnOk l dn → ∃ r on' w' dn', q id l on w dn = some (wres r l on' w' dn') ∧ WalkPost l id on w dn r on' w' dn'

structure LoopPost (l : List jai) (g : List Int) (most : Int) (on : MapI) (w : Bool) (dn : MapI) (most' : Int) (on' : MapI) (w' : Bool) (dn' : MapI) : Prop where
  onS : ∀ k, gv on' k = gv on k
  dnOk : DnOk l dn'
  grow : Grow dn dn'
  keep : ∀ s, 0 < gv on s → gv dn' s = gv dn s
  m0 : most ≤ most'
  m1 : most ≤ cnt l dn → most' ≤ cnt l dn'
  wt : w' = true → w = true
  good : w' = true → Good l dn → Good l dn' ∧ most' = hmax (gv dn') g most ∧ (∀ t ∈ g, (jaO l t).isSome = true → 0 < gv dn' t)
  rank : ∀ rank, juE l rank → (∀ t ∈ g, (jaO l t).isSome = true → ∀ s, 0 < gv on s → rank t < rank s) → w' = w

theorem jRf {l : List jai} {q : Int → List jai → MapI → Bool → MapI → Option (RS jbw jbx)} {F : Nat} (hq : jQR l q F) (k : Int → List jai → MapI → Bool → MapI → Option Res) (a : Int) (g : List Int) (hg : g.length < 9223372036854775807) :
    ∀ (m i : Nat) (most : Int) (on : MapI) (w : Bool) (dn : MapI), i ≤ g.length → g.length - i < m → free l on < F → OnOk on → DnOk l dn → 
    ∃ most' on' w' dn', jka FUEL q k a g.length (g.length : Int) g m most (i : Int) l on w dn = k most' l on' w' dn' ∧ LoopPost l (g.drop i) most on w dn most' on' w' dn'
  | 0, _, _, _, _, _, _, h, _, _, _ => by omega
  | m + 1, i, most, on, w, dn, hi, hm, hf, ho, hd => by
    show ∃ most' on' w' dn', jsb FUEL q k a g.length (g.length : Int) g (jka FUEL q k a g.length (g.length : Int) g m) most (i : Int) l on w dn = k most' l on' w' dn' ∧ _
    unfold jsb
    by_cases h : i < g.length
    · simp only [jao, jal]
      rw [if_pos (by omega), if_pos (by omega), jaP (0 : Int) h, jaD (by omega)]
      generalize rdd (0 : Int) g i = t
      obtain ⟨r, on1, w1, dn1, hr, hp⟩ := hq t on w dn hf ho hd
      simp only [hr, RS.get, Option.getD_some, Option.isSome_some, cond_true]
      obtain ⟨most', on', w', dn', h1, h2⟩ := jRf hq k a g hg m (i + 1) (if r > most then r else most) on1 w1 dn1 (by omega) (by omega) (by rw [jBH hp.onS]; exact hf) (fun k => by rw [hp.onS]; exact ho k) hp.dnOk
      refine ⟨most', on', w', dn', h1, ?_⟩
      have hcnt : cnt l dn1 ≤ cnt l dn' := h2.grow.cnt
      exact {
        onS := fun k => (h2.onS k).trans (hp.onS k)
        dnOk := h2.dnOk
        grow := hp.grow.trans h2.grow
        keep := fun s hs => (h2.keep s (by rw [hp.onS]; exact hs)).trans (hp.keep s hs)
        m0 := by have := h2.m0; split at this <;> omega
        m1 := fun hm => h2.m1 (by
          have := hp.grow.cnt (l := l)
          have := hp.r1
          split <;> omega)
        wt := fun hw => hp.wt (h2.wt hw)
        good := fun hw hgd => by
          obtain ⟨g1, g2, g3⟩ := hp.good (h2.wt hw) hgd
          obtain ⟨k1, k2, k3⟩ := h2.good hw g1
          have hv : gv dn' t = r := by
            by_cases hft : (jaO l t).isSome = true
            · have := g3 hft
              rw [g2] at this ⊢
              exact h2.grow t this
            · have e1 : ∀ d, DnOk l d → gv d t = 0 := fun d hd => by
                have := hd t
                have h3 := this.2.2
                by_cases hpos : 0 < gv d t
                · exact absurd (h3 hpos) hft
                · omega
              rw [e1 dn' h2.dnOk, g2, e1 dn1 hp.dnOk]
          refine ⟨k1, ?_, ?_⟩
          · rw [jei, hv]; exact k2
          · intro u hu hfu
            rcases List.mem_cons.1 hu with rfl | hu
            · rw [hv]; exact g3 hfu
            · exact k3 u hu hfu
        rank := fun rank hr hs => by
          rw [h2.rank rank hr fun u hu hfu s hs' => hs u (List.mem_cons_of_mem _ hu) hfu s (by rw [← hp.onS]; exact hs')]
          exact hp.rank rank hr fun hft s hs' => hs t List.mem_cons_self hft s hs' }
    · simp only [jao]
      rw [if_neg (by omega), List.drop_of_length_le (by omega)]
      exact ⟨most, on, w, dn, rfl, ⟨fun _ => rfl, hd, Grow.refl _, fun _ _ => rfl, Int.le_refl _, fun h => h, fun h => h, fun _ hgd => ⟨hgd, rfl, fun t ht => by cases ht⟩, fun _ _ _ => rfl⟩⟩

theorem jCt (l : List jai) (hl : l.length ≤ 32) (ha : ∀ x ∈ l, (jby x).length < 100000) : ∀ dp, jQR l (jnc dp) dp
  | 0 => fun id on w dn hf => by omega
  | dp + 1 => fun id on w dn hf ho hd => by
    have ih := jCt l hl ha dp
    show ∃ r on' w' dn', jap jbw jbx (jKw FUEL (jnc dp) id l on w dn) = some (wres r l on' w' dn') ∧ _
    unfold jKw
    simp only [jfK, jlT, joL l id (by omega), RS.get, Option.getD_some, Option.isSome_some, cond_true]
    have hb0 : (0 : Int) ≤ cnt l dn := by omega
    cases hfd : jaO l id with
    | none =>
      simp only [jml, Bool.not_false, cond_true]
      refine ⟨0, on, w, dn, fin rfl, ⟨fun _ => rfl, hd, Grow.refl _, fun _ _ => rfl, Int.le_refl _, hb0, fun h => h, fun _ hgd => ⟨hgd, ?_, fun h => (by rw [hfd] at h; cases h)⟩, fun _ _ _ => rfl⟩⟩
      have := hd id
      by_cases hp : 0 < gv dn id
      · have := this.2.2 hp; rw [hfd] at this; cases this
      · omega
    | some x =>
      obtain ⟨hxm, hxid⟩ := jbb hfd
      simp only [jml, Bool.not_true, cond_false, jao, jyI, jLg, jQX x (ha x hxm), RS.get, Option.getD_some, Option.isSome_some, cond_true]
      rw [show (on id).getD 0 = gv on id from rfl, show (dn id).getD 0 = gv dn id from rfl]
      by_cases hon : gv on id > 0
      · rw [if_pos hon]
        refine ⟨0, on, false, dn, fin rfl, ⟨fun _ => rfl, hd, Grow.refl _, fun _ _ => rfl, Int.le_refl _, hb0, fun h => (by cases h), fun h => (by cases h), fun rank hr hs => ?_⟩⟩
        exact absurd (hs (by rw [hfd]; rfl) id hon) (by omega)
      rw [if_neg hon]
      have hon0 : gv on id = 0 := by rcases ho id with h | h <;> omega
      by_cases hdn : gv dn id > 0
      · rw [if_pos hdn]
        refine ⟨gv dn id, on, w, dn, fin rfl, ⟨fun _ => rfl, hd, Grow.refl _, fun _ _ => rfl, by omega, (hd id).2.1, fun h => h, fun _ hgd => ⟨hgd, rfl, fun _ => hdn⟩, fun _ _ _ => rfl⟩⟩
      rw [if_neg hdn]
      have hdn0 : gv dn id = 0 := by have := (hd id).1; omega
      have hgl : (jbk x).length < 9223372036854775807 := by have := ha x hxm; simp [jbk]; omega
      rw [hon0, show IntKind.wrap .i64 ((0 : Int) + 1) = 1 from by rw [IntWalk.i64_in _ (by omega)]; rfl]
      have hon1 : ∀ k, gv (setM on id 1) k = if k = id then 1 else gv on k := jGQ on id 1
      have hfree : free l (setM on id 1) < free l on := by
        unfold free
        refine jmp (fun y _ hy => ?_) ⟨x, hxm, ?_, ?_⟩
        · simp only [decide_eq_true_eq] at hy ⊢
          rw [hon1] at hy
          split at hy
          · omega
          · exact hy
        · simp [hxid, hon0]
        · simp [hxid, hon1]
      obtain ⟨most, on1, w1, dn1, h1, hp⟩ := jRf ih (fun y4 y5 y6 y7 y8 => some (jaa jbw jbx (((IntKind.wrap .i64 (y4 + (1 : Int))), ()), ((y5, ()), (((), ()), ((fun i => if i = id then some (IntKind.wrap .i64 ((Option.getD (y6 id) (0 : Int)) - (1 : Int))) else y6 i), ((y7, ()), (((), ()), ((fun i => if i = id then some (IntKind.wrap .i64 (y4 + (1 : Int))) else y8 i), (((), ()), ())))))))))) id (jbk x) hgl FUEL 0 0 (setM on id 1) w dn (by omega) (by unfold FUEL; omega) (by omega)
        (fun k => by rw [hon1]; split; exact .inr rfl; exact ho k) hd
      rw [List.drop_zero] at hp
      have hmost1 : most ≤ cnt l dn1 := hp.m1 (by omega)
      have hcl := jQN l dn1
      have hmost0 := hp.m0
      have hw1 : IntKind.wrap .i64 (most + 1) = most + 1 := IntWalk.i64_in _ (by omega)
      have hon2 : gv on1 id = 1 := by rw [hp.onS, hon1, if_pos rfl]
      have hdn1 : gv dn1 id = 0 := by rw [hp.keep id (by rw [hon1, if_pos rfl]; omega)]; exact hdn0
      refine ⟨most + 1, setM on1 id 0, w1, setM dn1 id (most + 1), ?_, ?_⟩
      · refine fin ?_
        refine Eq.trans h1 ?_
        have e1 : IntKind.wrap .i64 ((on1 id).getD 0 - 1) = 0 := by
          rw [show (on1 id).getD 0 = gv on1 id from rfl, hon2, IntWalk.i64_in _ (by omega)]; rfl
        rw [e1, hw1]
        rfl
      have hd2 : ∀ k, gv (setM dn1 id (most + 1)) k = if k = id then most + 1 else gv dn1 k := jGQ dn1 id (most + 1)
      have hcnt2 : cnt l dn1 < cnt l (setM dn1 id (most + 1)) := by
        unfold cnt
        refine jmp (fun y _ hy => ?_) ⟨x, hxm, ?_, ?_⟩
        · simp only [decide_eq_true_eq] at hy ⊢
          rw [hd2]
          split
          · omega
          · exact hy
        · simp [hxid, hd2]; omega
        · simp [hxid, hdn1]
      have hnot : w1 = true → Good l dn → ∀ y k, jaO l k = some y → (0 < gv dn1 k ∨ k = id) → id ∉ jbk y := fun hw hgd y k hy hk hmem => by
        obtain ⟨k1, _, k3⟩ := hp.good hw hgd
        rcases hk with hk | rfl
        · obtain ⟨y', hy', _, h3⟩ := k1 k hk
          rw [hy] at hy'; cases hy'
          have := h3 id hmem (by rw [hfd]; rfl)
          omega
        · rw [hfd] at hy; cases hy
          have := k3 k hmem (by rw [hfd]; rfl)
          omega
      exact {
        onS := fun k => by
          rw [jGQ]
          by_cases hk : k = id
          · rw [if_pos hk, hk, hon0]
          · rw [if_neg hk, hp.onS, hon1, if_neg hk]
        dnOk := fun k => by
          rw [hd2]
          by_cases hk : k = id
          · rw [if_pos hk]
            exact ⟨by omega, by omega, fun _ => by rw [hk, hfd]; rfl⟩
          · rw [if_neg hk]
            have := hp.dnOk k
            exact ⟨this.1, by omega, this.2.2⟩
        grow := fun k hk => by
          have hk' : k ≠ id := fun e => by rw [e] at hk; omega
          rw [hd2, if_neg hk']; exact hp.grow k hk
        keep := fun s hs => by
          have hs' : s ≠ id := fun e => by rw [e] at hs; omega
          rw [hd2, if_neg hs']; exact hp.keep s (by rw [hon1, if_neg hs']; exact hs)
        r0 := by omega
        r1 := by omega
        wt := hp.wt
        good := fun hw hgd => by
          obtain ⟨k1, k2, k3⟩ := hp.good hw hgd
          refine ⟨fun k hk => ?_, by rw [hd2, if_pos rfl], fun _ => by omega⟩
          rw [hd2] at hk ⊢
          by_cases hki : k = id
          · subst hki
            rw [if_pos rfl]
            refine ⟨x, hfd, ?_, fun t ht hft => ?_⟩
            · have e := jgv (f := gv (setM dn1 k (most + 1))) (g := gv dn1) (l := jbk x) (m0 := 0) fun t ht => by
                rw [hd2, if_neg (fun e : t = k => hnot hw hgd x k hfd (.inr rfl) (e ▸ ht))]
              omega
            · rw [hd2, if_neg (fun e : t = k => hnot hw hgd x k hfd (.inr rfl) (e ▸ ht))]
              exact k3 t ht hft
          · rw [if_neg hki] at hk ⊢
            obtain ⟨y, hy, h4, h5⟩ := k1 k hk
            refine ⟨y, hy, ?_, fun t ht hft => ?_⟩
            · have e := jgv (f := gv (setM dn1 id (most + 1))) (g := gv dn1) (l := jbk y) (m0 := 0) fun t ht => by
                rw [hd2, if_neg (fun e : t = id => hnot hw hgd y k hy (.inl hk) (e ▸ ht))]
              omega
            · rw [hd2, if_neg (fun e : t = id => hnot hw hgd y k hy (.inl hk) (e ▸ ht))]
              exact h5 t ht hft
        rank := fun rank hr hs => hp.rank rank hr fun t ht hft s hs' => by
          have h6 := hr id x hfd t ht hft
          rw [hon1] at hs'
          by_cases hsi : s = id
          · rw [hsi]; exact h6
          · rw [if_neg hsi] at hs'
            exact Nat.lt_trans h6 (hs (by rw [hfd]; rfl) s hs') }

abbrev lres (l : List jai) (on : MapI) (w : Bool) (dn : MapI) : RS jsI jsY := (((), (w, ())), ((l, ()), (((), ()), (on, ((w, ()), (((), ()), (dn, (((), ()), ()))))))))

structure AllPost (l r : List jai) (w : Bool) (dn : MapI) (on' : MapI) (w' : Bool) (dn' : MapI) : Prop where
  onS : ∀ k, gv on' k = 0
  dnOk : DnOk l dn'
  grow : Grow dn dn'
  wt : w' = true → w = true
  good : w' = true → Good l dn → Good l dn' ∧ ∀ x ∈ r, 0 < gv dn' x.1
  rank : ∀ rank, juE l rank → w' = w

theorem free_le (l : List jai) (on : MapI) : free l on ≤ l.length := List.countP_le_length

theorem juD (k : Bool → List jai → MapI → MapI → Option Res) (l : List jai) (hl : l.length ≤ 32) (ha : ∀ x ∈ l, (jby x).length < 100000) : ∀ (m i : Nat) (w : Bool) (on dn : MapI), i ≤ l.length → l.length - i < m → (∀ k, gv on k = 0) → DnOk l dn →
    ∃ w' on' dn', jjZ FUEL k l (l.length : Int) m (i : Int) w l on dn = k w' l on' dn' ∧ AllPost l (l.drop i) w dn on' w' dn'
  | 0, _, _, _, _, _, h, _, _ => by omega
  | m + 1, i, w, on, dn, hi, hm, ho, hd => by
    show ∃ w' on' dn', jsa FUEL k l (l.length : Int) (jjZ FUEL k l (l.length : Int) m) (i : Int) w l on dn = k w' l on' dn' ∧ _
    unfold jsa
    by_cases h : i < l.length
    · simp only [jao, jal]
      have hxm := jbO (d := jaC) h
      rw [if_pos (by omega), if_pos (by omega), jaP jaC h, jaD (by omega)]
      generalize rdd jaC l i = x at *
      have hfr := free_le l on
      obtain ⟨r, on1, w1, dn1, hr, hp⟩ := jCt l hl ha FUEL x.1 on w dn (by unfold FUEL; omega) (fun k => .inl (ho k)) hd
      have hr' : jNf x.1 l on w dn = some (wres r l on1 w1 dn1) := hr
      simp only [jPc, q_z0d, hr', RS.get, Option.getD_some, Option.isSome_some, cond_true]
      obtain ⟨w', on', dn', h1, h2⟩ := juD k l hl ha m (i + 1) w1 on1 dn1 (by omega) (by omega) (fun k => by rw [hp.onS]; exact ho k) hp.dnOk
      refine ⟨w', on', dn', h1, ⟨h2.onS, h2.dnOk, hp.grow.trans h2.grow, fun hw => hp.wt (h2.wt hw), fun hw hgd => ?_, fun rank hr => ?_⟩⟩
      · obtain ⟨g1, g2, g3⟩ := hp.good (h2.wt hw) hgd
        obtain ⟨k1, k2⟩ := h2.good hw g1
        refine ⟨k1, fun y hy => ?_⟩
        rcases List.mem_cons.1 hy with rfl | hy
        · have := g3 (jue hxm)
          rw [g2] at this
          rw [h2.grow _ this]; exact this
        · exact k2 y hy
      · rw [h2.rank rank hr]
        exact hp.rank rank hr fun _ s hs => by rw [ho] at hs; omega
    · simp only [jao]
      rw [if_neg (by omega), List.drop_of_length_le (by omega)]
      exact ⟨w, on, dn, rfl, ⟨ho, hd, Grow.refl _, fun h => h, fun _ hgd => ⟨hgd, fun x hx => by cases hx⟩, fun _ _ => rfl⟩⟩

theorem jJZ (l : List jai) (hl : l.length ≤ 32) (ha : ∀ x ∈ l, (jby x).length < 100000) :
    ∃ w on dn, jJN l = some (lres l on w dn) ∧ (∀ k, gv on k = 0) ∧ DnOk l dn ∧ (w = true → Good l dn ∧ ∀ x ∈ l, 0 < gv dn x.1) ∧ (∀ rank, juE l rank → w = true) := by
  obtain ⟨w, on, dn, h1, h2⟩ := juD (fun y2 y3 y4 y5 => some (jaa jsI jsY (((), (y2, ())), ((y3, ()), (((), ()), (y4, ((y2, ()), (((), ()), (y5, (((), ()), ())))))))))) l hl ha FUEL 0 true (fun _ => none) (fun _ => none) (by omega) (by unfold FUEL; omega) (fun k => rfl) (fun k => ⟨Int.le_refl _, by show (0 : Int) ≤ _; omega, fun h => by cases h⟩)
  rw [List.drop_zero] at h2
  exact ⟨w, on, dn, fin h1, h2.onS, h2.dnOk, fun hw => h2.good hw (fun k hk => by cases hk), fun rank hr => h2.rank rank hr⟩

structure Hgt (l : List jai) (h : Int → Int) : Prop where
  no : ∀ k, jaO l k = none → h k = 0
  is : ∀ k x, jaO l k = some x → h k = 1 + hmax h (jbk x) 0

theorem Hgt.nonneg {l : List jai} {h : Int → Int} (H : Hgt l h) (k : Int) : 0 ≤ h k := by
  cases hf : jaO l k with
  | none => rw [H.no k hf]; omega
  | some x => rw [H.is k x hf]; have := jcq h (jbk x) 0; omega
theorem Hgt.pos {l : List jai} {h : Int → Int} (H : Hgt l h) (k : Int) : 0 < h k ↔ (jaO l k).isSome = true := by
  cases hf : jaO l k with
  | none => rw [H.no k hf]; simp
  | some x => rw [H.is k x hf]; have := jcq h (jbk x) 0; simp; omega
theorem Hgt.lt {l : List jai} {h : Int → Int} (H : Hgt l h) {k : Int} {x : jai} (hf : jaO l k = some x) {t : Int} (ht : t ∈ jbk x) : h t < h k := by
  rw [H.is k x hf]; have := jgX h (jbk x) 0 t ht; omega
theorem Hgt.rank {l : List jai} {h : Int → Int} (H : Hgt l h) : juE l fun k => (h k).toNat := fun k x hf t ht _ => by
  have := H.lt hf ht
  have := H.nonneg t
  show (h t).toNat < (h k).toNat
  omega
theorem Hgt.unique {l : List jai} {h h' : Int → Int} (H : Hgt l h) (H' : Hgt l h') : ∀ k, h k = h' k := by
  have key : ∀ (n : Nat) (k : Int), h k < n → h k = h' k := by
    intro n
    induction n with
    | zero => intro k hk; have := H.nonneg k; omega
    | succ n ih =>
      intro k hk
      cases hf : jaO l k with
      | none => rw [H.no k hf, H'.no k hf]
      | some x =>
        rw [H.is k x hf, H'.is k x hf]
        congr 1
        exact jgv fun t ht => ih t (by have := H.lt hf ht; omega)
  exact fun k => key ((h k).toNat + 1) k (by omega)
theorem Hgt.of_good {l : List jai} {dn : MapI} (hd : DnOk l dn) (hg : Good l dn) (ha : ∀ x ∈ l, 0 < gv dn x.1) : Hgt l (gv dn) where
  no k hf := by
    have := hd k
    by_cases hp : 0 < gv dn k
    · have := this.2.2 hp; rw [hf] at this; cases this
    · omega
  is k x hf := by
    obtain ⟨hx, rfl⟩ := jbb hf
    obtain ⟨y, hy, h1, _⟩ := hg x.1 (ha x hx)
    rw [hf] at hy; cases hy
    exact h1

def mayP (l : List jai) : Prop := formsOk 0 l ∧ l.length ≤ 32 ∧ jfC l ∧ ∃ h, Hgt l h

theorem jiK {l : List jai} (hl : l.length ≤ 32) (ha : ∀ x ∈ l, (jby x).length < 100000) : ∃ w on dn, jJN l = some (lres l on w dn) ∧ (∀ k, gv on k = 0) ∧ DnOk l dn ∧ (w = true → Good l dn ∧ ∀ x ∈ l, 0 < gv dn x.1) ∧ (w = true ↔ ∃ h, Hgt l h) := by
  obtain ⟨w, on, dn, h1, h2, h3, h4, h5⟩ := jJZ l hl ha
  exact ⟨w, on, dn, h1, h2, h3, h4, fun hw => ⟨gv dn, Hgt.of_good h3 (h4 hw).1 (h4 hw).2⟩, fun ⟨h, H⟩ => h5 _ H.rank⟩

open Classical in
noncomputable def mayN (l : List jai) : Int := if ¬ formsOk 0 l then 3 else if ¬ l.length ≤ 32 then 12 else if ¬ jfC l then 8 else if ¬ ∃ h, Hgt l h then 10 else 0

theorem jtu {l : List jai} : mayN l = 0 ↔ mayP l := by
  unfold mayN mayP
  by_cases h1 : formsOk 0 l
  · by_cases h2 : l.length ≤ 32
    · by_cases h3 : jfC l
      · by_cases h4 : ∃ h, Hgt l h
        · rw [if_neg (by simp [h1]), if_neg (by simp [h2]), if_neg (by simp [h3]), if_neg (by simp [h4])]
          exact ⟨fun _ => ⟨h1, h2, h3, h4⟩, fun _ => rfl⟩
        · rw [if_neg (by simp [h1]), if_neg (by simp [h2]), if_neg (by simp [h3]), if_pos h4]
          exact ⟨fun h => by omega, fun h => absurd h.2.2.2 h4⟩
      · rw [if_neg (by simp [h1]), if_neg (by simp [h2]), if_pos h3]
        exact ⟨fun h => by omega, fun h => absurd h.2.2.1 h3⟩
    · rw [if_neg (by simp [h1]), if_pos h2]
      exact ⟨fun h => by omega, fun h => absurd h.2.1 h2⟩
  · rw [if_pos h1]
    exact ⟨fun h => by omega, fun h => absurd h.1 h1⟩

structure Nodes (l : List jai) : Prop where
  len : l.length < 9223372036854775807
  arms : ∀ x ∈ l, (jby x).length < 100000
  g : ∀ x ∈ l, jtt x

theorem Q_May (l : List jai) (hl : Nodes l) : jNe l = some ((mayN l, ()), ()) := by
  refine fin ?_
  unfold jOs mayN
  simp only [jPe, q_z09, Q_form l hl.len hl.g, jPd, q_z0c, Q_refs l hl.len hl.arms, RS.get, Option.getD_some, Option.isSome_some, cond_true]
  by_cases h1 : formsOk 0 l
  · rw [decide_eq_true h1, Bool.not_true, cond_false, if_neg (by simp [h1])]
    by_cases h2 : l.length ≤ 32
    · rw [jao, if_neg (by omega), if_neg (by simp [h2])]
      by_cases h3 : jfC l
      · rw [decide_eq_true h3, Bool.not_true, cond_false, if_neg (by simp [h3])]
        obtain ⟨w, on, dn, g1, g2, g3, g4, g5⟩ := jiK h2 hl.arms
        simp only [jPb, q_z0e, g1, RS.get, Option.getD_some, Option.isSome_some, cond_true]
        cases w with
        | true => rw [Bool.not_true, cond_false, if_neg (by simp only [Classical.not_not]; exact g5.1 rfl)]
        | false => rw [Bool.not_false, cond_true, if_pos (fun h => by have := g5.2 h; cases this)]
      · rw [decide_eq_false h3, Bool.not_false, cond_true, if_pos h3]
    · rw [jao, if_pos (by omega), if_pos h2]
  · rw [decide_eq_false h1, Bool.not_false, cond_true, if_pos h1]

theorem Hgt.le {l : List jai} {h : Int → Int} (hl : l.length ≤ 32) (ha : ∀ x ∈ l, (jby x).length < 100000) (H : Hgt l h) (k : Int) : h k ≤ l.length := by
  obtain ⟨w, on, dn, g1, g2, g3, g4, g5⟩ := jiK hl ha
  have hw := g5.2 ⟨h, H⟩
  have H2 := Hgt.of_good g3 (g4 hw).1 (g4 hw).2
  rw [H.unique H2 k]
  have := (g3 k).2.1
  have := jQN l dn
  omega


theorem find_lt {l : List jai} (hm : mayP l) {h : Int → Int} (H : Hgt l h) {k : Int} {x : jai} (hf : jaO l k = some x) {t : Int} (ht : t ∈ jbk x) : h t < h k ∧ (jaO l t ≠ none ∨ t = 0 ∨ t = 65535) := by
  refine ⟨H.lt hf ht, ?_⟩
  have := hm.2.2.1 x (jbb hf).1 t ht
  unfold jjf at this
  simp only [Bool.or_eq_true, decide_eq_true_eq] at this
  rcases this with (h | h) | h
  · left; intro e; rw [e] at h; cases h
  · exact .inr (.inl h)
  · exact .inr (.inr h)
theorem jcy : ∀ {p : Int} {l : List jai}, formsOk p l → ∀ x ∈ l, jiP x ∧ p < x.1
  | p, y :: r, h, x, hx => by
    obtain ⟨h1, h2, h3⟩ := h
    rcases List.mem_cons.1 hx with rfl | hx
    · exact ⟨h1, h2⟩
    · have := jcy h3 x hx
      exact ⟨this.1, by omega⟩
theorem jyW {l : List jai} (hm : formsOk 0 l) {k : Int} {x : jai} (hf : jaO l k = some x) : 1 ≤ k ∧ k ≤ 65534 := by
  obtain ⟨hx, rfl⟩ := jbb hf
  have := (jcy hm x hx).1.1
  unfold jct at this
  exact ⟨this.1, this.2.1⟩

theorem jRl (kr : Int → Option Res) (kt : Unit → Option Res) (v : Int) (l : List ArmS) (z : jai) (hl : l.length < 9223372036854775807) : ∀ (m i : Nat), i ≤ l.length → l.length - i < m →
    (∃ a ∈ l, jeB FUEL kr kt v l (l.length : Int) z m (i : Int) = kr a.2.1) ∨ jeB FUEL kr kt v l (l.length : Int) z m (i : Int) = kt ()
  | 0, _, _, h => by omega
  | m + 1, i, hi, hm => by
    show (∃ a ∈ l, jii FUEL kr kt v l (l.length : Int) z (jeB FUEL kr kt v l (l.length : Int) z m) (i : Int) = kr a.2.1) ∨ jii FUEL kr kt v l (l.length : Int) z (jeB FUEL kr kt v l (l.length : Int) z m) (i : Int) = kt ()
    unfold jii
    simp only [jao, jaQ, jal]
    by_cases h : i < l.length
    · rw [if_pos (by omega), if_pos (by omega), jaD (by omega)]
      by_cases he : (rdd jbq l i).1 = v
      · rw [if_pos he]; exact .inl ⟨_, jbO h, rfl⟩
      · rw [if_neg he]; exact jRl kr kt v l z hl m (i + 1) (by omega) (by omega)
    · rw [if_neg (by omega)]; exact .inr rfl

theorem Q_Next (l : List jai) (hl : Nodes l) {id : Int} {x : jai} (hf : jaO l id = some x) (v : Int) : ∃ t ∈ jbk x, jwF l id v = some ((t, ()), ()) := by
  have hlen := hl.len
  have harm := hl.arms x (jbb hf).1
  unfold jwF jKs
  simp only [jfK, jlT, joL l id (by omega), RS.get, Option.getD_some, Option.isSome_some, cond_true, hf, jml]
  rcases jRl (fun y2 => some (jaa joa joh ((y2, ()), ()))) (fun _ => some (jaa joa joh ((x.2.2.2.2.2.2.2.2.1, ()), ()))) v (jby x) x (by omega) FUEL 0 (by omega) (by unfold FUEL; omega) with ⟨a, ha, h⟩ | h
  · exact ⟨a.2.1, List.mem_cons_of_mem _ (List.mem_map.2 ⟨a, ha, rfl⟩), fin h⟩
  · exact ⟨jme x, List.mem_cons_self, fin h⟩

theorem jyX {l : List jai} (h : (Ty.slice jay).good l) : l.length < 9223372036854775807 := by
  have h1 := h.1
  have : jay.minb = 88 := rfl
  rw [this] at h1
  omega
end Go.AMach

/- The plain theory of graphs and walks, at this seat. -/
namespace Go.AMach
set_option linter.unusedVariables false
set_option linter.unusedSimpArgs false
set_option linter.unnecessarySimpa false
open Go
set_option linter.unusedVariables false

theorem jRd (w : jaW) (k : Int) (hk : -4611686018427387904 ≤ k ∧ k ≤ 4611686018427387904) : jCg w k = some (((jnf w k).1.1, ()), ()) := by
  have : ∃ v, jCg w k = some ((v, ()), ()) := by
    have : ∃ v, jwQ FUEL w k = some (jaa jlx jlL ((v, ()), ())) := by
      unfold jwQ
      simp only [jao]
      by_cases h1 : k ≤ 0
      · rw [if_pos h1]; exact ⟨_, rfl⟩
      rw [if_neg h1]
      by_cases h2 : k ≥ 64
      · rw [if_pos h2, if_pos (by rw [IntWalk.i64_in _ (by omega)]; omega)]; exact ⟨_, rfl⟩
      · rw [if_neg h2, if_pos (by omega), if_pos (by rw [IntWalk.i64_in _ (by omega)]; omega), if_pos (by omega)]; exact ⟨_, rfl⟩
    obtain ⟨v, hv⟩ := this
    exact ⟨v, fin hv⟩
  obtain ⟨v, hv⟩ := this
  unfold jnf
  rw [hv]; rfl

theorem jKh (w : jaW) (k : Int) (hk : -4611686018427387904 ≤ k ∧ k ≤ 4611686018427387904) : jCe w k = some (((jBy w k).1.1, ()), ()) := by
  have : ∃ v, jCe w k = some ((v, ()), ()) := by
    have : ∃ v, jwP FUEL w k = some (jaa jlw jlK ((v, ()), ())) := by
      unfold jwP
      simp only [jao]
      by_cases h1 : k ≤ 0
      · rw [if_pos h1]; exact ⟨_, rfl⟩
      rw [if_neg h1]
      by_cases h2 : k ≥ 64
      · rw [if_pos h2, if_pos (by rw [IntWalk.i64_in _ (by omega)]; omega)]; exact ⟨_, rfl⟩
      · rw [if_neg h2, if_pos (by omega), if_pos (by omega), if_pos (by rw [IntWalk.i64_in _ (by omega)]; omega)]; exact ⟨_, rfl⟩
    obtain ⟨v, hv⟩ := this
    exact ⟨v, fin hv⟩
  obtain ⟨v, hv⟩ := this
  unfold jBy
  rw [hv]; rfl

theorem jKi (x : Int) : jJM x = some (((0, (x, ())), ()), ()) := fin rfl
theorem Q_Or (a b : jaW) : jCf a b = some (((jtf a b).1.1, ()), ()) := by
  have : ∃ v, jCf a b = some ((v, ()), ()) := ⟨_, fin rfl⟩
  obtain ⟨v, hv⟩ := this
  unfold jtf
  rw [hv]; rfl
theorem Q_And (a b : jaW) : jwG a b = some (((jBx a b).1.1, ()), ()) := by
  have : ∃ v, jwG a b = some ((v, ()), ()) := ⟨_, fin rfl⟩
  obtain ⟨v, hv⟩ := this
  unfold jBx
  rw [hv]; rfl
theorem Q_Not (a : jaW) : jJL a = some (((q_z0m a).1.1, ()), ()) := by
  have : ∃ v, jJL a = some ((v, ()), ()) := ⟨_, fin rfl⟩
  obtain ⟨v, hv⟩ := this
  unfold q_z0m
  rw [hv]; rfl
theorem jKj (k : Int) : jCd k = some (((jLf k).1.1, ()), ()) := by
  have : ∃ v, jCd k = some ((v, ()), ()) := by
    have : ∃ v, jKv FUEL k = some (jaa jxC jyg ((v, ()), ())) := by
      unfold jKv
      simp only [jOX, Q_Not, Option.isSome_some, cond_true]
      generalize hy : (if (128 : Int) < (if (0 : Int) > k then (0 : Int) else k) then (128 : Int) else (if (0 : Int) > k then (0 : Int) else k)) = y
      have h0 : 0 ≤ y ∧ y ≤ 128 := by
        subst hy
        split <;> split <;> omega
      simp only [jyF]
      rw [jKh _ _ (by rw [IntWalk.i64_in _ (by omega)]; omega)]
      exact ⟨_, rfl⟩
    obtain ⟨v, hv⟩ := this
    exact ⟨v, fin hv⟩
  obtain ⟨v, hv⟩ := this
  unfold jLf
  rw [hv]; rfl
theorem Q_Cut (a : jaW) (k : Int) : jCc a k = some (((jBw a k).1.1, ()), ()) := by
  have : ∃ v, jCc a k = some ((v, ()), ()) := by
    have : ∃ v, jCp FUEL a k = some (jaa jxB jyf ((v, ()), ())) := by
      unfold jCp
      simp only [jEu, jKj, jtp, Q_And, Option.isSome_some, cond_true]
      exact ⟨_, rfl⟩
    obtain ⟨v, hv⟩ := this
    exact ⟨v, fin hv⟩
  obtain ⟨v, hv⟩ := this
  unfold jBw
  rw [hv]; rfl

noncomputable def jAH (w : jaW) (b : Int) : jaW := (jtf (jnf w 8).1.1 (jlS (IntKind.wrap .u64 b)).1.1).1.1
noncomputable def jfg (bf : Nat → Int) (f : Nat) : Nat → jaW → jaW
  | 0, w => w
  | c + 1, w => jfg bf (f + 1) c (jAH w (bf f))
theorem jiS {bf bg : Nat → Int} : ∀ (c f : Nat) (w : jaW), (∀ i, f ≤ i → i < f + c → bf i = bg i) → jfg bf f c w = jfg bg f c w
  | 0, f, w, h => rfl
  | c + 1, f, w, h => by
    simp only [jfg]
    rw [h f (by omega) (by omega)]
    exact jiS c (f + 1) _ fun i h1 h2 => h i (by omega) (by omega)

theorem L_Get (k : jaW → Option Res) (s : ByteArray) (a1 a2 la : Int) (z : jaW) (f c : Nat) (hc : f + c ≤ s.size) (hs : s.size < 1000000000) : ∀ (m i : Nat) (acc : jaW), i ≤ c → c - i < m →
    jjY FUEL k s a1 a2 (f : Int) la (c : Int) z m (i : Int) acc = k (jfg (jbs s) (f + i) (c - i) acc)
  | 0, _, _, _, h => by omega
  | m + 1, i, acc, hi, hm => by
    show jrZ FUEL k s a1 a2 (f : Int) la (c : Int) z (jjY FUEL k s a1 a2 (f : Int) la (c : Int) z m) (i : Int) acc = _
    unfold jrZ
    simp only [jao]
    by_cases h : i < c
    · rw [if_pos (by omega)]
      have hw : IntKind.wrap .i64 ((f : Int) + (i : Int)) = ((f + i : Nat) : Int) := by rw [IntWalk.i64_in _ (by omega)]; omega
      simp only [hw, jal, jyH, jRd acc 8 (by omega), jkw, jKi, jyG, Q_Or, Option.isSome_some, cond_true]
      rw [if_pos (by omega), jaD (by omega)]
      have := L_Get k s a1 a2 la z f c hc hs m (i + 1) (jAH acc (jbs s (f + i))) (by omega) (by omega)
      rw [show c - i = (c - (i + 1)) + 1 by omega]
      simp only [jfg]
      rw [show f + i + 1 = f + (i + 1) by omega, ← this]
      rfl
    · rw [if_neg (by omega), show c - i = 0 by omega]
      rfl

noncomputable def getP (bf : Nat → Int) (off w : Nat) : jaW :=
  let e := (off + w + 7) / 8
  let d : Nat := e * 8 - off - w
  (jBw (jtf (jnf (jfg bf (off / 8) (e - off / 8 - 1) (0, (0, ()))) ((8 - d : Nat) : Int)).1.1 (jlS (IntKind.wrap .u64 (Int.fdiv (bf (e - 1)) (2 ^ (min d 8))))).1.1).1.1 (w : Int)).1.1

theorem joC {bf bg : Nat → Int} {off w : Nat} (hw : 1 ≤ w) (h : ∀ i, i < (off + w + 7) / 8 → bf i = bg i) : getP bf off w = getP bg off w := by
  unfold getP
  simp only []
  rw [jiS (bg := bg) _ _ _ (fun i h1 h2 => h i (by omega)), h ((off + w + 7) / 8 - 1) (by omega)]

theorem jQZ (s : ByteArray) (off w : Nat) (hs : s.size < 1000000000) (h1 : 1 ≤ w) (h2 : w ≤ 128) (h3 : off < 1000000000) : jCh s (off : Int) (w : Int) = some ((if off + w ≤ 8 * s.size then 0 else 4, ()), ()) := by
  refine fin ?_
  unfold jCq
  simp only [jao]
  rw [if_neg (by omega), if_neg (by omega), if_neg (by omega)]
  have hw : IntKind.wrap .i64 (IntKind.wrap .i64 (8 * (s.size : Int)) - (w : Int)) = 8 * (s.size : Int) - w := by
    rw [IntWalk.i64_in (8 * (s.size : Int)) (by omega), IntWalk.i64_in _ (by omega)]
  rw [hw]
  by_cases h : off + w ≤ 8 * s.size
  · rw [if_neg (by omega), if_pos h]
  · rw [if_pos (by omega), if_neg h]

theorem Q_Get (s : ByteArray) (off w : Nat) (hs : s.size < 1000000000) (h1 : 1 ≤ w) (h2 : w ≤ 128) (h3 : off < 1000000000) :
    jJK s (off : Int) (w : Int) = some (if off + w ≤ 8 * s.size then (getP (jbs s) off w, (0, ())) else ((0, (0, ())), (4, ())), ()) := by
  refine fin ?_
  unfold jKt
  simp only [jox, jBz, jQZ s off w hs h1 h2 h3, RS.get, Option.getD_some, Option.isSome_some, cond_true, jaV]
  by_cases h : off + w ≤ 8 * s.size
  · rw [if_pos h]
    simp only [decide_true, Bool.not_true, cond_false, if_pos h]
    have e1 : IntKind.wrap .i64 (IntKind.wrap .i64 (IntKind.wrap .i64 ((off : Int) + (w : Int)) + 8) - 1) = ((off + w + 7 : Nat) : Int) := by
      rw [IntWalk.i64_in ((off : Int) + w) (by omega), IntWalk.i64_in ((off : Int) + w + 8) (by omega), IntWalk.i64_in _ (by omega)]; omega
    have e2 : IntKind.wrap .i64 (Int.tdiv ((off + w + 7 : Nat) : Int) 8) = (((off + w + 7) / 8 : Nat) : Int) := by
      rw [Int.tdiv_eq_ediv_of_nonneg (by omega), IntWalk.i64_in _ (by omega)]; omega
    have e3 : IntKind.wrap .i64 (Int.tdiv (off : Int) 8) = ((off / 8 : Nat) : Int) := by
      rw [Int.tdiv_eq_ediv_of_nonneg (by omega), IntWalk.i64_in _ (by omega)]; omega
    have e4 : IntKind.wrap .i64 (IntKind.wrap .i64 ((((off + w + 7) / 8 : Nat) : Int) - ((off / 8 : Nat) : Int)) - 1) = (((off + w + 7) / 8 - off / 8 - 1 : Nat) : Int) := by
      rw [IntWalk.i64_in ((((off + w + 7) / 8 : Nat) : Int) - ((off / 8 : Nat) : Int)) (by omega), IntWalk.i64_in _ (by omega)]; omega
    have e5 : IntKind.wrap .i64 (IntKind.wrap .i64 (IntKind.wrap .i64 ((((off + w + 7) / 8 : Nat) : Int) * 8) - (off : Int)) - (w : Int)) = (((off + w + 7) / 8 * 8 - off - w : Nat) : Int) := by
      rw [IntWalk.i64_in ((((off + w + 7) / 8 : Nat) : Int) * 8) (by omega), IntWalk.i64_in ((((off + w + 7) / 8 : Nat) : Int) * 8 - off) (by omega), IntWalk.i64_in _ (by omega)]; omega
    have e6 : IntKind.wrap .i64 (8 - (((off + w + 7) / 8 * 8 - off - w : Nat) : Int)) = ((8 - ((off + w + 7) / 8 * 8 - off - w) : Nat) : Int) := by
      rw [IntWalk.i64_in _ (by omega)]; omega
    have e7 : IntKind.wrap .i64 ((((off + w + 7) / 8 : Nat) : Int) - 1) = (((off + w + 7) / 8 - 1 : Nat) : Int) := by
      rw [IntWalk.i64_in _ (by omega)]; omega
    have h8 : ((8 : Int) != 0) = true := by decide
    simp only [e1, e2, e3, e4, h8, cond_true]
    refine Eq.trans (L_Get _ s _ _ _ _ (off / 8) ((off + w + 7) / 8 - off / 8 - 1) (by omega) hs FUEL 0 _ (by omega) (by unfold FUEL; omega)) ?_
    simp only [e5, e6, e7, jal, Nat.add_zero, Nat.sub_zero, jyH, jRd _ ((8 - ((off + w + 7) / 8 * 8 - off - w) : Nat) : Int) (by omega), jkw, jKi, jyG, Q_Or, jOW, Q_Cut, Option.isSome_some, cond_true, jao]
    rw [if_pos (by omega), if_pos (by omega)]
    rfl
  · rw [if_neg h]
    simp only [if_neg h]
    rfl

theorem jgL {s : ByteArray} {a i : Nat} (h : a + i < s.size) : jbs (s.extract a s.size) i = jbs s (a + i) := by
  unfold jbs
  rw [List.getD_eq_getElem?_getD, List.getD_eq_getElem?_getD]
  have hs : (s.extract a s.size).data = s.data.extract a s.size := by simp
  rw [hs]
  have hsz : s.size = s.data.size := rfl
  have e1 : (s.data.extract a s.size).toList[i]? = s.data.toList[a + i]? := by
    rw [Array.getElem?_toList, Array.getElem?_toList, Array.getElem?_extract, if_pos (by rw [hsz] at h ⊢; omega)]
  rw [e1]
theorem jeo {s : ByteArray} {a : Nat} : (s.extract a s.size).size = s.size - a := by simp

noncomputable def numV (s : ByteArray) (at_ : Int) (off w : Nat) : Int × Bool :=
  if 0 ≤ at_ ∧ at_ ≤ (s.size : Int) ∧ off + w ≤ 8 * (s.size - at_.toNat) then (IntKind.wrap .i64 (getP (fun i => jbs s (at_.toNat + i)) off w).2.1, true) else (0, false)

theorem jAL (s : ByteArray) (at_ : Int) (off w : Nat) (hs : s.size < 1000000000) (h1 : 1 ≤ w) (h2 : w ≤ 128) (h3 : off < 1000000000) :
    jNb s at_ (off : Int) (w : Int) = some (((numV s at_ off w).1, ((numV s at_ off w).2, ())), ()) := by
  refine fin ?_
  unfold jOp numV
  simp only [jao]
  by_cases a1 : at_ < 0
  · rw [if_pos a1, if_neg (by omega)]
  rw [if_neg a1]
  by_cases a2 : at_ > (s.size : Int)
  · rw [if_pos a2, if_neg (by omega)]
  rw [if_neg a2, if_pos (by omega)]
  obtain ⟨a, rfl⟩ := Int.eq_ofNat_of_zero_le (Int.not_lt.1 a1)
  simp only [Int.ofNat_eq_natCast, jal] at *
  have hQ := Q_Get (s.extract a s.size) off w (by rw [jeo]; omega) h1 h2 h3
  rw [jeo] at hQ
  simp only [jmd, jvm, hQ, RS.get, Option.getD_some, Option.isSome_some, cond_true]
  by_cases h : off + w ≤ 8 * (s.size - a)
  · rw [if_pos h, if_pos ⟨by omega, by omega, h⟩]
    have : getP (jbs (s.extract a s.size)) off w = getP (fun i => jbs s (a + i)) off w := joC h1 fun i hi => jgL (by omega)
    rw [this]
    rfl
  · rw [if_neg h, if_neg (fun k => h k.2.2)]
    rfl

def mayL (x : jai) : Prop := (0 ≤ x.2.1 ∧ x.2.1 ≤ 256) ∧ (0 ≤ x.2.2.1 ∧ x.2.2.1 ≤ 2048) ∧ (0 ≤ x.2.2.2.1 ∧ x.2.2.2.1 ≤ 16) ∧ (if x.2.2.2.1 = 0 then x.2.2.1 = 0 ∧ x.2.2.2.2.1 = 0 else 1 ≤ x.2.2.2.2.1 ∧ x.2.2.2.2.1 ≤ 256)
instance (x : jai) : Decidable (mayL x) := by unfold mayL; infer_instance

theorem jQS (x : jai) : jNc x = some ((decide (mayL x), ()), ()) := by
  refine fin ?_
  unfold jOr
  simp only [jao, jaQ]
  have no : ¬ mayL x → some (jaa jcR jcS ((false, ()), ())) = some (jaa jcR jcS ((decide (mayL x), ()), ())) := fun h => by rw [decide_eq_false h]
  refine jbU (fun h => no fun k => ?_) fun c1 => ?_
  · have := k.1; omega
  refine jbU (fun h => no fun k => ?_) fun c2 => ?_
  · have := k.1; omega
  refine jbU (fun h => no fun k => ?_) fun c3 => ?_
  · have := k.2.1; omega
  refine jbU (fun h => no fun k => ?_) fun c4 => ?_
  · have := k.2.1; omega
  refine jbU (fun h => no fun k => ?_) fun c5 => ?_
  · have := k.2.2.1; omega
  refine jbU (fun h => no fun k => ?_) fun c6 => ?_
  · have := k.2.2.1; omega
  have base : ∀ (b : Prop) [Decidable b], (b ↔ (if x.2.2.2.1 = 0 then x.2.2.1 = 0 ∧ x.2.2.2.2.1 = 0 else 1 ≤ x.2.2.2.2.1 ∧ x.2.2.2.2.1 ≤ 256)) → some (jaa jcR jcS ((decide b, ()), ())) = some (jaa jcR jcS ((decide (mayL x), ()), ())) := fun b _ hb => by
    have : (b ↔ mayL x) := by
      rw [hb]
      unfold mayL
      constructor
      · exact fun h => ⟨by omega, by omega, by omega, h⟩
      · exact fun h => h.2.2.2
    rw [decide_eq_decide.2 this]
  refine jbU (fun c7 => ?_) fun c7 => ?_
  · refine jbU (fun c8 => base _ ?_) fun c8 => no fun k => ?_
    · rw [if_pos c7]; simp [c8]
    · have := k.2.2.2; rw [if_pos c7] at this; exact c8 this.1
  · refine jbU (fun c8 => base _ ?_) fun c8 => no fun k => ?_
    · rw [if_neg c7]
      exact ⟨fun h => ⟨by omega, h⟩, fun h => h.2⟩
    · have := k.2.2.2; rw [if_neg c7] at this; omega

def finV (s : ByteArray) (at_ sz : Int) : Int × Int :=
  if sz > 256 then (0, 2) else if at_ < 0 then (0, 1) else if at_ > (s.size : Int) then (0, 1) else if sz > (s.size : Int) - at_ then (0, 1) else (sz, 0)
noncomputable def jed (x : jai) (s : ByteArray) (at_ : Int) : Int × Int :=
  if ¬ mayL x then (0, 4) else
  if x.2.2.2.1 > 0 then
    if (numV s at_ x.2.2.1.toNat x.2.2.2.1.toNat).2 = false then (0, 1) else finV s at_ (IntKind.wrap .i64 (x.2.1 + IntKind.wrap .i64 (x.2.2.2.2.1 * (numV s at_ x.2.2.1.toNat x.2.2.2.1.toNat).1)))
  else finV s at_ x.2.1

theorem jkS (s : ByteArray) (at_ sz : Int) (hs : s.size < 1000000000) :
    (cond (decide (sz > 256)) (some (jaa jcf jcg ((0, (2, ())), ())))
      (cond (decide (at_ < 0)) (some (jaa jcf jcg ((0, (1, ())), ())))
      (cond (decide (at_ > (s.size : Int))) (some (jaa jcf jcg ((0, (1, ())), ())))
      (cond (decide (sz > IntKind.wrap .i64 ((s.size : Int) - at_))) (some (jaa jcf jcg ((0, (1, ())), ())))
      (some (jaa jcf jcg ((sz, (0, ())), ()))))))) = some (jaa jcf jcg (((finV s at_ sz).1, ((finV s at_ sz).2, ())), ())) := by
  unfold finV
  simp only [jao]
  refine jbU (fun h => by rw [if_pos h]) fun h1 => ?_
  refine jbU (fun h => by rw [if_neg h1, if_pos h]) fun h2 => ?_
  refine jbU (fun h => by rw [if_neg h1, if_neg h2, if_pos h]) fun h3 => ?_
  rw [IntWalk.i64_in _ (by omega)]
  refine jbU (fun h => by rw [if_neg h1, if_neg h2, if_neg h3, if_pos h]) fun h4 => ?_
  rw [if_neg h1, if_neg h2, if_neg h3, if_neg h4]

theorem Q_Size (x : jai) (s : ByteArray) (at_ : Int) (hs : s.size < 1000000000) : jNa x s at_ = some (((jed x s at_).1, ((jed x s at_).2, ())), ()) := by
  refine fin ?_
  unfold jOo jed
  simp only [jOY, q_z0h, jQS, RS.get, Option.getD_some, Option.isSome_some, cond_true]
  by_cases hm : mayL x
  · rw [if_neg (fun h => h hm)]
    simp only [hm, decide_true, Bool.not_true, cond_false]
    by_cases hw : x.2.2.2.1 > 0
    · rw [if_pos hw]
      simp only [hw, decide_true, cond_true]
      have e1 : ((x.2.2.1.toNat : Nat) : Int) = x.2.2.1 := by have := hm.2.1; omega
      have e2 : ((x.2.2.2.1.toNat : Nat) : Int) = x.2.2.2.1 := by omega
      have hQ := jAL s at_ x.2.2.1.toNat x.2.2.2.1.toNat hs (by omega) (by have := hm.2.2.1; omega) (by have := hm.2.1; omega)
      rw [e1, e2] at hQ
      simp only [jyE, jLe, hQ, RS.get, Option.getD_some, Option.isSome_some, cond_true]
      cases hv : (numV s at_ x.2.2.1.toNat x.2.2.2.1.toNat).2 with
      | false => rw [if_pos rfl]; rfl
      | true =>
        rw [if_neg (by simp)]
        simp only [Bool.not_true, cond_false]
        exact jkS s at_ _ hs
    · rw [if_neg hw]
      simp only [hw, decide_false, cond_false]
      exact jkS s at_ _ hs
  · rw [if_pos hm]
    simp only [hm, decide_false, Bool.not_false, cond_true]

noncomputable def jeY (l : List jai) (x : jai) (v : Int) : Int := (jBv l x.1 v).1.1
theorem jpV (l : List jai) (hl : Nodes l) {x : jai} (hf : jaO l x.1 = some x) (v : Int) : jeY l x v ∈ jbk x ∧ jwF l x.1 v = some ((jeY l x v, ()), ()) := by
  obtain ⟨t, ht, hq⟩ := Q_Next l hl hf v
  have : jeY l x v = t := by unfold jeY jBv; rw [hq]; rfl
  rw [this]; exact ⟨ht, hq⟩
noncomputable def goV (l : List jai) (x : jai) (v : Int) : Int × Int := if jeY l x v = 65535 then (0, 4) else (jeY l x v, 0)
noncomputable def jco (l : List jai) (x : jai) (s : ByteArray) (at_ : Int) : Int × Int :=
  if x.2.2.2.2.2.2.1 > 0 then
    if (numV s at_ x.2.2.2.2.2.1.toNat x.2.2.2.2.2.2.1.toNat).2 = false then (0, 1) else goV l x (IntKind.wrap .u32 (numV s at_ x.2.2.2.2.2.1.toNat x.2.2.2.2.2.2.1.toNat).1)
  else goV l x (IntKind.wrap .u32 0)

theorem Q_next (l : List jai) (hl : Nodes l) {x : jai} (hf : jaO l x.1 = some x) (s : ByteArray) (at_ : Int) (hs : s.size < 1000000000) (h1 : 0 ≤ x.2.2.2.2.2.1 ∧ x.2.2.2.2.2.1 ≤ 2048) (h2 : x.2.2.2.2.2.2.1 ≤ 32) :
    jMZ l x s at_ = some (((jco l x s at_).1, ((jco l x s at_).2, ())), ()) := by
  refine fin ?_
  unfold jOn jco
  have go : ∀ v, (cond (jeY l x v == 65535) (some (jaa jgC jgD ((0, (4, ())), ()))) (some (jaa jgC jgD ((jeY l x v, (0, ())), ())))) = some (jaa jgC jgD (((goV l x v).1, ((goV l x v).2, ())), ())) := fun v => by
    unfold goV
    rw [jaQ, jao]
    split <;> rfl
  simp only [jEt, jBv, fun v => (jpV l hl hf v).2, RS.get, Option.getD_some, Option.isSome_some, cond_true]
  by_cases hw : x.2.2.2.2.2.2.1 > 0
  · rw [if_pos hw]
    simp only [hw, decide_true, cond_true]
    have e1 : ((x.2.2.2.2.2.1.toNat : Nat) : Int) = x.2.2.2.2.2.1 := by omega
    have e2 : ((x.2.2.2.2.2.2.1.toNat : Nat) : Int) = x.2.2.2.2.2.2.1 := by omega
    have hQ := jAL s at_ x.2.2.2.2.2.1.toNat x.2.2.2.2.2.2.1.toNat hs (by omega) (by omega) (by omega)
    rw [e1, e2] at hQ
    simp only [jyE, jLe, hQ, RS.get, Option.getD_some, Option.isSome_some, cond_true]
    cases hv : (numV s at_ x.2.2.2.2.2.1.toNat x.2.2.2.2.2.2.1.toNat).2 with
    | false => rw [if_pos rfl]; rfl
    | true =>
      rw [if_neg (by simp)]
      simp only [Bool.not_true, cond_false]
      exact go _
  · rw [if_neg hw]
    simp only [hw, decide_false, cond_false]
    exact go _

theorem jyP {l : List jai} (hm : mayP l) {k : Int} {x : jai} (hf : jaO l k = some x) : (0 ≤ x.2.2.2.2.2.1 ∧ x.2.2.2.2.2.1 ≤ 2048) ∧ x.2.2.2.2.2.2.1 ≤ 32 := by
  have := (jcy hm.1 x (jbb hf).1).1.1
  unfold jct at this
  omega

noncomputable def W (l : List jai) (s : ByteArray) : Nat → Int → jai → List jan × (Int × Int)
  | 0, _, _ => ([], (0, 0))
  | f + 1, at_, x =>
    if (jed x s at_).2 ≠ 0 then ([], (1, (jed x s at_).2)) else
    if (jco l x s at_).2 ≠ 0 then ([(x.1, (at_, ()))], (1, (jco l x s at_).2)) else
    match jaO l (jco l x s at_).1 with
    | none => ([(x.1, (at_, ()))], (1, 0))
    | some y => ((x.1, (at_, ())) :: (W l s f (IntKind.wrap .i64 (at_ + (jed x s at_).1)) y).1, (1 + (W l s f (IntKind.wrap .i64 (at_ + (jed x s at_).1)) y).2.1, (W l s f (IntKind.wrap .i64 (at_ + (jed x s at_).1)) y).2.2))

theorem jJx (l : List jai) (s : ByteArray) : ∀ (f : Nat) (at_ : Int) (x : jai), (W l s f at_ x).1.length ≤ f ∧ 0 ≤ (W l s f at_ x).2.1 ∧ (W l s f at_ x).2.1 ≤ f
  | 0, at_, x => by simp [W]
  | f + 1, at_, x => by
    simp only [W]
    split
    · simp; omega
    split
    · simp; omega
    split
    · simp; omega
    · rename_i y _
      have := jJx l s f (IntKind.wrap .i64 (at_ + (jed x s at_).1)) y
      simp; omega
theorem jEx {l : List jai} (hl : Nodes l) {x : jai} (hf : jaO l x.1 = some x) (s : ByteArray) (at_ : Int) (h : (jco l x s at_).2 = 0) : (jco l x s at_).1 ∈ jbk x := by
  have go : ∀ v, (goV l x v).2 = 0 → (goV l x v).1 ∈ jbk x := fun v => by
    unfold goV
    split
    · intro h; simp at h
    · intro _; exact (jpV l hl hf v).1
  unfold jco at h ⊢
  split
  · rename_i hw
    rw [if_pos hw] at h
    split
    · rename_i hv; rw [if_pos hv] at h; simp at h
    · rename_i hv; rw [if_neg hv] at h; exact go _ h
  · rename_i hw
    rw [if_neg hw] at h
    exact go _ h

theorem jKy (k : Nat → Int → Int → List jan → Option Res) (l : List jai) (hl : Nodes l) (hm : mayP l) {h : Int → Int} (H : Hgt l h) (s : ByteArray) (hs : s.size < 1000000000) :
    ∀ (f m : Nat) (at_ cnt why : Int) (hd : List jan) (x : jai), jaO l x.1 = some x → (h x.1).toNat ≤ f → f ≤ 64 → f < m → 0 ≤ cnt → cnt + f ≤ 100 → hd.length + f ≤ 100 →
    jih FUEL k k l s m at_ true hd.length cnt why hd x = k (hd ++ (W l s f at_ x).1).length (cnt + (W l s f at_ x).2.1) (W l s f at_ x).2.2 (hd ++ (W l s f at_ x).1)
  | 0, m, at_, cnt, why, hd, x, hf, hh, _, _, _, _, _ => by
    have := (H.pos x.1).2 (by rw [hf]; rfl)
    omega
  | f + 1, 0, at_, cnt, why, hd, x, hf, hh, _, hm', _, _, _ => by omega
  | f + 1, m + 1, at_, cnt, why, hd, x, hf, hh, h64, hm', h1, h2, h3 => by
    show jkk FUEL k k l s (jih FUEL k k l s m) at_ true hd.length cnt why hd x = _
    unfold jkk
    have hsel := jyP hm hf
    have hc : IntKind.wrap .i64 (cnt + 1) = cnt + 1 := IntWalk.i64_in _ (by omega)
    simp only [cond_true, jOV, q_z0t, Q_Size x s at_ hs, jOU, q_z0v, Q_next l hl hf s at_ hs hsel.1 hsel.2, RS.get, Option.getD_some, Option.isSome_some, jbI, hc, jaV]
    simp only [W]
    by_cases hz : (jed x s at_).2 = 0
    · rw [if_neg (by simp [hz])]
      simp only [hz, decide_true, Bool.not_true, cond_false]
      have hroom : (decide ((hd.length + 1) * 16 ≤ 2 ^ 46 ∧ hd.length + 1 ≤ 2 ^ 46)) = true := by
        rw [decide_eq_true_eq]; omega
      rw [hroom, cond_true]
      by_cases hn : (jco l x s at_).2 = 0
      · rw [if_neg (by simp [hn])]
        simp only [hn, decide_true, Bool.not_true, cond_false, jfK, jlT, joL l _ hl.len, RS.get, Option.getD_some, Option.isSome_some, cond_true]
        cases hfy : jaO l (jco l x s at_).1 with
        | none =>
          simp only [jml]
          cases m with
          | zero => omega
          | succ m =>
            show jkk FUEL k k l s (jih FUEL k k l s m) _ false (hd.length + 1) (cnt + 1) 0 (hd ++ [(x.1, (at_, ()))]) jaC = _
            unfold jkk
            simp
        | some y =>
          simp only [jml]
          obtain ⟨_, hy⟩ := jbb hfy
          have hlt := H.lt hf (jEx hl hf s at_ hn)
          rw [← hy] at hlt
          have hnn := H.nonneg y.1
          have ih := jKy k l hl hm H s hs f m (IntKind.wrap .i64 (at_ + (jed x s at_).1)) (cnt + 1) 0 (hd ++ [(x.1, (at_, ()))]) y (by rw [hy]; exact hfy) (by omega) (by omega) (by omega) (by omega) (by omega) (by simp; omega)
          rw [show (hd ++ [(x.1, (at_, ()))]).length = hd.length + 1 by simp] at ih
          rw [ih]
          simp only [List.append_assoc, List.singleton_append]
          rw [show cnt + 1 + (W l s f (IntKind.wrap .i64 (at_ + (jed x s at_).1)) y).2.1 = cnt + (1 + (W l s f (IntKind.wrap .i64 (at_ + (jed x s at_).1)) y).2.1) by omega]
      · rw [if_pos hn]
        simp [hn]
    · rw [if_pos hz]
      simp [hz]

noncomputable def jbg (l : List jai) (s : ByteArray) : List jan × (Int × Int) :=
  open Classical in if mayP l then (match jaO l 1 with | some x => W l s 64 0 x | none => ([], (0, 0))) else ([], (0, 0))

theorem Q_steps (l : List jai) (s : ByteArray) : jNd l s = some (((), ()), ((l, ()), ((s, ()), ()))) := fin rfl

theorem jKg (l : List jai) (hl : Nodes l) (s : ByteArray) (hs : s.size < 1000000000) : jMX l s = some (((jbg l s).1.length, ((jbg l s).2.1, ((jbg l s).2.2, ()))), ((jbg l s).1, ())) := by
  refine fin ?_
  unfold jOl
  simp only [jPa, q_z0f, Q_May l hl, RS.get, Option.getD_some, Option.isSome_some, cond_true, jaV]
  by_cases hm : mayP l
  · rw [decide_eq_true (jtu.2 hm)]
    simp only [Bool.not_true, cond_false]
    have hw : jbg l s = (match jaO l 1 with | some x => W l s 64 0 x | none => ([], (0, 0))) := by unfold jbg; rw [if_pos hm]
    rw [hw]
    obtain ⟨h, H⟩ := hm.2.2.2
    have hsteps : jMY 0 [] 0 0 l s = some (((), (((), ((), ((), ((), ((), ((), ((), ((), ((), ((), ((), ((), ((), ((), ((), ((), ((), ((), ((), ((), ((), ((), ((), ((), ((), ((), ((), ((), ((), ((), ((), ((), ())))))))))))))))))))))))))))))))), (((jbg l s).1.length, ()), ((), (((jbg l s).2.1, ()), (((jbg l s).2.2, ()), ((l, ()), ((s, ()), ((jbg l s).1, ())))))))))) := by
      rw [hw]
      refine fin ?_
      unfold jOm
      simp only [jfK, jlT, joL l 1 hl.len, RS.get, Option.getD_some, Option.isSome_some, cond_true]
      cases hf : jaO l 1 with
      | none => rfl
      | some x =>
        simp only [jml]
        obtain ⟨_, hx⟩ := jbb hf
        have hle := Hgt.le hm.2.1 hl.arms H x.1
        have h32 := hm.2.1
        have := jKy (fun y5 y6 y7 y8 => some (jaa jsG jsW ((), (((), ((), ((), ((), ((), ((), ((), ((), ((), ((), ((), ((), ((), ((), ((), ((), ((), ((), ((), ((), ((), ((), ((), ((), ((), ((), ((), ((), ((), ((), ((), ((), ())))))))))))))))))))))))))))))))), ((y5, ()), ((), ((y6, ()), ((y7, ()), ((l, ()), ((s, ()), (y8, ()))))))))))) l hl hm H s hs 64 FUEL 0 0 0 [] x (by rw [hx]; exact hf) (by omega) (by omega) (by unfold FUEL; omega) (by omega) (by omega) (by simp)
        simp only [List.nil_append, List.length_nil, Int.zero_add] at this
        exact this
    simp only [jOZ, q_z0g, Q_steps, jOT, q_z0w, hsteps, RS.get, Option.getD_some, Option.isSome_some, cond_true]
    rw [hw]
  · have hn : ¬ mayN l = 0 := fun e => hm (jtu.1 e)
    rw [decide_eq_false hn]
    simp only [Bool.not_false, cond_true]
    have hw : jbg l s = ([], (0, 0)) := by unfold jbg; rw [if_neg hm]
    rw [hw]; rfl

def More (a b : List jan × (Int × Int)) : Prop := (∃ t, b.1 = a.1 ++ t) ∧ a.2.1 ≤ b.2.1 ∧ (a.2.2 = 1 ∨ b = a)
theorem More.refl (a : List jan × (Int × Int)) : More a a := ⟨⟨[], by simp⟩, Int.le_refl _, .inr rfl⟩

theorem jla (l : List jai) (s : ByteArray) : (jbg l s).1.length ≤ 64 ∧ 0 ≤ (jbg l s).2.1 ∧ (jbg l s).2.1 ≤ 64 := by
  unfold jbg
  split
  · split
    · exact jJx l s 64 0 _
    · simp
  · simp

theorem jLq {l : List jai} (h : (Ty.slice jay).good l) (ha : ∀ x ∈ l, jBS x < 3000) : Nodes l where
  len := jyX h
  arms x hx := by have := ha x hx; unfold jBS at this; unfold jby; omega
  g x hx := jGR (h.2 x hx)

theorem mayL_of {l : List jai} (hm : mayP l) {k : Int} {x : jai} (hf : jaO l k = some x) : mayL x := by
  have := (jcy hm.1 x (jbb hf).1).1.1
  unfold jct at this
  unfold mayL
  obtain ⟨_, _, a, b, _, _, _, c, _⟩ := this
  refine ⟨⟨a, b⟩, ?_, ?_, ?_⟩
  · omega
  · omega
  · split <;> omega

end Go.AMach
