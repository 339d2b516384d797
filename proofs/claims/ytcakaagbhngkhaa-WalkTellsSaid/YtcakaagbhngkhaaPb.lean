/- Layer 15: what is found, where a node goes on, forms and references of a graph. -/
import Derived.Test.YtcakaagbhngkhaaPa

namespace Go.AMach
set_option linter.unusedVariables false
set_option linter.unusedSimpArgs false
set_option linter.unnecessarySimpa false
set_option linter.unusedVariables false
set_option linter.unusedSimpArgs false

def nArms (x : NodeS) : List ArmS := x.2.2.2.2.2.2.2.1
def nOther (x : NodeS) : Int := x.2.2.2.2.2.2.2.2.1
/-- Where a node goes on: Other first. -/
def goesP (x : NodeS) : List Int := nOther x :: (nArms x).map fun a => a.2.1
/-- The same, Other last. -/
def goesR (x : NodeS) : List Int := ((nArms x).map fun a => a.2.1) ++ [nOther x]
def findP (l : List NodeS) (id : Int) : Option NodeS := l.find? fun x => decide (x.1 = id)

/-! ### Find -/
theorem L_Find (kr : Bool → NodeS → Option Res) (kt : Unit → Option Res) (id : Int) (l : List NodeS) (z : NodeS) (hl : l.length < 9223372036854775807) : ∀ (m i : Nat), i ≤ l.length → l.length - i < m →
    L_graph_Find_0 FUEL kr kt id l (l.length : Int) z m (i : Int) = match findP (l.drop i) id with | some x => kr true x | none => kt ()
  | 0, _, _, h => by omega
  | m + 1, i, hi, hm => by
    show F_graph_Find_0 FUEL kr kt id l (l.length : Int) z (L_graph_Find_0 FUEL kr kt id l (l.length : Int) z m) (i : Int) = _
    unfold F_graph_Find_0
    simp only [cond_dec, int_beq]
    by_cases h : i < l.length
    · rw [if_pos (by omega), if_pos (by omega), drop_rdd zNodeS h]
      simp only [toNat_cast, findP, List.find?_cons]
      by_cases he : (rdd zNodeS l i).1 = id
      · simp [he]
      · rw [if_neg he, i64_succ (by omega), L_Find kr kt id l z hl m (i + 1) (by omega) (by omega)]
        simp [he, findP]
    · rw [if_neg (by omega), List.drop_of_length_le (by omega)]
      rfl

def findV (o : Option NodeS) : NodeS × (Bool × Unit) := match o with
  | some x => (x, (true, ()))
  | none => (zNodeS, (false, ()))

theorem Q_Find (l : List NodeS) (id : Int) (hl : l.length < 9223372036854775807) : Q_graph_Find l id = some (findV (findP l id), ()) := by
  refine fin ?_
  refine Eq.trans (L_Find _ _ id l _ hl FUEL 0 (by omega) (by unfold FUEL; omega)) ?_
  rw [List.drop_zero]
  cases findP l id <;> rfl

/-! ### Where a node goes on -/
theorem L_goes (k : Nat → List Int → Option Res) (l : List ArmS) (hl : l.length < 100000) : ∀ (m i : Nat) (out : List Int), i ≤ l.length → out.length ≤ i + 1 → l.length - i < m →
    L_graph_goes_0 FUEL k l (l.length : Int) m out.length (i : Int) out = k (out ++ (l.drop i).map fun a => a.2.1).length (out ++ (l.drop i).map fun a => a.2.1)
  | 0, _, _, _, _, h => by omega
  | m + 1, i, out, hi, ho, hm => by
    show F_graph_goes_0 FUEL k l (l.length : Int) (L_graph_goes_0 FUEL k l (l.length : Int) m) out.length (i : Int) out = _
    unfold F_graph_goes_0
    simp only [cond_dec, cutL_all]
    by_cases h : i < l.length
    · rw [if_pos (by omega), if_pos (by omega), if_pos (by omega)]
      simp only [toNat_cast]
      rw [i64_succ (by omega)]
      have := L_goes k l hl m (i + 1) (out ++ [(rdd zArmS l i).2.1]) (by omega) (by simp; omega) (by omega)
      rw [List.length_append] at this
      refine Eq.trans this ?_
      rw [drop_rdd zArmS h]
      simp
    · rw [if_neg (by omega), List.drop_of_length_le (by omega)]
      simp

theorem Q_goes (x : NodeS) (h : (nArms x).length < 100000) : Q_graph_goes x = some (((goesP x).length, ()), (goesP x, ())) := by
  refine fin ?_
  refine Eq.trans (L_goes _ (nArms x) h FUEL 0 [nOther x] (by omega) (by simp) (by unfold FUEL; omega)) ?_
  rw [List.drop_zero]
  rfl

theorem L_refGoes (k : Nat → List Int → Option Res) (x : NodeS) (hl : (nArms x).length < 100000) : ∀ (m i : Nat) (out : List Int), i ≤ (nArms x).length → out.length ≤ i + 1 → (nArms x).length - i < m →
    L_turnoutref15_Goes_0 FUEL k x m out.length (i : Int) out = k (out ++ ((nArms x).drop i).map fun a => a.2.1).length (out ++ ((nArms x).drop i).map fun a => a.2.1)
  | 0, _, _, _, _, h => by omega
  | m + 1, i, out, hi, ho, hm => by
    show F_turnoutref15_Goes_0 FUEL k x (L_turnoutref15_Goes_0 FUEL k x m) out.length (i : Int) out = _
    unfold F_turnoutref15_Goes_0
    rw [show x.2.2.2.2.2.2.2.1 = nArms x from rfl]
    simp only [cond_dec, cutL_all]
    by_cases h : i < (nArms x).length
    · rw [if_pos (by omega), if_pos (by omega), if_pos (by omega)]
      simp only [toNat_cast]
      rw [i64_succ (by omega)]
      have := L_refGoes k x hl m (i + 1) (out ++ [(rdd zArmS (nArms x) i).2.1]) (by omega) (by simp; omega) (by omega)
      rw [List.length_append] at this
      refine Eq.trans this ?_
      rw [drop_rdd zArmS h]
      simp
    · rw [if_neg (by omega), List.drop_of_length_le (by omega)]
      simp

theorem Q_refGoes (x : NodeS) (h : (nArms x).length < 100000) : Q_turnoutref15_Goes x = some (((goesR x).length, ()), (goesR x, ())) := by
  refine fin ?_
  unfold M_turnoutref15_Goes
  refine Eq.trans (L_refGoes _ x h FUEL 0 [] (by omega) (by simp) (by unfold FUEL; omega)) ?_
  rw [List.drop_zero]
  simp only [List.nil_append, cutL_all, cond_dec]
  rw [if_pos (by simp; omega)]
  simp [goesR, nOther]

theorem mem_goesR {x : NodeS} {t : Int} : t ∈ goesR x ↔ t ∈ goesP x := by simp [goesR, goesP, or_comm]

/-! ### Forms -/
/-- All nodes are right, and their IDs rise, above one. -/
def formsOk : Int → List NodeS → Prop
  | _, [] => True
  | p, x :: r => formP x ∧ p < x.1 ∧ formsOk x.1 r
instance : ∀ (p : Int) (l : List NodeS), Decidable (formsOk p l)
  | _, [] => isTrue trivial
  | p, x :: r => by
    have := instDecidableFormsOk x.1 r
    unfold formsOk
    infer_instance
def prevI (l : List NodeS) (i : Nat) : Int := if i = 0 then 0 else (rdd zNodeS l (i - 1)).1

theorem L_form (kr : Bool → Option Res) (kt : Unit → Option Res) (l : List NodeS) (hl : l.length < 9223372036854775807) (hg : ∀ x ∈ l, nodeG x) : ∀ (m i : Nat), i ≤ l.length → l.length - i < m →
    L_graph_form_0 FUEL kr kt l l (l.length : Int) m (i : Int) = if formsOk (prevI l i) (l.drop i) then kt () else kr false
  | 0, _, _, h => by omega
  | m + 1, i, hi, hm => by
    show F_graph_form_0 FUEL kr kt l l (l.length : Int) (L_graph_form_0 FUEL kr kt l l (l.length : Int) m) (i : Int) = _
    unfold F_graph_form_0
    by_cases h : i < l.length
    · have hx := Q_Form (rdd zNodeS l i) (hg _ (rdd_mem h))
      simp only [cond_dec, toNat_cast, ok_graph_Form, q_graph_Form, hx, RS.get, Option.getD_some, Option.isSome_some, cond_true]
      rw [if_pos (by omega), if_pos (by omega), drop_rdd zNodeS h, i64_succ (by omega), L_form kr kt l hl hg m (i + 1) (by omega) (by omega)]
      have hp : prevI l (i + 1) = (rdd zNodeS l i).1 := by simp [prevI]
      rw [hp]
      have hprev : i > 0 → Int.toNat (IntKind.wrap .i64 ((i : Int) - 1)) = i - 1 := fun h => by rw [i64_pred h (by omega)]; rfl
      generalize hX : rdd zNodeS l i = x at *
      by_cases hf : formP x
      · simp only [decide_eq_true hf, Bool.not_true, cond_false]
        by_cases h3 : i = 0
        · subst h3
          rw [if_neg (by omega)]
          have h1 : 0 < x.1 := by have := hf.1; unfold formL at this; omega
          simp only [formsOk, hf, prevI, if_pos, h1, true_and]
        · rw [if_pos (by omega), hprev (by omega), if_pos (by rw [i64_pred (by omega) (by omega)]; omega)]
          have hp2 : prevI l i = (rdd zNodeS l (i - 1)).1 := by simp [prevI, h3]
          rw [hp2]
          by_cases h4 : x.1 ≤ (rdd zNodeS l (i - 1)).1
          · rw [if_pos h4, if_neg (by simp only [formsOk]; omega)]
          · rw [if_neg h4]
            have h5 : (rdd zNodeS l (i - 1)).1 < x.1 := by omega
            simp only [formsOk, hf, h5, true_and]
      · simp only [decide_eq_false hf, Bool.not_false, cond_true]
        rw [if_neg (by simp only [formsOk]; exact fun k => hf k.1)]
    · simp only [cond_dec]
      rw [if_neg (by omega), List.drop_of_length_le (by omega), if_pos (show formsOk _ [] from trivial)]

theorem Q_form (l : List NodeS) (hl : l.length < 9223372036854775807) (hg : ∀ x ∈ l, nodeG x) : Q_graph_form l = some ((decide (formsOk 0 l), ()), ()) := by
  refine fin ?_
  refine Eq.trans (L_form _ _ l hl hg FUEL 0 (by omega) (by unfold FUEL; omega)) ?_
  rw [List.drop_zero, show prevI l 0 = 0 from rfl]
  by_cases h : formsOk 0 l
  · rw [if_pos h, decide_eq_true h]
  · rw [if_neg h, decide_eq_false h]

/-! ### References -/
def refOk (l : List NodeS) (t : Int) : Bool := (findP l t).isSome || decide (t = 0) || decide (t = 65535)
def refsOk (l : List NodeS) : Prop := ∀ x ∈ l, ∀ t ∈ goesP x, refOk l t = true
instance (l : List NodeS) : Decidable (refsOk l) := by unfold refsOk; infer_instance

theorem L_refs2 (kr : Bool → Option Res) (kt : Unit → Option Res) (l : List NodeS) (hl : l.length < 9223372036854775807) (a : Int) (b : Int) (g : List Int) (hgl : g.length < 9223372036854775807) : ∀ (m i : Nat), i ≤ g.length → g.length - i < m →
    L_graph_refs_2 FUEL kr kt l l a b g.length (g.length : Int) g m (i : Int) = if ∀ t ∈ g.drop i, refOk l t = true then kt () else kr false
  | 0, _, _, h => by omega
  | m + 1, i, hi, hm => by
    show F_graph_refs_2 FUEL kr kt l l a b g.length (g.length : Int) g (L_graph_refs_2 FUEL kr kt l l a b g.length (g.length : Int) g m) (i : Int) = _
    unfold F_graph_refs_2
    by_cases h : i < g.length
    · simp only [cond_dec, toNat_cast, ok_graph_Find, q_graph_Find, Q_Find l _ hl, RS.get, Option.getD_some, Option.isSome_some, cond_true, int_bne, Bool.cond_not]
      rw [if_pos (by omega), if_pos (by omega), drop_rdd (0 : Int) h, i64_succ (by omega), L_refs2 kr kt l hl a b g hgl m (i + 1) (by omega) (by omega)]
      generalize rdd (0 : Int) g i = t
      have hfb : (findV (findP l t)).2.1 = (findP l t).isSome := by cases findP l t <;> rfl
      simp only [hfb, List.forall_mem_cons, refOk]
      cases hf : (findP l t).isSome
      · by_cases h0 : t = 0
        · simp [h0]
        · by_cases h1 : t = 65535
          · simp [h1]
          · simp [h0, h1]
      · simp
    · simp only [cond_dec]
      rw [if_neg (by omega), List.drop_of_length_le (by omega), if_pos (by simp)]

theorem L_refs (kr : Bool → Option Res) (kt : Unit → Option Res) (l : List NodeS) (hl : l.length < 9223372036854775807) (hg : ∀ x ∈ l, (nArms x).length < 100000) : ∀ (m i : Nat), i ≤ l.length → l.length - i < m →
    L_graph_refs_0 FUEL kr kt l l (l.length : Int) m (i : Int) = if ∀ x ∈ l.drop i, ∀ t ∈ goesP x, refOk l t = true then kt () else kr false
  | 0, _, _, h => by omega
  | m + 1, i, hi, hm => by
    show F_graph_refs_0 FUEL kr kt l l (l.length : Int) (L_graph_refs_0 FUEL kr kt l l (l.length : Int) m) (i : Int) = _
    unfold F_graph_refs_0
    by_cases h : i < l.length
    · have hx := Q_goes (rdd zNodeS l i) (hg _ (rdd_mem h))
      have hgl : (goesP (rdd zNodeS l i)).length < 9223372036854775807 := by
        have := hg _ (rdd_mem (d := zNodeS) h)
        simp [goesP]; omega
      simp only [cond_dec, toNat_cast, ok_graph_goes, q_graph_goes, hx, RS.get, Option.getD_some, Option.isSome_some, cond_true]
      rw [if_pos (by omega), if_pos (by omega), drop_rdd zNodeS h, i64_succ (by omega), L_refs kr kt l hl hg m (i + 1) (by omega) (by omega)]
      refine Eq.trans (L_refs2 _ _ l hl _ _ _ hgl FUEL 0 (by omega) (by unfold FUEL; omega)) ?_
      simp only [List.drop_zero, List.forall_mem_cons]
      by_cases h1 : ∀ t ∈ goesP (rdd zNodeS l i), refOk l t = true
      · rw [if_pos h1]
        by_cases h2 : ∀ x ∈ l.drop (i + 1), ∀ t ∈ goesP x, refOk l t = true
        · rw [if_pos h2, if_pos ⟨h1, h2⟩]
        · rw [if_neg h2, if_neg (fun k => h2 k.2)]
      · rw [if_neg h1, if_neg (fun k => h1 k.1)]
    · simp only [cond_dec]
      rw [if_neg (by omega), List.drop_of_length_le (by omega), if_pos (by simp)]

theorem Q_refs (l : List NodeS) (hl : l.length < 9223372036854775807) (hg : ∀ x ∈ l, (nArms x).length < 100000) : Q_graph_refs l = some ((decide (refsOk l), ()), ()) := by
  refine fin ?_
  refine Eq.trans (L_refs _ _ l hl hg FUEL 0 (by omega) (by unfold FUEL; omega)) ?_
  rw [List.drop_zero]
  by_cases h : refsOk l
  · rw [decide_eq_true h]; exact if_pos h
  · rw [decide_eq_false h]; exact if_neg h
end Go.AMach
