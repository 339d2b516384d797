/- Layer 16: the document's May. -/
import Derived.Test.YtcakaagbhngkhaaPp
namespace Go.AMach
set_option linter.unusedVariables false
set_option linter.unusedSimpArgs false
set_option linter.unnecessarySimpa false
open Go
set_option linter.unusedVariables false

theorem find_unique : ∀ {p : Int} {l : List NodeS}, formsOk p l → ∀ x ∈ l, findP l x.1 = some x
  | p, [], _, x, hx => by cases hx
  | p, y :: r, h, x, hx => by
    obtain ⟨h1, h2, h3⟩ := h
    unfold findP
    rw [List.find?_cons]
    rcases List.mem_cons.1 hx with rfl | hx
    · simp
    · have := (formsOk_mem h3 x hx).2
      have : ¬ y.1 = x.1 := by omega
      simp only [this, decide_false]
      exact find_unique h3 x hx

theorem L_rFind (kr : Bool → NodeS → Option Res) (kt : Unit → Option Res) (id : Int) (l : List NodeS) (z : NodeS) (hl : l.length < 9223372036854775807) : ∀ (m i : Nat), i ≤ l.length → l.length - i < m →
    L_turnoutref15_Find_0 FUEL kr kt l id z m (i : Int) = match findP (l.drop i) id with | some x => kr true x | none => kt ()
  | 0, _, _, h => by omega
  | m + 1, i, hi, hm => by
    show F_turnoutref15_Find_0 FUEL kr kt l id z (L_turnoutref15_Find_0 FUEL kr kt l id z m) (i : Int) = _
    unfold F_turnoutref15_Find_0
    simp only [cond_dec, int_beq]
    by_cases h : i < l.length
    · have hin : (0 : Int) ≤ (i : Int) ∧ (i : Int) < ((l.length : Nat) : Int) := by omega
      simp only [if_pos hin]
      rw [if_pos (by omega), drop_rdd zNodeS h]
      simp only [toNat_cast, findP, List.find?_cons]
      by_cases he : (rdd zNodeS l i).1 = id
      · simp [he]
      · rw [if_neg he, i64_succ (by omega), L_rFind kr kt id l z hl m (i + 1) (by omega) (by omega)]
        simp [he, findP]
    · rw [if_neg (by omega), List.drop_of_length_le (by omega)]
      rfl
theorem Q_rFind (l : List NodeS) (id : Int) (hl : l.length < 9223372036854775807) : Q_turnoutref15_Find l id = some (findV (findP l id), ()) := by
  refine fin ?_
  refine Eq.trans (L_rFind _ _ id l _ hl FUEL 0 (by omega) (by unfold FUEL; omega)) ?_
  rw [List.drop_zero]
  cases findP l id <;> rfl

theorem L_rForms (kr : Int → Option Res) (kt : Unit → Option Res) (l : List NodeS) (hl : l.length < 9223372036854775807) (hg : ∀ x ∈ l, nodeG x) : ∀ (m i : Nat), i ≤ l.length → l.length - i < m →
    L_turnoutref15_May_0 FUEL kr kt l m (i : Int) = if formsOk (prevI l i) (l.drop i) then kt () else kr 3
  | 0, _, _, h => by omega
  | m + 1, i, hi, hm => by
    show F_turnoutref15_May_0 FUEL kr kt l (L_turnoutref15_May_0 FUEL kr kt l m) (i : Int) = _
    unfold F_turnoutref15_May_0
    by_cases h : i < l.length
    · have hx := Q_refForm (rdd zNodeS l i) (hg _ (rdd_mem h))
      simp only [cond_dec, toNat_cast, ok_turnoutref15_Form, q_turnoutref15_Form, hx, RS.get, Option.getD_some, Option.isSome_some, cond_true]
      rw [if_pos (by omega), if_pos (by omega), drop_rdd zNodeS h, i64_succ (by omega), L_rForms kr kt l hl hg m (i + 1) (by omega) (by omega)]
      have hp : prevI l (i + 1) = (rdd zNodeS l i).1 := by simp [prevI]
      rw [hp]
      have hprev : i > 0 → Int.toNat (IntKind.wrap .i64 ((i : Int) - 1)) = i - 1 := fun h => by rw [i64_pred h (by omega)]; rfl
      generalize hX : rdd zNodeS l i = x at *
      by_cases hf : formP x
      · simp only [decide_eq_true hf, Bool.not_true, cond_false]
        by_cases h3 : i = 0
        · subst h3
          rw [if_neg (by omega)]
          have h1 : 0 < x.1 := by have := hf.1; unfold formL at this; omega
          simp only [formsOk, hf, prevI, if_pos, h1, true_and]
        · rw [if_pos (by omega), if_pos (by omega), hprev (by omega), if_pos (by rw [i64_pred (by omega) (by omega)]; omega)]
          have hp2 : prevI l i = (rdd zNodeS l (i - 1)).1 := by simp [prevI, h3]
          rw [hp2]
          by_cases h4 : x.1 ≤ (rdd zNodeS l (i - 1)).1
          · rw [if_pos h4, if_neg (by simp only [formsOk]; omega)]
          · rw [if_neg h4]
            have h5 : (rdd zNodeS l (i - 1)).1 < x.1 := by omega
            simp only [formsOk, hf, h5, true_and]
      · simp only [decide_eq_false hf, Bool.not_false, cond_true]
        rw [if_neg (by simp only [formsOk]; exact fun k => hf k.1)]
    · simp only [cond_dec]
      rw [if_neg (by omega), List.drop_of_length_le (by omega), if_pos (show formsOk _ [] from trivial)]

theorem L_rRefs2 (kr : Int → Option Res) (kt : Unit → Option Res) (l : List NodeS) (hl : l.length < 9223372036854775807) (a : Int) (g : List Int) (hgl : g.length < 9223372036854775807) : ∀ (m i : Nat), i ≤ g.length → g.length - i < m →
    L_turnoutref15_May_4 FUEL kr kt l a g.length g m (i : Int) = if ∀ t ∈ g.drop i, refOk l t = true then kt () else kr 8
  | 0, _, _, h => by omega
  | m + 1, i, hi, hm => by
    show F_turnoutref15_May_4 FUEL kr kt l a g.length g (L_turnoutref15_May_4 FUEL kr kt l a g.length g m) (i : Int) = _
    unfold F_turnoutref15_May_4
    by_cases h : i < g.length
    · have hin : (0 : Int) ≤ (i : Int) ∧ (i : Int) < ((g.length : Nat) : Int) := by omega
      simp only [cond_dec, toNat_cast, ok_turnoutref15_Find, q_turnoutref15_Find, Q_rFind l _ hl, RS.get, Option.getD_some, Option.isSome_some, cond_true, int_bne, Bool.cond_not, if_pos hin]
      rw [if_pos (by omega), drop_rdd (0 : Int) h, i64_succ (by omega), L_rRefs2 kr kt l hl a g hgl m (i + 1) (by omega) (by omega)]
      generalize rdd (0 : Int) g i = t
      have hfb : (findV (findP l t)).2.1 = (findP l t).isSome := by cases findP l t <;> rfl
      simp only [hfb, List.forall_mem_cons, refOk]
      cases hf : (findP l t).isSome
      · by_cases h0 : t = 0
        · simp [h0]
        · by_cases h1 : t = 65535
          · simp [h1]
          · simp [h0, h1]
      · simp
    · simp only [cond_dec]
      rw [if_neg (by omega), List.drop_of_length_le (by omega), if_pos (by simp)]

theorem L_rRefs (kr : Int → Option Res) (kt : Unit → Option Res) (l : List NodeS) (hl : l.length < 9223372036854775807) (hg : ∀ x ∈ l, (nArms x).length < 100000) : ∀ (m i : Nat), i ≤ l.length → l.length - i < m →
    L_turnoutref15_May_2 FUEL kr kt l m (i : Int) = if ∀ x ∈ l.drop i, ∀ t ∈ goesR x, refOk l t = true then kt () else kr 8
  | 0, _, _, h => by omega
  | m + 1, i, hi, hm => by
    show F_turnoutref15_May_2 FUEL kr kt l (L_turnoutref15_May_2 FUEL kr kt l m) (i : Int) = _
    unfold F_turnoutref15_May_2
    by_cases h : i < l.length
    · have hx := Q_refGoes (rdd zNodeS l i) (hg _ (rdd_mem h))
      have hgl : (goesR (rdd zNodeS l i)).length < 9223372036854775807 := by
        have := hg _ (rdd_mem (d := zNodeS) h)
        simp [goesR]; omega
      simp only [cond_dec, toNat_cast, ok_turnoutref15_Goes, q_turnoutref15_Goes, hx, RS.get, Option.getD_some, Option.isSome_some, cond_true]
      rw [if_pos (by omega), if_pos (by omega), drop_rdd zNodeS h, i64_succ (by omega), L_rRefs kr kt l hl hg m (i + 1) (by omega) (by omega)]
      refine Eq.trans (L_rRefs2 _ _ l hl _ _ hgl FUEL 0 (by omega) (by unfold FUEL; omega)) ?_
      simp only [List.drop_zero, List.forall_mem_cons]
      by_cases h1 : ∀ t ∈ goesR (rdd zNodeS l i), refOk l t = true
      · rw [if_pos h1]
        by_cases h2 : ∀ x ∈ l.drop (i + 1), ∀ t ∈ goesR x, refOk l t = true
        · rw [if_pos h2, if_pos ⟨h1, h2⟩]
        · rw [if_neg h2, if_neg (fun k => h2 k.2)]
      · rw [if_neg h1, if_neg (fun k => h1 k.1)]
    · simp only [cond_dec]
      rw [if_neg (by omega), List.drop_of_length_le (by omega), if_pos (by simp)]

theorem L_r66 (kr : Int → Option Res) (kt : Unit → Option Res) (l : List NodeS) (r : List Int) (hr : r.length < 1000000) : ∀ (m i : Nat), i ≤ r.length → r.length - i < m →
    L_turnoutref15_May_6 FUEL kr kt l r.length r m (i : Int) = if ∀ v ∈ r.drop i, v ≤ (l.length : Int) then kt () else kr 10
  | 0, _, _, h => by omega
  | m + 1, i, hi, hm => by
    show F_turnoutref15_May_6 FUEL kr kt l r.length r (L_turnoutref15_May_6 FUEL kr kt l r.length r m) (i : Int) = _
    unfold F_turnoutref15_May_6
    simp only [cond_dec, toNat_cast]
    by_cases h : i < r.length
    · rw [if_pos (by omega), if_pos (by omega), drop_rdd (0 : Int) h, i64_succ (by omega), L_r66 kr kt l r hr m (i + 1) (by omega) (by omega)]
      simp only [List.forall_mem_cons]
      by_cases hv : rdd 0 r i > (l.length : Int)
      · rw [if_pos hv, if_neg (fun k => by have := k.1; omega)]
      · rw [if_neg hv]
        by_cases h2 : ∀ v ∈ r.drop (i + 1), v ≤ (l.length : Int)
        · rw [if_pos h2, if_pos ⟨by omega, h2⟩]
        · rw [if_neg h2, if_neg (fun k => h2 k.2)]
    · rw [if_neg (by omega), List.drop_of_length_le (by omega), if_pos (by simp)]

/-- The document's May, and the program's. -/
theorem Q_rMay (l : List NodeS) (hl : Nodes l) : ∃ v : Int, Q_turnoutref15_May l = some ((v, ()), ()) ∧ (v = 0 ↔ mayP l) := by
  by_cases h1 : formsOk 0 l
  case neg =>
    refine ⟨3, fin ?_, fun h => by omega, fun hm => absurd hm.1 h1⟩
    unfold M_turnoutref15_May
    refine Eq.trans (L_rForms _ _ l hl.len hl.g FUEL 0 (by omega) (by have := hl.len; unfold FUEL; omega)) ?_
    rw [List.drop_zero, show prevI l 0 = 0 from rfl, if_neg h1]
  by_cases h2 : l.length ≤ 32
  case neg =>
    refine ⟨12, fin ?_, fun h => by omega, fun hm => absurd hm.2.1 h2⟩
    unfold M_turnoutref15_May
    refine Eq.trans (L_rForms _ _ l hl.len hl.g FUEL 0 (by omega) (by have := hl.len; unfold FUEL; omega)) ?_
    rw [List.drop_zero, show prevI l 0 = 0 from rfl, if_pos h1, cond_dec, if_pos (by omega)]
  have hrefs : (∀ x ∈ l, ∀ t ∈ goesR x, refOk l t = true) ↔ refsOk l := by
    unfold refsOk
    constructor
    · exact fun h x hx t ht => h x hx t (mem_goesR.2 ht)
    · exact fun h x hx t ht => h x hx t (mem_goesR.1 ht)
  by_cases h3 : refsOk l
  case neg =>
    refine ⟨8, fin ?_, fun h => by omega, fun hm => absurd hm.2.2.1 h3⟩
    unfold M_turnoutref15_May
    refine Eq.trans (L_rForms _ _ l hl.len hl.g FUEL 0 (by omega) (by have := hl.len; unfold FUEL; omega)) ?_
    rw [List.drop_zero, show prevI l 0 = 0 from rfl, if_pos h1, cond_dec, if_neg (by omega)]
    refine Eq.trans (L_rRefs _ _ l hl.len hl.arms FUEL 0 (by omega) (by unfold FUEL; omega)) ?_
    rw [List.drop_zero, if_neg (fun k => h3 (hrefs.1 k))]
  have hr := Q_ranks l h2 hl.arms (find_unique h1) (l.length + 1) (by omega)
  have e : IntKind.wrap .i64 ((l.length : Int) + 1) = ((l.length + 1 : Nat) : Int) := i64_succ (by omega)
  obtain ⟨r, hR⟩ : ∃ r : List Int, r = l.map fun (x : NodeS) => rk l (l.length + 1) x.1 := ⟨_, rfl⟩
  rw [← hR] at hr
  have hrl : r.length = l.length := by rw [hR]; simp
  have h6 := L_r66 (fun y8 => some (encRes ro_turnoutref15_May rh_turnoutref15_May ((y8, ()), ()))) (fun _ => some (encRes ro_turnoutref15_May rh_turnoutref15_May (((0 : Int), ()), ()))) l r (by omega) FUEL 0 (by omega) (by unfold FUEL; omega)
  rw [List.drop_zero, hrl] at h6
  have hM : M_turnoutref15_May FUEL l = (if ∀ v ∈ r, v ≤ (l.length : Int) then some (encRes ro_turnoutref15_May rh_turnoutref15_May (((0 : Int), ()), ())) else some (encRes ro_turnoutref15_May rh_turnoutref15_May (((10 : Int), ()), ()))) := by
    unfold M_turnoutref15_May
    refine Eq.trans (L_rForms _ _ l hl.len hl.g FUEL 0 (by omega) (by have := hl.len; unfold FUEL; omega)) ?_
    rw [List.drop_zero, show prevI l 0 = 0 from rfl, if_pos h1, cond_dec, if_neg (by omega)]
    refine Eq.trans (L_rRefs _ _ l hl.len hl.arms FUEL 0 (by omega) (by unfold FUEL; omega)) ?_
    rw [List.drop_zero, if_pos (hrefs.2 h3)]
    simp only [e, ok_turnoutref15_ranks, q_turnoutref15_ranks, hr, RS.get, Option.getD_some, Option.isSome_some, cond_true]
    exact h6
  by_cases h4 : ∀ v ∈ r, v ≤ (l.length : Int)
  · rw [if_pos h4] at hM
    exact ⟨0, fin hM, fun _ => ⟨h1, h2, h3, _, hgt_rk (r := l.length) fun x hx => h4 _ (by rw [hR]; exact List.mem_map.2 ⟨x, hx, rfl⟩)⟩, fun _ => rfl⟩
  · rw [if_neg h4] at hM
    refine ⟨10, fin hM, fun h => by omega, fun hm => ?_⟩
    exfalso
    apply h4
    intro v hv
    rw [hR] at hv
    obtain ⟨x, hx, rfl⟩ := List.mem_map.1 hv
    obtain ⟨h, H⟩ := hm.2.2.2
    exact Int.le_trans (rk_hgt H _ _) (Hgt.le h2 hl.arms H x.1)
end Go.AMach
