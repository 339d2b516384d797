/- Parts of the proof. -/
import Derived.Test.YtfmjdojndbpkhaaPb
import Derived.KernelRfl
/- Layer 24: a configuration's objects. -/
namespace Go.AMach
set_option linter.unusedVariables false
set_option linter.unusedSimpArgs false
set_option linter.unnecessarySimpa false
open Go
set_option linter.unusedVariables false

abbrev cT (c : ConfigS) : List TableS := c.2.2.1
abbrev cE (c : ConfigS) : List EntryS := c.2.2.2.1
abbrev cB (c : ConfigS) : List BlockS := c.2.2.2.2.1
abbrev cG (c : ConfigS) : List GroupS := c.2.2.2.2.2.1
abbrev eB (x : EntryS) : Int := x.2.2.2.2.2.1
abbrev tM (x : TableS) : Int := x.2.2.2.2.1
/-- The first one of a number. -/
def firstT (l : List TableS) (k : Int) : Option TableS := l.find? fun t => decide (t.1 = k)
def firstB (l : List BlockS) (k : Int) : Option BlockS := l.find? fun t => decide (t.1 = k)
def firstG (l : List GroupS) (k : Int) : Option GroupS := l.find? fun t => decide (t.1 = k)
def tabsV (c : ConfigS) : TabM := fun k => (firstT (cT c) k).map fun t => tM t :: ((cE c).filter fun x => decide (x.1 = k)).map eB
def blksV (c : ConfigS) : BlkM := fun k => (firstB (cB c) k).map fun x => x.2.1
def grpsV (c : ConfigS) : GrpM := fun k => firstG (cG c) k
def allV (c : ConfigS) : List ObjS := (solveG c).2

theorem putI_at {α : Type} (k : Int) (v : α) (g : Int → Option α) (i : Int) : putI k v g i = if i = k then some v else g i := by
  unfold putI; rw [cond_dec]
theorem orElse_some {α : Type} {a b : Option α} {x : α} (h : a = some x) : a.or b = some x := by rw [h]; rfl

theorem solve1_at : ∀ (l : List TableS) (g : TabM) (o : List ObjS) (k : Int), (solve1 l g o).1 k = (g k).or ((firstT l k).map fun t => [tM t])
  | [], g, o, k => by simp [solve1, firstT]
  | t :: r, g, o, k => by
    unfold solve1
    cases hg : g t.1 with
    | some v =>
      show (solve1 r g o).1 k = _
      rw [solve1_at r g o k]
      by_cases h : t.1 = k
      · rw [← h, hg]; rfl
      · simp [firstT, List.find?_cons, h]
    | none =>
      show (solve1 r (putI t.1 [tM t] g) (o ++ [(0, (t.1, ()))])).1 k = _
      rw [solve1_at r _ _ k, putI_at]
      by_cases h : k = t.1
      · subst h
        rw [if_pos rfl, hg]
        simp [firstT, List.find?_cons]
      · rw [if_neg h]
        have : ¬ t.1 = k := fun e => h e.symm
        simp [firstT, List.find?_cons, this]
theorem solve3_at : ∀ (l : List BlockS) (g : BlkM) (o : List ObjS) (k : Int), (solve3 l g o).1 k = (g k).or ((firstB l k).map fun t => t.2.1)
  | [], g, o, k => by simp [solve3, firstB]
  | t :: r, g, o, k => by
    unfold solve3
    cases hg : g t.1 with
    | some v =>
      show (solve3 r g o).1 k = _
      rw [solve3_at r g o k]
      by_cases h : t.1 = k
      · rw [← h, hg]; rfl
      · simp [firstB, List.find?_cons, h]
    | none =>
      show (solve3 r (putI t.1 t.2.1 g) (o ++ [(1, (t.1, ()))])).1 k = _
      rw [solve3_at r _ _ k, putI_at]
      by_cases h : k = t.1
      · subst h
        rw [if_pos rfl, hg]
        simp [firstB, List.find?_cons]
      · rw [if_neg h]
        have : ¬ t.1 = k := fun e => h e.symm
        simp [firstB, List.find?_cons, this]
theorem solve4_at : ∀ (l : List GroupS) (g : GrpM) (o : List ObjS) (k : Int), (solve4 l g o).1 k = (g k).or (firstG l k)
  | [], g, o, k => by simp [solve4, firstG]
  | t :: r, g, o, k => by
    unfold solve4
    cases hg : g t.1 with
    | some v =>
      show (solve4 r g o).1 k = _
      rw [solve4_at r g o k]
      by_cases h : t.1 = k
      · rw [← h, hg]; rfl
      · simp [firstG, List.find?_cons, h]
    | none =>
      show (solve4 r (putI t.1 t g) (o ++ [(2, (t.1, ()))])).1 k = _
      rw [solve4_at r _ _ k, putI_at]
      by_cases h : k = t.1
      · subst h
        rw [if_pos rfl, hg]
        simp [firstG, List.find?_cons]
      · rw [if_neg h]
        have : ¬ t.1 = k := fun e => h e.symm
        simp [firstG, List.find?_cons, this]
theorem solve2_at : ∀ (l : List EntryS) (g : TabM) (k : Int), solve2 l g k = (g k).map fun v => v ++ (l.filter fun x => decide (x.1 = k)).map eB
  | [], g, k => by simp [solve2]
  | x :: r, g, k => by
    unfold solve2
    cases hg : g x.1 with
    | none =>
      show solve2 r g k = _
      rw [solve2_at r g k]
      by_cases h : x.1 = k
      · rw [← h, hg]; rfl
      · simp [List.filter_cons, h]
    | some v =>
      show solve2 r (putI x.1 (v ++ [eB x]) g) k = _
      rw [solve2_at r _ k, putI_at]
      by_cases h : k = x.1
      · subst h
        rw [if_pos rfl, hg]
        simp [List.filter_cons]
      · rw [if_neg h]
        have : ¬ x.1 = k := fun e => h e.symm
        simp [List.filter_cons, this]
theorem tabs_eq (c : ConfigS) : solve2 (cE c) (solveT c).1 = tabsV c := by
  funext k
  rw [solve2_at]
  unfold solveT tabsV
  rw [solve1_at]
  cases firstT (cT c) k <;> simp
theorem blks_eq (c : ConfigS) : (solveB c).1 = blksV c := by
  funext k
  unfold solveB blksV
  rw [solve3_at]
  cases firstB (cB c) k <;> simp
theorem grps_eq (c : ConfigS) : (solveG c).1 = grpsV c := by
  funext k
  unfold solveG grpsV
  rw [solve4_at]
  cases firstG (cG c) k <;> simp

/-! ### The objects -/
theorem solve1_mem : ∀ (l : List TableS) (g : TabM) (o : List ObjS) (x : ObjS), (x ∈ o ∨ ((firstT l x.2.1).isSome = true ∧ g x.2.1 = none ∧ x.1 = 0)) → x ∈ (solve1 l g o).2
  | [], g, o, x, h => by
    rcases h with h | ⟨h, _⟩
    · exact h
    · simp [firstT] at h
  | t :: r, g, o, x, h => by
    unfold solve1
    cases hg : g t.1 with
    | some v =>
      refine solve1_mem r g o x ?_
      rcases h with h | ⟨h, h2, h3⟩
      · exact .inl h
      · by_cases e : t.1 = x.2.1
        · rw [← e, hg] at h2; cases h2
        · simp only [firstT, List.find?_cons, e, decide_false] at h
          exact .inr ⟨h, h2, h3⟩
    | none =>
      refine solve1_mem r _ _ x ?_
      rcases h with h | ⟨h, h2, h3⟩
      · exact .inl (List.mem_append_left _ h)
      · by_cases e : t.1 = x.2.1
        · refine .inl (List.mem_append_right _ ?_)
          rw [e, ← h3]
          exact List.mem_singleton.2 rfl
        · simp only [firstT, List.find?_cons, e, decide_false] at h
          refine .inr ⟨h, ?_, h3⟩
          rw [putI_at, if_neg (fun q => e q.symm)]; exact h2
theorem solve3_mem : ∀ (l : List BlockS) (g : BlkM) (o : List ObjS) (x : ObjS), (x ∈ o ∨ ((firstB l x.2.1).isSome = true ∧ g x.2.1 = none ∧ x.1 = 1)) → x ∈ (solve3 l g o).2
  | [], g, o, x, h => by
    rcases h with h | ⟨h, _⟩
    · exact h
    · simp [firstB] at h
  | t :: r, g, o, x, h => by
    unfold solve3
    cases hg : g t.1 with
    | some v =>
      refine solve3_mem r g o x ?_
      rcases h with h | ⟨h, h2, h3⟩
      · exact .inl h
      · by_cases e : t.1 = x.2.1
        · rw [← e, hg] at h2; cases h2
        · simp only [firstB, List.find?_cons, e, decide_false] at h
          exact .inr ⟨h, h2, h3⟩
    | none =>
      refine solve3_mem r _ _ x ?_
      rcases h with h | ⟨h, h2, h3⟩
      · exact .inl (List.mem_append_left _ h)
      · by_cases e : t.1 = x.2.1
        · refine .inl (List.mem_append_right _ ?_)
          rw [e, ← h3]
          exact List.mem_singleton.2 rfl
        · simp only [firstB, List.find?_cons, e, decide_false] at h
          refine .inr ⟨h, ?_, h3⟩
          rw [putI_at, if_neg (fun q => e q.symm)]; exact h2
theorem solve4_mem : ∀ (l : List GroupS) (g : GrpM) (o : List ObjS) (x : ObjS), (x ∈ o ∨ ((firstG l x.2.1).isSome = true ∧ g x.2.1 = none ∧ x.1 = 2)) → x ∈ (solve4 l g o).2
  | [], g, o, x, h => by
    rcases h with h | ⟨h, _⟩
    · exact h
    · simp [firstG] at h
  | t :: r, g, o, x, h => by
    unfold solve4
    cases hg : g t.1 with
    | some v =>
      refine solve4_mem r g o x ?_
      rcases h with h | ⟨h, h2, h3⟩
      · exact .inl h
      · by_cases e : t.1 = x.2.1
        · rw [← e, hg] at h2; cases h2
        · simp only [firstG, List.find?_cons, e, decide_false] at h
          exact .inr ⟨h, h2, h3⟩
    | none =>
      refine solve4_mem r _ _ x ?_
      rcases h with h | ⟨h, h2, h3⟩
      · exact .inl (List.mem_append_left _ h)
      · by_cases e : t.1 = x.2.1
        · refine .inl (List.mem_append_right _ ?_)
          rw [e, ← h3]
          exact List.mem_singleton.2 rfl
        · simp only [firstG, List.find?_cons, e, decide_false] at h
          refine .inr ⟨h, ?_, h3⟩
          rw [putI_at, if_neg (fun q => e q.symm)]; exact h2
theorem solve1_len : ∀ (l : List TableS) (g : TabM) (o : List ObjS), (solve1 l g o).2.length ≤ o.length + l.length
  | [], g, o => by simp [solve1]
  | t :: r, g, o => by
    unfold solve1
    cases hg : g t.1 with
    | some v => exact Nat.le_trans (solve1_len r g o) (by simp)
    | none => exact Nat.le_trans (solve1_len r _ _) (by simp; omega)
theorem solve3_len : ∀ (l : List BlockS) (g : BlkM) (o : List ObjS), (solve3 l g o).2.length ≤ o.length + l.length
  | [], g, o => by simp [solve3]
  | t :: r, g, o => by
    unfold solve3
    cases hg : g t.1 with
    | some v => exact Nat.le_trans (solve3_len r g o) (by simp)
    | none => exact Nat.le_trans (solve3_len r _ _) (by simp; omega)
theorem solve4_len : ∀ (l : List GroupS) (g : GrpM) (o : List ObjS), (solve4 l g o).2.length ≤ o.length + l.length
  | [], g, o => by simp [solve4]
  | t :: r, g, o => by
    unfold solve4
    cases hg : g t.1 with
    | some v => exact Nat.le_trans (solve4_len r g o) (by simp)
    | none => exact Nat.le_trans (solve4_len r _ _) (by simp; omega)

/-- A configuration of such a size. -/
structure Cfg (c : ConfigS) : Prop where
  t : (cT c).length ≤ 1000
  e : (cE c).length ≤ 1000
  b : (cB c).length ≤ 1000
  g : (cG c).length ≤ 1000
  code : ∀ x ∈ cB c, x.2.1.length ≤ 100000
  buck : ∀ x ∈ cG c, x.2.2.2.1.length ≤ 100000
abbrev leadsC (c : ConfigS) : ObjS → List ObjS := leadsV (tabsV c) (blksV c) (grpsV c)
theorem Cfg.sol {c : ConfigS} (h : Cfg c) : Sol (allV c) (tabsV c) (blksV c) (grpsV c) where
  small := by
    refine ⟨fun k l hl => ?_, fun k l hl => ?_, fun k x hx => ?_⟩
    · unfold tabsV at hl
      obtain ⟨t, _, rfl⟩ := Option.map_eq_some_iff.1 hl
      have : ((cE c).filter fun x => decide (x.1 = k)).length ≤ (cE c).length := List.length_filter_le _ _
      have := h.e
      simp only [List.length_cons, List.length_map]
      omega
    · unfold blksV at hl
      obtain ⟨t, ht, rfl⟩ := Option.map_eq_some_iff.1 hl
      exact h.code t (List.mem_of_find?_eq_some ht)
    · exact h.buck x (List.mem_of_find?_eq_some hx)
  here := fun x hk hne => by
    unfold allV solveG
    refine solve4_mem _ _ _ x ?_
    rcases hk with h0 | h1 | h2
    · left
      unfold solveB
      refine solve3_mem _ _ _ x (.inl ?_)
      unfold solveT
      refine solve1_mem _ _ _ x (.inr ⟨?_, rfl, h0⟩)
      unfold leadsV at hne
      rw [if_pos h0] at hne
      unfold tabsV at hne
      cases hf : firstT (cT c) x.2.1 with
      | some v => rfl
      | none => rw [hf] at hne; exact absurd rfl hne
    · left
      unfold solveB
      refine solve3_mem _ _ _ x (.inr ⟨?_, rfl, h1⟩)
      unfold leadsV at hne
      rw [if_neg (by omega), if_pos h1] at hne
      unfold blksV at hne
      cases hf : firstB (cB c) x.2.1 with
      | some v => rfl
      | none => rw [hf] at hne; exact absurd rfl hne
    · right
      refine ⟨?_, rfl, h2⟩
      unfold leadsV at hne
      rw [if_neg (by omega), if_neg (by omega)] at hne
      unfold grpsV at hne
      cases hf : firstG (cG c) x.2.1 with
      | some v => rfl
      | none => rw [hf] at hne; exact absurd rfl hne
  len := by
    have h1 := solve1_len (cT c) (fun _ => none) []
    have h2 := solve3_len (cB c) (fun _ => none) (solveT c).2
    have h3 := solve4_len (cG c) (fun _ => none) (solveB c).2
    have e1 : (solveT c).2.length ≤ 0 + (cT c).length := h1
    have e2 : (solveB c).2.length ≤ (solveT c).2.length + (cB c).length := h2
    have e3 : (allV c).length ≤ (solveB c).2.length + (cG c).length := h3
    have := h.t; have := h.b; have := h.g
    omega
theorem Q_solve {c : ConfigS} (h : Cfg c) : Q_z02 c = some (((), ()), solS (allV c) (tabsV c) (blksV c) (grpsV c)) := by
  unfold Q_z02 solveQ
  refine stepT' (decide_eq_true ⟨h.t, h.e, h.b, h.g⟩) ?_
  rw [← tabs_eq, ← blks_eq, ← grps_eq]
  rfl
end Go.AMach

/- Layer 24: the package's functions. -/
namespace Go.AMach
set_option linter.unusedVariables false
set_option linter.unusedSimpArgs false
set_option linter.unnecessarySimpa false
open Go
set_option linter.unusedVariables false

abbrev RingC (c : ConfigS) : Prop := Ring (leadsC c)
noncomputable abbrev HC (c : ConfigS) : ObjS → Int := H (tabsV c) (blksV c) (grpsV c)
open Classical in
noncomputable def ofV (c : ConfigS) (x : ObjS) : Int × Int := if RingC c then (0, 10) else (HC c x, 0)

theorem Sol.ends {all : List ObjS} {t : TabM} {b : BlkM} {g : GrpM} (h : Sol all t b g) (hn : ¬ Ring (leadsV t b g)) (x : ObjS) : Ends (leadsV t b g) x := by
  have hall : ∀ y ∈ all, Ends (leadsV t b g) y := by
    rcases L_cycle h (fun y2 y3 y4 y5 y6 => none) (fun y3 y4 y5 y6 => none) FUEL 0 (fun _ => none) (by omega) (fuel_big (by have := h.len; omega)) (fun _ => .inl rfl) (fun x hx => by cases hx) (fun u hu => by cases hu) with ⟨e, hr⟩ | ⟨e, hf⟩
    · exact absurd hr hn
    · intro y hy; exact hf y (by simpa using hy)
  refine Acc.intro _ fun y hy => ?_
  by_cases e : leadsV t b g y = []
  · exact Acc.intro _ fun z hz => by
      have hz : z ∈ leadsV t b g y := hz
      rw [e] at hz; cases hz
  · exact hall y (h.here y (leads_kind hy) e)

open Classical in
theorem Q_of {c : ConfigS} (h : Cfg c) (x : ObjS) : Q_z09 c x = some (((ofV c x).1, ((ofV c x).2, ())), ()) := by
  have hs := h.sol
  have e1 := Q_solve h
  have e2 := Q_cycle hs
  refine fin ?_
  unfold M_z09
  extract_lets -merge +onlyGivenNames y1
  have e_y1 : y1 = _ := (congrArg RS.get e1).trans (get_some _)
  clear_value y1; subst e_y1
  refine stepC' e1 ?_
  extract_lets -merge +onlyGivenNames y2
  have e_y2 : y2 = _ := (congrArg RS.get e2).trans (get_some _)
  clear_value y2; subst e_y2
  refine stepC' e2 ?_
  by_cases hr : RingC c
  · refine stepT' (decide_eq_true hr) ?_
    unfold ofV
    rw [if_pos hr]
  · refine stepF' (decide_eq_false hr) ?_
    have e3 := Q_most hs x (hs.ends hr x)
    extract_lets -merge +onlyGivenNames y3
    have e_y3 : y3 = _ := (congrArg RS.get e3).trans (get_some _)
    clear_value y3; subst e_y3
    refine stepC' e3 ?_
    unfold ofV
    rw [if_neg hr]
theorem Q_Table {c : ConfigS} (h : Cfg c) (k : Int) : Q_z0b c k = some (((ofV c (0, (k, ()))).1, ((ofV c (0, (k, ()))).2, ())), ()) := by
  refine fin ?_
  unfold M_z0b
  extract_lets -merge +onlyGivenNames y1
  have e_y1 : y1 = _ := (congrArg RS.get (Q_of h (0, (k, ())))).trans (get_some _)
  clear_value y1; subst e_y1
  exact stepC' (Q_of h (0, (k, ()))) rfl
theorem Q_Block {c : ConfigS} (h : Cfg c) (k : Int) : Q_z0a c k = some (((ofV c (1, (k, ()))).1, ((ofV c (1, (k, ()))).2, ())), ()) := by
  refine fin ?_
  unfold M_z0a
  extract_lets -merge +onlyGivenNames y1
  have e_y1 : y1 = _ := (congrArg RS.get (Q_of h (1, (k, ())))).trans (get_some _)
  clear_value y1; subst e_y1
  exact stepC' (Q_of h (1, (k, ()))) rfl
theorem Q_Group {c : ConfigS} (h : Cfg c) (k : Int) : Q_z0c c k = some (((ofV c (2, (k, ()))).1, ((ofV c (2, (k, ()))).2, ())), ()) := by
  refine fin ?_
  unfold M_z0c
  extract_lets -merge +onlyGivenNames y1
  have e_y1 : y1 = _ := (congrArg RS.get (Q_of h (2, (k, ())))).trans (get_some _)
  clear_value y1; subst e_y1
  exact stepC' (Q_of h (2, (k, ()))) rfl
open Classical in
theorem Q_Cycle {c : ConfigS} (h : Cfg c) : Q_z0e c = some ((decide (RingC c), ()), ()) := by
  have e1 := Q_solve h
  have e2 := Q_cycle h.sol
  refine fin ?_
  unfold M_z0e
  extract_lets -merge +onlyGivenNames y1
  have e_y1 : y1 = _ := (congrArg RS.get e1).trans (get_some _)
  clear_value y1; subst e_y1
  refine stepC' e1 ?_
  extract_lets -merge +onlyGivenNames y2
  have e_y2 : y2 = _ := (congrArg RS.get e2).trans (get_some _)
  clear_value y2; subst e_y2
  refine stepC' e2 ?_
  rfl
theorem awake24 : Q_z0s = some ((true, ()), ()) := by kernel_rfl
end Go.AMach

/- Layer 24: what a statement goes over. -/
namespace Go.AMach
set_option linter.unusedVariables false
set_option linter.unusedSimpArgs false
set_option linter.unnecessarySimpa false
open Go
set_option linter.unusedVariables false

def min6 (k : Nat) : Int := if (k : Int) < 600 then (k : Int) else 600
def sumL {α : Type} (f : α → Nat) : List α → Int → Int
  | [], n => n
  | a :: r, n => if n < 600 then sumL f r (n + min6 (f a)) else n
theorem min6_in (k : Nat) : 0 ≤ min6 k ∧ min6 k ≤ 600 := by unfold min6; split <;> omega
theorem sumL_ge {α : Type} (f : α → Nat) : ∀ (l : List α) (n : Int), n ≤ sumL f l n
  | [], n => Int.le_refl _
  | a :: r, n => by
    unfold sumL
    split
    · have := sumL_ge f r (n + min6 (f a)); have := min6_in (f a); omega
    · exact Int.le_refl _
theorem sumL_le {α : Type} (f : α → Nat) : ∀ (l : List α) (n : Int), n ≤ 1200 → sumL f l n ≤ 1200
  | [], n, h => h
  | a :: r, n, h => by
    unfold sumL
    split
    · exact sumL_le f r _ (by have := min6_in (f a); omega)
    · exact h
theorem sumL_small {α : Type} (f : α → Nat) : ∀ (l : List α) (n : Int), sumL f l n < 600 → 0 ≤ n → ∀ a ∈ l, f a < 600
  | [], n, h, _, a, ha => by cases ha
  | b :: r, n, h, hn, a, ha => by
    unfold sumL at h
    by_cases c : n < 600
    · rw [if_pos c] at h
      have hm := min6_in (f b)
      rcases List.mem_cons.1 ha with rfl | ha
      · have := sumL_ge f r (n + min6 (f a))
        by_cases e : (f a : Int) < 600
        · omega
        · have e6 : min6 (f a) = 600 := if_neg e
          omega
      · exact sumL_small f r _ h (by omega) a ha
    · rw [if_neg c] at h; omega
abbrev fA (x : NodeS) : Nat := x.2.2.2.2.2.2.2.1.length
abbrev fB (x : BlockS) : Nat := x.2.1.length
abbrev fG (x : GroupS) : Nat := x.2.2.2.1.length

theorem L_large0 (kt : Int → Option Res) (c : ConfigS) (hl : c.1.length < 9223372036854775807) : ∀ (m i : Nat) (n : Int), i ≤ c.1.length → c.1.length - i < m → 0 ≤ n ∧ n ≤ 1200 →
    L_z00_0 FUEL kt c m n (i : Int) = kt (sumL fA (c.1.drop i) n)
  | 0, _, _, _, h, _ => by omega
  | m + 1, i, n, hi, hm, hn => by
    show F_z00_0 FUEL kt c (L_z00_0 FUEL kt c m) n (i : Int) = _
    unfold F_z00_0
    by_cases h : i < c.1.length
    · refine stepT' (decide_eq_true (by omega)) ?_
      rw [drop_rdd zNodeS h]
      unfold sumL
      by_cases c6 : n < 600
      · refine stepT' (decide_eq_true c6) ?_
        refine stepT' (decide_eq_true (by omega)) ?_
        rw [if_pos c6, toNat_cast, i64_succ (by omega)]
        have hm6 := min6_in (fA (rdd zNodeS c.1 i))
        rw [← L_large0 kt c hl m (i + 1) (n + min6 (fA (rdd zNodeS c.1 i))) (by omega) (by omega) (by omega)]
        show L_z00_0 FUEL kt c m (IntKind.wrap .i64 (n + min6 (fA (rdd zNodeS c.1 i)))) _ = _
        rw [i64_id (by omega)]
      · refine stepF' (decide_eq_false c6) ?_
        rw [if_neg c6]
    · refine stepF' (decide_eq_false (by omega)) ?_
      rw [List.drop_of_length_le (by omega)]
      rfl
theorem L_large2 (kt : Int → Option Res) (c : ConfigS) (hl : (cB c).length < 9223372036854775807) : ∀ (m i : Nat) (n : Int), i ≤ (cB c).length → (cB c).length - i < m → 0 ≤ n ∧ n ≤ 1200 →
    L_z00_2 FUEL kt c m n (i : Int) = kt (sumL fB ((cB c).drop i) n)
  | 0, _, _, _, h, _ => by omega
  | m + 1, i, n, hi, hm, hn => by
    show F_z00_2 FUEL kt c (L_z00_2 FUEL kt c m) n (i : Int) = _
    unfold F_z00_2
    by_cases h : i < (cB c).length
    · refine stepT' (decide_eq_true (by show (i : Int) < ((cB c).length : Int); omega)) ?_
      rw [drop_rdd zBlockS h]
      unfold sumL
      by_cases c6 : n < 600
      · refine stepT' (decide_eq_true c6) ?_
        refine stepT' (decide_eq_true (by show (0 : Int) ≤ (i : Int) ∧ (i : Int) < ((cB c).length : Int); omega)) ?_
        rw [if_pos c6, toNat_cast, i64_succ (by omega)]
        have hm6 := min6_in (fB (rdd zBlockS (cB c) i))
        rw [← L_large2 kt c hl m (i + 1) (n + min6 (fB (rdd zBlockS (cB c) i))) (by omega) (by omega) (by omega)]
        show L_z00_2 FUEL kt c m (IntKind.wrap .i64 (n + min6 (fB (rdd zBlockS (cB c) i)))) _ = _
        rw [i64_id (by omega)]
      · refine stepF' (decide_eq_false c6) ?_
        rw [if_neg c6]
    · refine stepF' (decide_eq_false (by show ¬ (i : Int) < ((cB c).length : Int); omega)) ?_
      rw [List.drop_of_length_le (by omega)]
      rfl
theorem L_large4 (kt : Int → Option Res) (c : ConfigS) (hl : (cG c).length < 9223372036854775807) : ∀ (m i : Nat) (n : Int), i ≤ (cG c).length → (cG c).length - i < m → 0 ≤ n ∧ n ≤ 1200 →
    L_z00_4 FUEL kt c m n (i : Int) = kt (sumL fG ((cG c).drop i) n)
  | 0, _, _, _, h, _ => by omega
  | m + 1, i, n, hi, hm, hn => by
    show F_z00_4 FUEL kt c (L_z00_4 FUEL kt c m) n (i : Int) = _
    unfold F_z00_4
    by_cases h : i < (cG c).length
    · refine stepT' (decide_eq_true (by show (i : Int) < ((cG c).length : Int); omega)) ?_
      rw [drop_rdd zGroupS h]
      unfold sumL
      by_cases c6 : n < 600
      · refine stepT' (decide_eq_true c6) ?_
        refine stepT' (decide_eq_true (by show (0 : Int) ≤ (i : Int) ∧ (i : Int) < ((cG c).length : Int); omega)) ?_
        rw [if_pos c6, toNat_cast, i64_succ (by omega)]
        have hm6 := min6_in (fG (rdd zGroupS (cG c) i))
        rw [← L_large4 kt c hl m (i + 1) (n + min6 (fG (rdd zGroupS (cG c) i))) (by omega) (by omega) (by omega)]
        show L_z00_4 FUEL kt c m (IntKind.wrap .i64 (n + min6 (fG (rdd zGroupS (cG c) i)))) _ = _
        rw [i64_id (by omega)]
      · refine stepF' (decide_eq_false c6) ?_
        rw [if_neg c6]
    · refine stepF' (decide_eq_false (by show ¬ (i : Int) < ((cG c).length : Int); omega)) ?_
      rw [List.drop_of_length_le (by omega)]
      rfl

def cntC (c : ConfigS) : Nat := c.1.length + (cT c).length + (cE c).length + (cB c).length + (cG c).length
def largeV (c : ConfigS) : Bool := if (cntC c : Int) > 60 then true else decide (sumL fG (cG c) (sumL fB (cB c) (sumL fA c.1 (cntC c))) ≥ 600)
/-- Lists of such lengths. -/
def LenOk (c : ConfigS) : Prop := c.1.length ≤ 200000000000000 ∧ (cT c).length ≤ 200000000000000 ∧ (cE c).length ≤ 200000000000000 ∧ (cB c).length ≤ 200000000000000 ∧ (cG c).length ≤ 200000000000000
theorem Q_large {c : ConfigS} (h : LenOk c) : Q_z00 c = some ((largeV c, ()), ()) := by
  obtain ⟨h1, h2, h3, h4, h5⟩ := h
  refine fin ?_
  unfold M_z00
  have w1 : IntKind.wrap .i64 ((c.1.length : Int) + ((cT c).length : Int)) = (c.1.length : Int) + ((cT c).length : Int) := i64_id (by omega)
  rw [w1]
  extract_lets -merge +onlyGivenNames y1
  have e1 : IntKind.wrap .i64 (y1 + ((cE c).length : Int)) = y1 + ((cE c).length : Int) := i64_id (by show _ ≤ (c.1.length : Int) + ((cT c).length : Int) + _ ∧ (c.1.length : Int) + ((cT c).length : Int) + _ ≤ _; omega)
  rw [e1]
  have e2 : IntKind.wrap .i64 (y1 + ((cE c).length : Int) + ((cB c).length : Int)) = y1 + ((cE c).length : Int) + ((cB c).length : Int) := i64_id (by show _ ≤ (c.1.length : Int) + ((cT c).length : Int) + _ + _ ∧ (c.1.length : Int) + ((cT c).length : Int) + _ + _ ≤ _; omega)
  rw [e2]
  extract_lets -merge +onlyGivenNames y2
  have e3 : IntKind.wrap .i64 (y2 + ((cG c).length : Int)) = (cntC c : Int) := by
    show IntKind.wrap .i64 ((c.1.length : Int) + ((cT c).length : Int) + ((cE c).length : Int) + ((cB c).length : Int) + ((cG c).length : Int)) = _
    rw [i64_id (by omega)]
    unfold cntC
    omega
  rw [e3]
  unfold largeV
  by_cases c6 : (cntC c : Int) > 60
  · refine stepT' (decide_eq_true c6) ?_
    rw [if_pos c6]
  · refine stepF' (decide_eq_false c6) ?_
    rw [if_neg c6]
    have a1 := sumL_ge fA c.1 (cntC c)
    have b1 := sumL_le fA c.1 (cntC c) (by omega)
    have a2 := sumL_ge fB (cB c) (sumL fA c.1 (cntC c))
    have b2 := sumL_le fB (cB c) (sumL fA c.1 (cntC c)) b1
    refine Eq.trans (L_large0 _ c (by omega) FUEL 0 _ (by omega) (fuel_big (by omega)) (by omega)) ?_
    rw [List.drop_zero]
    refine Eq.trans (L_large2 _ c (by omega) FUEL 0 _ (by omega) (fuel_big (by omega)) (by omega)) ?_
    rw [List.drop_zero]
    refine Eq.trans (L_large4 _ c (by omega) FUEL 0 _ (by omega) (fuel_big (by omega)) (by omega)) ?_
    rw [List.drop_zero]
theorem largeV_cfg {c : ConfigS} (h : largeV c = false) : Cfg c ∧ c.1.length ≤ 60 ∧ ∀ x ∈ c.1, fA x < 600 := by
  unfold largeV at h
  by_cases c6 : (cntC c : Int) > 60
  · rw [if_pos c6] at h; cases h
  · rw [if_neg c6] at h
    have h := of_decide_eq_false h
    have a1 := sumL_ge fA c.1 (cntC c)
    have a2 := sumL_ge fB (cB c) (sumL fA c.1 (cntC c))
    have a3 := sumL_ge fG (cG c) (sumL fB (cB c) (sumL fA c.1 (cntC c)))
    have k0 : (0 : Int) ≤ cntC c := by omega
    have k1 := sumL_small fA c.1 (cntC c) (by omega) k0
    have k2 := sumL_small fB (cB c) (sumL fA c.1 (cntC c)) (by omega) (by omega)
    have k3 := sumL_small fG (cG c) (sumL fB (cB c) (sumL fA c.1 (cntC c))) (by omega) (by omega)
    unfold cntC at c6
    exact ⟨⟨by omega, by omega, by omega, by omega, fun x hx => Nat.le_trans (Nat.le_of_lt (k2 x hx)) (by decide), fun x hx => Nat.le_trans (Nat.le_of_lt (k3 x hx)) (by decide)⟩, by omega, k1⟩
theorem cfg_len {c : ConfigS} (h : ConfigT.good c) : LenOk c := by
  obtain ⟨h1, _, h2, h3, h4, h5, _⟩ := h
  have m1 : 1 ≤ NodeT.minb := by decide
  have m2 : 1 ≤ TableT.minb := by decide
  have m3 : 1 ≤ EntryT.minb := by decide
  have m4 : 1 ≤ BlockT.minb := by decide
  have m5 : 1 ≤ GroupT.minb := by decide
  have g : ∀ {n m : Nat}, 1 ≤ m → n * m ≤ 140737488351232 → n ≤ 200000000000000 := fun {n m} h1 h2 => by
    have := Nat.le_mul_of_pos_right n h1; omega
  exact ⟨g m1 h1.1, g m2 h2.1, g m3 h3.1, g m4 h4.1, g m5 h5.1⟩
end Go.AMach
