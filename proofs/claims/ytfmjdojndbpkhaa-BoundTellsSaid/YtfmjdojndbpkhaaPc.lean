/- Parts of the proof. -/
import Derived.Test.YtfmjdojndbpkhaaPb
import Derived.KernelRfl
/- Layer 24: a configuration's objects. -/
namespace Go.AMach
set_option linter.unusedVariables false
set_option linter.unusedSimpArgs false
set_option linter.unnecessarySimpa false
open Go
set_option linter.unusedVariables false

abbrev cT (c : jaa) : List jbl := c.2.2.1
abbrev cE (c : jaa) : List jgm := c.2.2.2.1
abbrev cB (c : jaa) : List jbB := c.2.2.2.2.1
abbrev cG (c : jaa) : List jal := c.2.2.2.2.2.1
abbrev eB (x : jgm) : Int := x.2.2.2.2.2.1
abbrev tM (x : jbl) : Int := x.2.2.2.2.1
/-- The first one of a number. -/
def jbI (l : List jbl) (k : Int) : Option jbl := l.find? fun t => decide (t.1 = k)
def jbf (l : List jbB) (k : Int) : Option jbB := l.find? fun t => decide (t.1 = k)
def jbS (l : List jal) (k : Int) : Option jal := l.find? fun t => decide (t.1 = k)
def jdb (c : jaa) : TabM := fun k => (jbI (cT c) k).map fun t => tM t :: ((cE c).filter fun x => decide (x.1 = k)).map eB
def jcf (c : jaa) : BlkM := fun k => (jbf (cB c) k).map fun x => x.2.1
def jdt (c : jaa) : GrpM := fun k => jbS (cG c) k
def allV (c : jaa) : List ObjS := (joH c).2

theorem jhR {α : Type} (k : Int) (v : α) (g : Int → Option α) (i : Int) : putI k v g i = if i = k then some v else g i := by
  unfold putI; rw [jaI]
theorem orElse_some {α : Type} {a b : Option α} {x : α} (h : a = some x) : a.or b = some x := by rw [h]; rfl

theorem jmH : ∀ (l : List jbl) (g : TabM) (o : List ObjS) (k : Int), (jci l g o).1 k = (g k).or ((jbI l k).map fun t => [tM t])
  | [], g, o, k => by simp [jci, jbI]
  | t :: r, g, o, k => by
    unfold jci
    cases hg : g t.1 with
    | some v =>
      show (jci r g o).1 k = _
      rw [jmH r g o k]
      by_cases h : t.1 = k
      · rw [← h, hg]; rfl
      · simp [jbI, List.find?_cons, h]
    | none =>
      show (jci r (putI t.1 [tM t] g) (o ++ [(0, (t.1, ()))])).1 k = _
      rw [jmH r _ _ k, jhR]
      by_cases h : k = t.1
      · subst h
        rw [if_pos rfl, hg]
        simp [jbI, List.find?_cons]
      · rw [if_neg h]
        have : ¬ t.1 = k := fun e => h e.symm
        simp [jbI, List.find?_cons, this]
theorem jmF : ∀ (l : List jbB) (g : BlkM) (o : List ObjS) (k : Int), (jcp l g o).1 k = (g k).or ((jbf l k).map fun t => t.2.1)
  | [], g, o, k => by simp [jcp, jbf]
  | t :: r, g, o, k => by
    unfold jcp
    cases hg : g t.1 with
    | some v =>
      show (jcp r g o).1 k = _
      rw [jmF r g o k]
      by_cases h : t.1 = k
      · rw [← h, hg]; rfl
      · simp [jbf, List.find?_cons, h]
    | none =>
      show (jcp r (putI t.1 t.2.1 g) (o ++ [(1, (t.1, ()))])).1 k = _
      rw [jmF r _ _ k, jhR]
      by_cases h : k = t.1
      · subst h
        rw [if_pos rfl, hg]
        simp [jbf, List.find?_cons]
      · rw [if_neg h]
        have : ¬ t.1 = k := fun e => h e.symm
        simp [jbf, List.find?_cons, this]
theorem jmE : ∀ (l : List jal) (g : GrpM) (o : List ObjS) (k : Int), (jcB l g o).1 k = (g k).or (jbS l k)
  | [], g, o, k => by simp [jcB, jbS]
  | t :: r, g, o, k => by
    unfold jcB
    cases hg : g t.1 with
    | some v =>
      show (jcB r g o).1 k = _
      rw [jmE r g o k]
      by_cases h : t.1 = k
      · rw [← h, hg]; rfl
      · simp [jbS, List.find?_cons, h]
    | none =>
      show (jcB r (putI t.1 t g) (o ++ [(2, (t.1, ()))])).1 k = _
      rw [jmE r _ _ k, jhR]
      by_cases h : k = t.1
      · subst h
        rw [if_pos rfl, hg]
        simp [jbS, List.find?_cons]
      · rw [if_neg h]
        have : ¬ t.1 = k := fun e => h e.symm
        simp [jbS, List.find?_cons, this]
theorem jmG : ∀ (l : List jgm) (g : TabM) (k : Int), jff l g k = (g k).map fun v => v ++ (l.filter fun x => decide (x.1 = k)).map eB
  | [], g, k => by simp [jff]
  | x :: r, g, k => by
    unfold jff
    cases hg : g x.1 with
    | none =>
      show jff r g k = _
      rw [jmG r g k]
      by_cases h : x.1 = k
      · rw [← h, hg]; rfl
      · simp [List.filter_cons, h]
    | some v =>
      show jff r (putI x.1 (v ++ [eB x]) g) k = _
      rw [jmG r _ k, jhR]
      by_cases h : k = x.1
      · subst h
        rw [if_pos rfl, hg]
        simp [List.filter_cons]
      · rw [if_neg h]
        have : ¬ x.1 = k := fun e => h e.symm
        simp [List.filter_cons, this]
theorem tabs_eq (c : jaa) : jff (cE c) (jlI c).1 = jdb c := by
  funext k
  rw [jmG]
  unfold jlI jdb
  rw [jmH]
  cases jbI (cT c) k <;> simp
theorem blks_eq (c : jaa) : (jjD c).1 = jcf c := by
  funext k
  unfold jjD jcf
  rw [jmF]
  cases jbf (cB c) k <;> simp
theorem grps_eq (c : jaa) : (joH c).1 = jdt c := by
  funext k
  unfold joH jdt
  rw [jmE]
  cases jbS (cG c) k <;> simp

/-! ### The objects -/
theorem jkq : ∀ (l : List jbl) (g : TabM) (o : List ObjS) (x : ObjS), (x ∈ o ∨ ((jbI l x.2.1).isSome = true ∧ g x.2.1 = none ∧ x.1 = 0)) → x ∈ (jci l g o).2
  | [], g, o, x, h => by
    rcases h with h | ⟨h, _⟩
    · exact h
    · simp [jbI] at h
  | t :: r, g, o, x, h => by
    unfold jci
    cases hg : g t.1 with
    | some v =>
      refine jkq r g o x ?_
      rcases h with h | ⟨h, h2, h3⟩
      · exact .inl h
      · by_cases e : t.1 = x.2.1
        · rw [← e, hg] at h2; cases h2
        · simp only [jbI, List.find?_cons, e, decide_false] at h
          exact .inr ⟨h, h2, h3⟩
    | none =>
      refine jkq r _ _ x ?_
      rcases h with h | ⟨h, h2, h3⟩
      · exact .inl (List.mem_append_left _ h)
      · by_cases e : t.1 = x.2.1
        · refine .inl (List.mem_append_right _ ?_)
          rw [e, ← h3]
          exact List.mem_singleton.2 rfl
        · simp only [jbI, List.find?_cons, e, decide_false] at h
          refine .inr ⟨h, ?_, h3⟩
          rw [jhR, if_neg (fun q => e q.symm)]; exact h2
theorem jhd : ∀ (l : List jbB) (g : BlkM) (o : List ObjS) (x : ObjS), (x ∈ o ∨ ((jbf l x.2.1).isSome = true ∧ g x.2.1 = none ∧ x.1 = 1)) → x ∈ (jcp l g o).2
  | [], g, o, x, h => by
    rcases h with h | ⟨h, _⟩
    · exact h
    · simp [jbf] at h
  | t :: r, g, o, x, h => by
    unfold jcp
    cases hg : g t.1 with
    | some v =>
      refine jhd r g o x ?_
      rcases h with h | ⟨h, h2, h3⟩
      · exact .inl h
      · by_cases e : t.1 = x.2.1
        · rw [← e, hg] at h2; cases h2
        · simp only [jbf, List.find?_cons, e, decide_false] at h
          exact .inr ⟨h, h2, h3⟩
    | none =>
      refine jhd r _ _ x ?_
      rcases h with h | ⟨h, h2, h3⟩
      · exact .inl (List.mem_append_left _ h)
      · by_cases e : t.1 = x.2.1
        · refine .inl (List.mem_append_right _ ?_)
          rw [e, ← h3]
          exact List.mem_singleton.2 rfl
        · simp only [jbf, List.find?_cons, e, decide_false] at h
          refine .inr ⟨h, ?_, h3⟩
          rw [jhR, if_neg (fun q => e q.symm)]; exact h2
theorem jkn : ∀ (l : List jal) (g : GrpM) (o : List ObjS) (x : ObjS), (x ∈ o ∨ ((jbS l x.2.1).isSome = true ∧ g x.2.1 = none ∧ x.1 = 2)) → x ∈ (jcB l g o).2
  | [], g, o, x, h => by
    rcases h with h | ⟨h, _⟩
    · exact h
    · simp [jbS] at h
  | t :: r, g, o, x, h => by
    unfold jcB
    cases hg : g t.1 with
    | some v =>
      refine jkn r g o x ?_
      rcases h with h | ⟨h, h2, h3⟩
      · exact .inl h
      · by_cases e : t.1 = x.2.1
        · rw [← e, hg] at h2; cases h2
        · simp only [jbS, List.find?_cons, e, decide_false] at h
          exact .inr ⟨h, h2, h3⟩
    | none =>
      refine jkn r _ _ x ?_
      rcases h with h | ⟨h, h2, h3⟩
      · exact .inl (List.mem_append_left _ h)
      · by_cases e : t.1 = x.2.1
        · refine .inl (List.mem_append_right _ ?_)
          rw [e, ← h3]
          exact List.mem_singleton.2 rfl
        · simp only [jbS, List.find?_cons, e, decide_false] at h
          refine .inr ⟨h, ?_, h3⟩
          rw [jhR, if_neg (fun q => e q.symm)]; exact h2
theorem jkr : ∀ (l : List jbl) (g : TabM) (o : List ObjS), (jci l g o).2.length ≤ o.length + l.length
  | [], g, o => by simp [jci]
  | t :: r, g, o => by
    unfold jci
    cases hg : g t.1 with
    | some v => exact Nat.le_trans (jkr r g o) (by simp)
    | none => exact Nat.le_trans (jkr r _ _) (by simp; omega)
theorem jkp : ∀ (l : List jbB) (g : BlkM) (o : List ObjS), (jcp l g o).2.length ≤ o.length + l.length
  | [], g, o => by simp [jcp]
  | t :: r, g, o => by
    unfold jcp
    cases hg : g t.1 with
    | some v => exact Nat.le_trans (jkp r g o) (by simp)
    | none => exact Nat.le_trans (jkp r _ _) (by simp; omega)
theorem jko : ∀ (l : List jal) (g : GrpM) (o : List ObjS), (jcB l g o).2.length ≤ o.length + l.length
  | [], g, o => by simp [jcB]
  | t :: r, g, o => by
    unfold jcB
    cases hg : g t.1 with
    | some v => exact Nat.le_trans (jko r g o) (by simp)
    | none => exact Nat.le_trans (jko r _ _) (by simp; omega)

/-- A configuration of such a size. -/
structure Cfg (c : jaa) : Prop where
  t : (cT c).length ≤ 1000
  e : (cE c).length ≤ 1000
  b : (cB c).length ≤ 1000
  g : (cG c).length ≤ 1000
  code : ∀ x ∈ cB c, x.2.1.length ≤ 100000
  buck : ∀ x ∈ cG c, x.2.2.2.1.length ≤ 100000
abbrev jbH (c : jaa) : ObjS → List ObjS := jaE (jdb c) (jcf c) (jdt c)
theorem Cfg.sol {c : jaa} (h : Cfg c) : Sol (allV c) (jdb c) (jcf c) (jdt c) where
  small := by
    refine ⟨fun k l hl => ?_, fun k l hl => ?_, fun k x hx => ?_⟩
    · unfold jdb at hl
      obtain ⟨t, _, rfl⟩ := Option.map_eq_some_iff.1 hl
      have : ((cE c).filter fun x => decide (x.1 = k)).length ≤ (cE c).length := List.length_filter_le _ _
      have := h.e
      simp only [List.length_cons, List.length_map]
      omega
    · unfold jcf at hl
      obtain ⟨t, ht, rfl⟩ := Option.map_eq_some_iff.1 hl
      exact h.code t (List.mem_of_find?_eq_some ht)
    · exact h.buck x (List.mem_of_find?_eq_some hx)
  here := fun x hk hne => by
    unfold allV joH
    refine jkn _ _ _ x ?_
    rcases hk with h0 | h1 | h2
    · left
      unfold jjD
      refine jhd _ _ _ x (.inl ?_)
      unfold jlI
      refine jkq _ _ _ x (.inr ⟨?_, rfl, h0⟩)
      unfold jaE at hne
      rw [if_pos h0] at hne
      unfold jdb at hne
      cases hf : jbI (cT c) x.2.1 with
      | some v => rfl
      | none => rw [hf] at hne; exact absurd rfl hne
    · left
      unfold jjD
      refine jhd _ _ _ x (.inr ⟨?_, rfl, h1⟩)
      unfold jaE at hne
      rw [if_neg (by omega), if_pos h1] at hne
      unfold jcf at hne
      cases hf : jbf (cB c) x.2.1 with
      | some v => rfl
      | none => rw [hf] at hne; exact absurd rfl hne
    · right
      refine ⟨?_, rfl, h2⟩
      unfold jaE at hne
      rw [if_neg (by omega), if_neg (by omega)] at hne
      unfold jdt at hne
      cases hf : jbS (cG c) x.2.1 with
      | some v => rfl
      | none => rw [hf] at hne; exact absurd rfl hne
  len := by
    have h1 := jkr (cT c) (fun _ => none) []
    have h2 := jkp (cB c) (fun _ => none) (jlI c).2
    have h3 := jko (cG c) (fun _ => none) (jjD c).2
    have e1 : (jlI c).2.length ≤ 0 + (cT c).length := h1
    have e2 : (jjD c).2.length ≤ (jlI c).2.length + (cB c).length := h2
    have e3 : (allV c).length ≤ (jjD c).2.length + (cG c).length := h3
    have := h.t; have := h.b; have := h.g
    omega
theorem jCs {c : jaa} (h : Cfg c) : jvz c = some (((), ()), solS (allV c) (jdb c) (jcf c) (jdt c)) := by
  unfold jvz jAK
  refine jai (decide_eq_true ⟨h.t, h.e, h.b, h.g⟩) ?_
  rw [← tabs_eq, ← blks_eq, ← grps_eq]
  rfl
end Go.AMach

/- Layer 24: the package's functions. -/
namespace Go.AMach
set_option linter.unusedVariables false
set_option linter.unusedSimpArgs false
set_option linter.unnecessarySimpa false
open Go
set_option linter.unusedVariables false

abbrev jcx (c : jaa) : Prop := Ring (jbH c)
noncomputable abbrev HC (c : jaa) : ObjS → Int := H (jdb c) (jcf c) (jdt c)
open Classical in
noncomputable def ofV (c : jaa) (x : ObjS) : Int × Int := if jcx c then (0, 10) else (HC c x, 0)

theorem Sol.ends {all : List ObjS} {t : TabM} {b : BlkM} {g : GrpM} (h : Sol all t b g) (hn : ¬ Ring (jaE t b g)) (x : ObjS) : Ends (jaE t b g) x := by
  have hall : ∀ y ∈ all, Ends (jaE t b g) y := by
    rcases jyb h (fun y2 y3 y4 y5 y6 => none) (fun y3 y4 y5 y6 => none) FUEL 0 (fun _ => none) (by omega) (jaU (by have := h.len; omega)) (fun _ => .inl rfl) (fun x hx => by cases hx) (fun u hu => by cases hu) with ⟨e, hr⟩ | ⟨e, hf⟩
    · exact absurd hr hn
    · intro y hy; exact hf y (by simpa using hy)
  refine Acc.intro _ fun y hy => ?_
  by_cases e : jaE t b g y = []
  · exact Acc.intro _ fun z hz => by
      have hz : z ∈ jaE t b g y := hz
      rw [e] at hz; cases hz
  · exact hall y (h.here y (jbZ hy) e)

open Classical in
theorem Q_of {c : jaa} (h : Cfg c) (x : ObjS) : jEN c x = some (((ofV c x).1, ((ofV c x).2, ())), ()) := by
  have hs := h.sol
  have e1 := jCs h
  have e2 := jCw hs
  refine fin ?_
  unfold jFF
  extract_lets -merge +onlyGivenNames y1
  have e_y1 : y1 = _ := (congrArg RS.get e1).trans (jaw _)
  clear_value y1; subst e_y1
  refine jaL e1 ?_
  extract_lets -merge +onlyGivenNames y2
  have e_y2 : y2 = _ := (congrArg RS.get e2).trans (jaw _)
  clear_value y2; subst e_y2
  refine jaL e2 ?_
  by_cases hr : jcx c
  · refine jai (decide_eq_true hr) ?_
    unfold ofV
    rw [if_pos hr]
  · refine jaq (decide_eq_false hr) ?_
    have e3 := Q_most hs x (hs.ends hr x)
    extract_lets -merge +onlyGivenNames y3
    have e_y3 : y3 = _ := (congrArg RS.get e3).trans (jaw _)
    clear_value y3; subst e_y3
    refine jaL e3 ?_
    unfold ofV
    rw [if_neg hr]
theorem jxV {c : jaa} (h : Cfg c) (k : Int) : jCp c k = some (((ofV c (0, (k, ()))).1, ((ofV c (0, (k, ()))).2, ())), ()) := by
  refine fin ?_
  unfold jFD
  extract_lets -merge +onlyGivenNames y1
  have e_y1 : y1 = _ := (congrArg RS.get (Q_of h (0, (k, ())))).trans (jaw _)
  clear_value y1; subst e_y1
  exact jaL (Q_of h (0, (k, ()))) rfl
theorem jxY {c : jaa} (h : Cfg c) (k : Int) : jCq c k = some (((ofV c (1, (k, ()))).1, ((ofV c (1, (k, ()))).2, ())), ()) := by
  refine fin ?_
  unfold jFE
  extract_lets -merge +onlyGivenNames y1
  have e_y1 : y1 = _ := (congrArg RS.get (Q_of h (1, (k, ())))).trans (jaw _)
  clear_value y1; subst e_y1
  exact jaL (Q_of h (1, (k, ()))) rfl
theorem jxW {c : jaa} (h : Cfg c) (k : Int) : jCo c k = some (((ofV c (2, (k, ()))).1, ((ofV c (2, (k, ()))).2, ())), ()) := by
  refine fin ?_
  unfold jFC
  extract_lets -merge +onlyGivenNames y1
  have e_y1 : y1 = _ := (congrArg RS.get (Q_of h (2, (k, ())))).trans (jaw _)
  clear_value y1; subst e_y1
  exact jaL (Q_of h (2, (k, ()))) rfl
open Classical in
theorem jxX {c : jaa} (h : Cfg c) : jEM c = some ((decide (jcx c), ()), ()) := by
  have e1 := jCs h
  have e2 := jCw h.sol
  refine fin ?_
  unfold jFB
  extract_lets -merge +onlyGivenNames y1
  have e_y1 : y1 = _ := (congrArg RS.get e1).trans (jaw _)
  clear_value y1; subst e_y1
  refine jaL e1 ?_
  extract_lets -merge +onlyGivenNames y2
  have e_y2 : y2 = _ := (congrArg RS.get e2).trans (jaw _)
  clear_value y2; subst e_y2
  refine jaL e2 ?_
  rfl
theorem jxQ : jCl = some ((true, ()), ()) := by kernel_rfl
end Go.AMach

/- Layer 24: what a statement goes over. -/
namespace Go.AMach
set_option linter.unusedVariables false
set_option linter.unusedSimpArgs false
set_option linter.unnecessarySimpa false
open Go
set_option linter.unusedVariables false

def min6 (k : Nat) : Int := if (k : Int) < 600 then (k : Int) else 600
def sumL {α : Type} (f : α → Nat) : List α → Int → Int
  | [], n => n
  | a :: r, n => if n < 600 then sumL f r (n + min6 (f a)) else n
theorem jkD (k : Nat) : 0 ≤ min6 k ∧ min6 k ≤ 600 := by unfold min6; split <;> omega
theorem jhO {α : Type} (f : α → Nat) : ∀ (l : List α) (n : Int), n ≤ sumL f l n
  | [], n => Int.le_refl _
  | a :: r, n => by
    unfold sumL
    split
    · have := jhO f r (n + min6 (f a)); have := jkD (f a); omega
    · exact Int.le_refl _
theorem jvU {α : Type} (f : α → Nat) : ∀ (l : List α) (n : Int), n ≤ 1200 → sumL f l n ≤ 1200
  | [], n, h => h
  | a :: r, n, h => by
    unfold sumL
    split
    · exact jvU f r _ (by have := jkD (f a); omega)
    · exact h
theorem jha {α : Type} (f : α → Nat) : ∀ (l : List α) (n : Int), sumL f l n < 600 → 0 ≤ n → ∀ a ∈ l, f a < 600
  | [], n, h, _, a, ha => by cases ha
  | b :: r, n, h, hn, a, ha => by
    unfold sumL at h
    by_cases c : n < 600
    · rw [if_pos c] at h
      have hm := jkD (f b)
      rcases List.mem_cons.1 ha with rfl | ha
      · have := jhO f r (n + min6 (f a))
        by_cases e : (f a : Int) < 600
        · omega
        · have e6 : min6 (f a) = 600 := if_neg e
          omega
      · exact jha f r _ h (by omega) a ha
    · rw [if_neg c] at h; omega
abbrev fA (x : jah) : Nat := x.2.2.2.2.2.2.2.1.length
abbrev fB (x : jbB) : Nat := x.2.1.length
abbrev fG (x : jal) : Nat := x.2.2.2.1.length

theorem jzA (kt : Int → Option Res) (c : jaa) (hl : c.1.length < 9223372036854775807) : ∀ (m i : Nat) (n : Int), i ≤ c.1.length → c.1.length - i < m → 0 ≤ n ∧ n ≤ 1200 →
    jjy FUEL kt c m n (i : Int) = kt (sumL fA (c.1.drop i) n)
  | 0, _, _, _, h, _ => by omega
  | m + 1, i, n, hi, hm, hn => by
    show jtB FUEL kt c (jjy FUEL kt c m) n (i : Int) = _
    unfold jtB
    by_cases h : i < c.1.length
    · refine jai (decide_eq_true (by omega)) ?_
      rw [jaF jaH h]
      unfold sumL
      by_cases c6 : n < 600
      · refine jai (decide_eq_true c6) ?_
        refine jai (decide_eq_true (by omega)) ?_
        rw [if_pos c6, jan, jaA (by omega)]
        have hm6 := jkD (fA (rdd jaH c.1 i))
        rw [← jzA kt c hl m (i + 1) (n + min6 (fA (rdd jaH c.1 i))) (by omega) (by omega) (by omega)]
        show jjy FUEL kt c m (IntKind.wrap .i64 (n + min6 (fA (rdd jaH c.1 i)))) _ = _
        rw [jbA (by omega)]
      · refine jaq (decide_eq_false c6) ?_
        rw [if_neg c6]
    · refine jaq (decide_eq_false (by omega)) ?_
      rw [List.drop_of_length_le (by omega)]
      rfl
theorem jzz (kt : Int → Option Res) (c : jaa) (hl : (cB c).length < 9223372036854775807) : ∀ (m i : Nat) (n : Int), i ≤ (cB c).length → (cB c).length - i < m → 0 ≤ n ∧ n ≤ 1200 →
    jjx FUEL kt c m n (i : Int) = kt (sumL fB ((cB c).drop i) n)
  | 0, _, _, _, h, _ => by omega
  | m + 1, i, n, hi, hm, hn => by
    show jtA FUEL kt c (jjx FUEL kt c m) n (i : Int) = _
    unfold jtA
    by_cases h : i < (cB c).length
    · refine jai (decide_eq_true (by show (i : Int) < ((cB c).length : Int); omega)) ?_
      rw [jaF jap h]
      unfold sumL
      by_cases c6 : n < 600
      · refine jai (decide_eq_true c6) ?_
        refine jai (decide_eq_true (by show (0 : Int) ≤ (i : Int) ∧ (i : Int) < ((cB c).length : Int); omega)) ?_
        rw [if_pos c6, jan, jaA (by omega)]
        have hm6 := jkD (fB (rdd jap (cB c) i))
        rw [← jzz kt c hl m (i + 1) (n + min6 (fB (rdd jap (cB c) i))) (by omega) (by omega) (by omega)]
        show jjx FUEL kt c m (IntKind.wrap .i64 (n + min6 (fB (rdd jap (cB c) i)))) _ = _
        rw [jbA (by omega)]
      · refine jaq (decide_eq_false c6) ?_
        rw [if_neg c6]
    · refine jaq (decide_eq_false (by show ¬ (i : Int) < ((cB c).length : Int); omega)) ?_
      rw [List.drop_of_length_le (by omega)]
      rfl
theorem jzy (kt : Int → Option Res) (c : jaa) (hl : (cG c).length < 9223372036854775807) : ∀ (m i : Nat) (n : Int), i ≤ (cG c).length → (cG c).length - i < m → 0 ≤ n ∧ n ≤ 1200 →
    jjw FUEL kt c m n (i : Int) = kt (sumL fG ((cG c).drop i) n)
  | 0, _, _, _, h, _ => by omega
  | m + 1, i, n, hi, hm, hn => by
    show jtz FUEL kt c (jjw FUEL kt c m) n (i : Int) = _
    unfold jtz
    by_cases h : i < (cG c).length
    · refine jai (decide_eq_true (by show (i : Int) < ((cG c).length : Int); omega)) ?_
      rw [jaF jak h]
      unfold sumL
      by_cases c6 : n < 600
      · refine jai (decide_eq_true c6) ?_
        refine jai (decide_eq_true (by show (0 : Int) ≤ (i : Int) ∧ (i : Int) < ((cG c).length : Int); omega)) ?_
        rw [if_pos c6, jan, jaA (by omega)]
        have hm6 := jkD (fG (rdd jak (cG c) i))
        rw [← jzy kt c hl m (i + 1) (n + min6 (fG (rdd jak (cG c) i))) (by omega) (by omega) (by omega)]
        show jjw FUEL kt c m (IntKind.wrap .i64 (n + min6 (fG (rdd jak (cG c) i)))) _ = _
        rw [jbA (by omega)]
      · refine jaq (decide_eq_false c6) ?_
        rw [if_neg c6]
    · refine jaq (decide_eq_false (by show ¬ (i : Int) < ((cG c).length : Int); omega)) ?_
      rw [List.drop_of_length_le (by omega)]
      rfl

def cntC (c : jaa) : Nat := c.1.length + (cT c).length + (cE c).length + (cB c).length + (cG c).length
def jgI (c : jaa) : Bool := if (cntC c : Int) > 60 then true else decide (sumL fG (cG c) (sumL fB (cB c) (sumL fA c.1 (cntC c))) ≥ 600)
/-- Lists of such lengths. -/
def LenOk (c : jaa) : Prop := c.1.length ≤ 200000000000000 ∧ (cT c).length ≤ 200000000000000 ∧ (cE c).length ≤ 200000000000000 ∧ (cB c).length ≤ 200000000000000 ∧ (cG c).length ≤ 200000000000000
theorem jxU {c : jaa} (h : LenOk c) : jET c = some ((jgI c, ()), ()) := by
  obtain ⟨h1, h2, h3, h4, h5⟩ := h
  refine fin ?_
  unfold jFK
  have w1 : IntKind.wrap .i64 ((c.1.length : Int) + ((cT c).length : Int)) = (c.1.length : Int) + ((cT c).length : Int) := jbA (by omega)
  rw [w1]
  extract_lets -merge +onlyGivenNames y1
  have e1 : IntKind.wrap .i64 (y1 + ((cE c).length : Int)) = y1 + ((cE c).length : Int) := jbA (by show _ ≤ (c.1.length : Int) + ((cT c).length : Int) + _ ∧ (c.1.length : Int) + ((cT c).length : Int) + _ ≤ _; omega)
  rw [e1]
  have e2 : IntKind.wrap .i64 (y1 + ((cE c).length : Int) + ((cB c).length : Int)) = y1 + ((cE c).length : Int) + ((cB c).length : Int) := jbA (by show _ ≤ (c.1.length : Int) + ((cT c).length : Int) + _ + _ ∧ (c.1.length : Int) + ((cT c).length : Int) + _ + _ ≤ _; omega)
  rw [e2]
  extract_lets -merge +onlyGivenNames y2
  have e3 : IntKind.wrap .i64 (y2 + ((cG c).length : Int)) = (cntC c : Int) := by
    show IntKind.wrap .i64 ((c.1.length : Int) + ((cT c).length : Int) + ((cE c).length : Int) + ((cB c).length : Int) + ((cG c).length : Int)) = _
    rw [jbA (by omega)]
    unfold cntC
    omega
  rw [e3]
  unfold jgI
  by_cases c6 : (cntC c : Int) > 60
  · refine jai (decide_eq_true c6) ?_
    rw [if_pos c6]
  · refine jaq (decide_eq_false c6) ?_
    rw [if_neg c6]
    have a1 := jhO fA c.1 (cntC c)
    have b1 := jvU fA c.1 (cntC c) (by omega)
    have a2 := jhO fB (cB c) (sumL fA c.1 (cntC c))
    have b2 := jvU fB (cB c) (sumL fA c.1 (cntC c)) b1
    refine Eq.trans (jzA _ c (by omega) FUEL 0 _ (by omega) (jaU (by omega)) (by omega)) ?_
    rw [List.drop_zero]
    refine Eq.trans (jzz _ c (by omega) FUEL 0 _ (by omega) (jaU (by omega)) (by omega)) ?_
    rw [List.drop_zero]
    refine Eq.trans (jzy _ c (by omega) FUEL 0 _ (by omega) (jaU (by omega)) (by omega)) ?_
    rw [List.drop_zero]
theorem jfE {c : jaa} (h : jgI c = false) : Cfg c ∧ c.1.length ≤ 60 ∧ ∀ x ∈ c.1, fA x < 600 := by
  unfold jgI at h
  by_cases c6 : (cntC c : Int) > 60
  · rw [if_pos c6] at h; cases h
  · rw [if_neg c6] at h
    have h := of_decide_eq_false h
    have a1 := jhO fA c.1 (cntC c)
    have a2 := jhO fB (cB c) (sumL fA c.1 (cntC c))
    have a3 := jhO fG (cG c) (sumL fB (cB c) (sumL fA c.1 (cntC c)))
    have k0 : (0 : Int) ≤ cntC c := by omega
    have k1 := jha fA c.1 (cntC c) (by omega) k0
    have k2 := jha fB (cB c) (sumL fA c.1 (cntC c)) (by omega) (by omega)
    have k3 := jha fG (cG c) (sumL fB (cB c) (sumL fA c.1 (cntC c))) (by omega) (by omega)
    unfold cntC at c6
    exact ⟨⟨by omega, by omega, by omega, by omega, fun x hx => Nat.le_trans (Nat.le_of_lt (k2 x hx)) (by decide), fun x hx => Nat.le_trans (Nat.le_of_lt (k3 x hx)) (by decide)⟩, by omega, k1⟩
theorem jwH {c : jaa} (h : jag.good c) : LenOk c := by
  obtain ⟨h1, _, h2, h3, h4, h5, _⟩ := h
  have m1 : 1 ≤ jaM.minb := by decide
  have m2 : 1 ≤ jke.minb := by decide
  have m3 : 1 ≤ jvL.minb := by decide
  have m4 : 1 ≤ jvN.minb := by decide
  have m5 : 1 ≤ jaW.minb := by decide
  have g : ∀ {n m : Nat}, 1 ≤ m → n * m ≤ 140737488351232 → n ≤ 200000000000000 := fun {n m} h1 h2 => by
    have := Nat.le_mul_of_pos_right n h1; omega
  exact ⟨g m1 h1.1, g m2 h2.1, g m3 h3.1, g m4 h4.1, g m5 h5.1⟩
end Go.AMach
