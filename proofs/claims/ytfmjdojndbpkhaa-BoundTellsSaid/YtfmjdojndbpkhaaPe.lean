/- Parts of the proof. -/
import Derived.Test.YtfmjdojndbpkhaaPc
import Derived.Test.YtfmjdojndbpkhaaPd
import Derived.KernelRfl
/- Layer 24: the jeO. -/
namespace Go.AMach
set_option linter.unusedVariables false
set_option linter.unusedSimpArgs false
set_option linter.unnecessarySimpa false
open Go
set_option linter.unusedVariables false

open Classical in
noncomputable def jfq (l : List jah) : Int := if h : mayP l then (h.2.2.2.choose) 1 else 0
theorem Q_longV {l : List jah} (hl : Nodes l) : jAu l = some ((jfq l, ()), ()) := by
  unfold jfq
  by_cases h : mayP l
  · rw [dif_pos h]
    exact jCx l hl h (h.2.2.2.choose_spec)
  · rw [dif_neg h]
    exact jvB l hl h
theorem jrj {l : List jah} (ha : ∀ x ∈ l, (jcU x).length < 100000) : 0 ≤ jfq l ∧ jfq l ≤ 32 := by
  unfold jfq
  by_cases h : mayP l
  · rw [dif_pos h]
    have h2 := h.2.1
    exact ⟨(h.2.2.2.choose_spec).nonneg 1, by have := (h.2.2.2.choose_spec).le h2 ha 1; omega⟩
  · rw [dif_neg h]; omega

open Classical in
noncomputable def OfV (c : jaa) : Int × Int := if jcx c then (0, 10) else (cut7 (HC c (0, (1, ())) + jfq c.1), 0)
open Classical in
theorem Q_Of {c : jaa} (h : Cfg c) (hl : Nodes c.1) (ha : ∀ x ∈ c.1, (jcU x).length < 100000) : jEC c = some (((OfV c).1, ((OfV c).2, ())), ()) := by
  have e1 := jxV h 1
  refine fin ?_
  unfold jFv
  extract_lets -merge +onlyGivenNames y1
  have e_y1 : y1 = _ := (congrArg RS.get e1).trans (jaw _)
  clear_value y1; subst e_y1
  refine jaL e1 ?_
  unfold ofV OfV
  by_cases hr : jcx c
  · rw [if_pos hr, if_pos hr]
    refine jai rfl ?_
    rfl
  · rw [if_neg hr, if_neg hr]
    refine jaq rfl ?_
    have e2 := Q_longV hl
    extract_lets -merge +onlyGivenNames y2
    have e_y2 : y2 = _ := (congrArg RS.get e2).trans (jaw _)
    clear_value y2; subst e_y2
    refine jaL e2 ?_
    have h1 : InR (HC c (0, (1, ()))) := H_in (jdb c) (jcf c) (jdt c) (0, (1, ()))
    have h2 := jrj ha
    have w : IntKind.wrap .i64 (HC c (0, (1, ())) + jfq c.1) = HC c (0, (1, ())) + jfq c.1 := jbA (by unfold InR at h1; omega)
    extract_lets -merge +onlyGivenNames y3
    have ey : y3 = cut7 (HC c (0, (1, ())) + jfq c.1) := by
      show (if IntKind.wrap .i64 (HC c (0, (1, ())) + jfq c.1) < 65537 then IntKind.wrap .i64 (HC c (0, (1, ())) + jfq c.1) else 65537) = _
      rw [w]; rfl
    rw [ey]
end Go.AMach

/- Layer 24: the reference's list of objects. -/
namespace Go.AMach
set_option linter.unusedVariables false
set_option linter.unusedSimpArgs false
set_option linter.unnecessarySimpa false
open Go
set_option linter.unusedVariables false

def jbg : List jao → Int → Int → Option Nat
  | [], _, _ => none
  | x :: r, k, id => if x.1 = k ∧ x.2.1 = id then some 0 else (jbg r k id).map (· + 1)
theorem jcO : ∀ {l : List jao} {k id : Int} {i : Nat}, jbg l k id = some i → i < l.length ∧ (rdd jaz l i).1 = k ∧ (rdd jaz l i).2.1 = id
  | [], _, _, _, h => by cases h
  | x :: r, k, id, i, h => by
    unfold jbg at h
    by_cases c : x.1 = k ∧ x.2.1 = id
    · rw [if_pos c] at h; cases h
      exact ⟨by simp, c.1, c.2⟩
    · rw [if_neg c] at h
      obtain ⟨j, hj, rfl⟩ := Option.map_eq_some_iff.1 h
      obtain ⟨h1, h2⟩ := jcO hj
      have e : rdd jaz (x :: r) (j + 1) = rdd jaz r j := by rw [jbz h1, jbz (l := x :: r) (by simp; omega)]; rfl
      rw [e]
      exact ⟨by simp; omega, h2⟩
theorem jCC (kr : Int → Option Res) (kt : Unit → Option Res) (l : List jao) (hl : l.length < 9223372036854775807) (k id : Int) : ∀ (m i : Nat), i ≤ l.length → l.length - i < m →
    jju FUEL kr kt l k id m (i : Int) = match jbg (l.drop i) k id with | some j => kr ((i + j : Nat) : Int) | none => kt ()
  | 0, _, _, h => by omega
  | m + 1, i, hi, hm => by
    show jtn FUEL kr kt l k id (jju FUEL kr kt l k id m) (i : Int) = _
    unfold jtn
    by_cases h : i < l.length
    · have rest : jju FUEL kr kt l k id m (IntKind.wrap .i64 ((i : Int) + 1)) = match (jbg (l.drop (i + 1)) k id).map (· + 1) with | some j => kr ((i + j : Nat) : Int) | none => kt () := by
        rw [jaA (by omega), jCC kr kt l hl k id m (i + 1) (by omega) (by omega)]
        cases jbg (l.drop (i + 1)) k id with
        | none => rfl
        | some j =>
          show kr ((i + 1 + j : Nat) : Int) = kr ((i + (j + 1) : Nat) : Int)
          rw [show i + 1 + j = i + (j + 1) by omega]
      refine jai (decide_eq_true (by omega)) ?_
      refine jai (decide_eq_true (by omega)) ?_
      rw [jan, jaF jaz h]
      unfold jbg
      by_cases c1 : (rdd jaz l i).1 = k
      · refine jai (jbV c1) ?_
        refine jai (decide_eq_true (by omega)) ?_
        by_cases c2 : (rdd jaz l i).2.1 = id
        · refine jai (jbV c2) ?_
          rw [if_pos ⟨c1, c2⟩]
          rfl
        · refine jaq (jbi c2) ?_
          rw [if_neg (fun q => c2 q.2)]
          exact rest
      · refine jaq (jbi c1) ?_
        rw [if_neg (fun q => c1 q.1)]
        exact rest
    · refine jaq (decide_eq_false (by omega)) ?_
      rw [List.drop_of_length_le (by omega)]
      rfl
def jcl (l : List jao) (k id : Int) : Int := match jbg l k id with | some j => (j : Int) | none => -1
theorem jjq (l : List jao) (hl : l.length < 9223372036854775807) (k id : Int) : jEB l k id = some ((jcl l k id, ()), ()) := by
  refine fin ?_
  unfold jFu
  refine Eq.trans (jCC _ _ l hl k id FUEL 0 (by omega) (jaU (by omega))) ?_
  rw [List.drop_zero]
  unfold jcl
  cases jbg l k id with
  | none => rfl
  | some j =>
    show some (jac jmP jmW ((((0 + j : Nat) : Int), ()), ())) = _
    rw [Nat.zero_add]
def jbE (l : List jao) (k id : Int) : Int := match jbg l k id with | some j => (rdd jaz l j).2.2.1 | none => 0
theorem jhn (l : List jao) (hl : l.length < 9223372036854775807) (k id : Int) : jCk l k id = some ((jbE l k id, ()), ()) := by
  have e := jjq l hl k id
  refine fin ?_
  unfold jFq
  extract_lets -merge +onlyGivenNames y1
  have e_y : y1 = _ := (congrArg RS.get e).trans (jaw _)
  clear_value y1; subst e_y
  refine jaL e ?_
  unfold jbE
  cases hf : jbg l k id with
  | none =>
    have : jcl l k id = -1 := by unfold jcl; rw [hf]
    exact jai (by show decide (jcl l k id < 0) = true; rw [this]; rfl) rfl
  | some j =>
    have hj := (jcO hf).1
    have : jcl l k id = (j : Int) := by unfold jcl; rw [hf]
    refine jaq (by show decide (jcl l k id < 0) = false; rw [this]; exact decide_eq_false (by omega)) ?_
    refine jai (by show decide (0 ≤ jcl l k id ∧ jcl l k id < (l.length : Int)) = true; rw [this]; exact decide_eq_true (by omega)) ?_
    show some (jac jmN jmU (((rdd jaz l (Int.toNat (jcl l k id))).2.2.1, ()), ())) = _
    rw [this, jan]

/-! ### All objects -/
def addT (k : Int) (l : List jao) (id : Int) : List jao := match jbg l k id with | some _ => l | none => l ++ [(k, (id, (0, ())))]
theorem jmo (k : Int) (l : List jao) (id : Int) : (addT k l id).length ≤ l.length + 1 := by
  unfold addT; split <;> simp
theorem jvH (kt : Nat → List jao → Option Res) (c : jaa) (hl : (cT c).length ≤ 1000) : ∀ (m i : Nat) (o : List jao), i ≤ (cT c).length → (cT c).length - i < m → o.length ≤ 3000 + i →
    jlr FUEL kt c m o.length (i : Int) o = kt (((cT c).drop i).foldl (fun o t => addT 1 o t.1) o).length (((cT c).drop i).foldl (fun o t => addT 1 o t.1) o)
  | 0, _, _, _, h, _ => by omega
  | m + 1, i, o, hi, hm, ho => by
    show jtm FUEL kt c (jlr FUEL kt c m) o.length (i : Int) o = _
    unfold jtm
    by_cases h : i < (cT c).length
    · refine jai (decide_eq_true (by show (i : Int) < ((cT c).length : Int); omega)) ?_
      refine jai (decide_eq_true (by show (0 : Int) ≤ (i : Int) ∧ (i : Int) < ((cT c).length : Int); omega)) ?_
      rw [jby, jan, jaF jaD h, List.foldl_cons, jaA (by omega)]
      have e := jjq o (by omega) 1 (rdd jaD (cT c) i).1
      have hlen := jmo 1 o (rdd jaD (cT c) i).1
      have ih := jvH kt c hl m (i + 1) (addT 1 o (rdd jaD (cT c) i).1) (by omega) (by omega) (by omega)
      extract_lets -merge +onlyGivenNames y1
      have e_y : y1 = _ := (congrArg RS.get e).trans (jaw _)
      clear_value y1; subst e_y
      refine jaL e ?_
      rw [← ih]
      unfold addT
      cases hf : jbg o 1 (rdd jaD (cT c) i).1 with
      | none =>
        have : jcl o 1 (rdd jaD (cT c) i).1 = -1 := by unfold jcl; rw [hf]
        refine jai (by show decide (jcl o 1 (rdd jaD (cT c) i).1 < 0) = true; rw [this]; rfl) ?_
        refine jai (decide_eq_true (by show (0 : Int) ≤ (i : Int) ∧ (i : Int) < ((cT c).length : Int); omega)) ?_
        refine jai (decide_eq_true (by omega)) ?_
        rw [List.length_append]; rfl
      | some j =>
        have : jcl o 1 (rdd jaD (cT c) i).1 = (j : Int) := by unfold jcl; rw [hf]
        refine jaq (by show decide (jcl o 1 (rdd jaD (cT c) i).1 < 0) = false; rw [this]; exact decide_eq_false (by omega)) ?_
        rfl
    · refine jaq (decide_eq_false (by show ¬ (i : Int) < ((cT c).length : Int); omega)) ?_
      rw [List.drop_of_length_le (by omega)]
      rfl
theorem jvG (kt : Nat → List jao → Option Res) (c : jaa) (hl : (cB c).length ≤ 1000) : ∀ (m i : Nat) (o : List jao), i ≤ (cB c).length → (cB c).length - i < m → o.length ≤ 6000 + i →
    jlq FUEL kt c m o.length (i : Int) o = kt (((cB c).drop i).foldl (fun o t => addT 2 o t.1) o).length (((cB c).drop i).foldl (fun o t => addT 2 o t.1) o)
  | 0, _, _, _, h, _ => by omega
  | m + 1, i, o, hi, hm, ho => by
    show jtl FUEL kt c (jlq FUEL kt c m) o.length (i : Int) o = _
    unfold jtl
    by_cases h : i < (cB c).length
    · refine jai (decide_eq_true (by show (i : Int) < ((cB c).length : Int); omega)) ?_
      refine jai (decide_eq_true (by show (0 : Int) ≤ (i : Int) ∧ (i : Int) < ((cB c).length : Int); omega)) ?_
      rw [jby, jan, jaF jap h, List.foldl_cons, jaA (by omega)]
      have e := jjq o (by omega) 2 (rdd jap (cB c) i).1
      have hlen := jmo 2 o (rdd jap (cB c) i).1
      have ih := jvG kt c hl m (i + 1) (addT 2 o (rdd jap (cB c) i).1) (by omega) (by omega) (by omega)
      extract_lets -merge +onlyGivenNames y1
      have e_y : y1 = _ := (congrArg RS.get e).trans (jaw _)
      clear_value y1; subst e_y
      refine jaL e ?_
      rw [← ih]
      unfold addT
      cases hf : jbg o 2 (rdd jap (cB c) i).1 with
      | none =>
        have : jcl o 2 (rdd jap (cB c) i).1 = -1 := by unfold jcl; rw [hf]
        refine jai (by show decide (jcl o 2 (rdd jap (cB c) i).1 < 0) = true; rw [this]; rfl) ?_
        refine jai (decide_eq_true (by show (0 : Int) ≤ (i : Int) ∧ (i : Int) < ((cB c).length : Int); omega)) ?_
        refine jai (decide_eq_true (by omega)) ?_
        rw [List.length_append]; rfl
      | some j =>
        have : jcl o 2 (rdd jap (cB c) i).1 = (j : Int) := by unfold jcl; rw [hf]
        refine jaq (by show decide (jcl o 2 (rdd jap (cB c) i).1 < 0) = false; rw [this]; exact decide_eq_false (by omega)) ?_
        rfl
    · refine jaq (decide_eq_false (by show ¬ (i : Int) < ((cB c).length : Int); omega)) ?_
      rw [List.drop_of_length_le (by omega)]
      rfl
theorem jvF (kt : Nat → List jao → Option Res) (c : jaa) (hl : (cG c).length ≤ 1000) : ∀ (m i : Nat) (o : List jao), i ≤ (cG c).length → (cG c).length - i < m → o.length ≤ 9000 + i →
    jlp FUEL kt c m o.length (i : Int) o = kt (((cG c).drop i).foldl (fun o t => addT 3 o t.1) o).length (((cG c).drop i).foldl (fun o t => addT 3 o t.1) o)
  | 0, _, _, _, h, _ => by omega
  | m + 1, i, o, hi, hm, ho => by
    show jtk FUEL kt c (jlp FUEL kt c m) o.length (i : Int) o = _
    unfold jtk
    by_cases h : i < (cG c).length
    · refine jai (decide_eq_true (by show (i : Int) < ((cG c).length : Int); omega)) ?_
      refine jai (decide_eq_true (by show (0 : Int) ≤ (i : Int) ∧ (i : Int) < ((cG c).length : Int); omega)) ?_
      rw [jby, jan, jaF jak h, List.foldl_cons, jaA (by omega)]
      have e := jjq o (by omega) 3 (rdd jak (cG c) i).1
      have hlen := jmo 3 o (rdd jak (cG c) i).1
      have ih := jvF kt c hl m (i + 1) (addT 3 o (rdd jak (cG c) i).1) (by omega) (by omega) (by omega)
      extract_lets -merge +onlyGivenNames y1
      have e_y : y1 = _ := (congrArg RS.get e).trans (jaw _)
      clear_value y1; subst e_y
      refine jaL e ?_
      rw [← ih]
      unfold addT
      cases hf : jbg o 3 (rdd jak (cG c) i).1 with
      | none =>
        have : jcl o 3 (rdd jak (cG c) i).1 = -1 := by unfold jcl; rw [hf]
        refine jai (by show decide (jcl o 3 (rdd jak (cG c) i).1 < 0) = true; rw [this]; rfl) ?_
        refine jai (decide_eq_true (by show (0 : Int) ≤ (i : Int) ∧ (i : Int) < ((cG c).length : Int); omega)) ?_
        refine jai (decide_eq_true (by omega)) ?_
        rw [List.length_append]; rfl
      | some j =>
        have : jcl o 3 (rdd jak (cG c) i).1 = (j : Int) := by unfold jcl; rw [hf]
        refine jaq (by show decide (jcl o 3 (rdd jak (cG c) i).1 < 0) = false; rw [this]; exact decide_eq_false (by omega)) ?_
        rfl
    · refine jaq (decide_eq_false (by show ¬ (i : Int) < ((cG c).length : Int); omega)) ?_
      rw [List.drop_of_length_le (by omega)]
      rfl
def jbC (c : jaa) : List jao := (cG c).foldl (fun o t => addT 3 o t.1) ((cB c).foldl (fun o t => addT 2 o t.1) ((cT c).foldl (fun o t => addT 1 o t.1) []))
theorem jcn {α : Type} (k : Int) (f : α → Int) : ∀ (l : List α) (o : List jao), (l.foldl (fun o t => addT k o (f t)) o).length ≤ o.length + l.length
  | [], o => by simp
  | x :: r, o => by
    have := jcn k f r (addT k o (f x))
    have := jmo k o (f x)
    simp only [List.foldl_cons, List.length_cons]; omega
theorem jkj {c : jaa} (h : Cfg c) : (jbC c).length ≤ 3000 := by
  have h1 := jcn 1 (fun t : jbl => t.1) (cT c) []
  have h2 := jcn 2 (fun t : jbB => t.1) (cB c) ((cT c).foldl (fun o t => addT 1 o t.1) [])
  have h3 := jcn 3 (fun t : jal => t.1) (cG c) ((cB c).foldl (fun o t => addT 2 o t.1) ((cT c).foldl (fun o t => addT 1 o t.1) []))
  have := h.t; have := h.b; have := h.g
  simp only [List.length_nil] at h1
  unfold jbC; omega
theorem jzo {c : jaa} (h : Cfg c) : jEA c = some (((jbC c).length, ()), (jbC c, ())) := by
  have h1 := jcn 1 (fun t : jbl => t.1) (cT c) []
  have h2 := jcn 2 (fun t : jbB => t.1) (cB c) ((cT c).foldl (fun o t => addT 1 o t.1) [])
  have t1 := h.t; have t2 := h.b; have t3 := h.g
  simp only [List.length_nil] at h1
  refine fin ?_
  unfold jFt
  refine Eq.trans (jvH _ c h.t FUEL 0 [] (by omega) (jaU (by omega)) (by simp)) ?_
  rw [List.drop_zero]
  refine Eq.trans (jvG _ c h.b FUEL 0 _ (by omega) (jaU (by omega)) (by omega)) ?_
  rw [List.drop_zero]
  refine Eq.trans (jvF _ c h.g FUEL 0 _ (by omega) (jaU (by omega)) (by omega)) ?_
  rw [List.drop_zero]
  rfl
end Go.AMach

/- Layer 24: BoundCycles. -/
namespace Go.AMach
set_option linter.unusedVariables false
set_option linter.unusedSimpArgs false
set_option linter.unnecessarySimpa false
open Go
set_option linter.unusedVariables false

theorem jrr {α : Type} (z : α) (a b : List α) : cutL z (cutL z a 0 (0 + a.length) ++ b) 0 ((cutL z a 0 (0 + a.length)).length + b.length) = a ++ b := by
  have e : cutL z a 0 (0 + a.length) = a := by rw [Nat.zero_add]; exact jby z a
  rw [e, ← List.length_append]
  exact jby z _
theorem jmi {α : Type} (z : α) (a : List α) : (cutL z a 0 (0 + a.length)).length = a.length := by rw [Nat.zero_add, jby]
theorem jvm {z : jal} {k : Int} : ∀ {l : List jal} {i : Nat}, (∀ j, j < i → (rdd z l j).1 ≠ k) → i < l.length → (rdd z l i).1 = k → jbS l k = some (rdd z l i)
  | [], i, _, h, _ => by simp at h
  | x :: r, 0, _, _, h => by
    have : (rdd z (x :: r) 0) = x := rfl
    rw [this] at h ⊢
    simp [jbS, List.find?_cons, h]
  | x :: r, i + 1, hj, hl, h => by
    have h0 : x.1 ≠ k := hj 0 (by omega)
    have e : rdd z (x :: r) (i + 1) = rdd z r i := by
      have hl' : i < r.length := by simpa using hl
      rw [jbz hl', jbz hl]; rfl
    rw [e] at h ⊢
    have ih := jvm (z := z) (k := k) (l := r) (i := i) (fun j hj' => by
      have := hj (j + 1) (by omega)
      have e2 : rdd z (x :: r) (j + 1) = rdd z r j := by
        have hl' : j < r.length := by simp at hl; omega
        rw [jbz hl', jbz (by simp; omega)]; rfl
      rwa [e2] at this) (by simpa using hl) h
    rw [← ih]
    simp [jbS, List.find?_cons, h0]
theorem jDU {f : ObjS → Int} (hf : ∀ y, InR (f y)) (k : Int) (l : List jbt) : ∀ b ∈ l, f (1, b.2) ≤ jcP f k l := by
  have mono : ∀ (l : List jbt) (n : Int), InR n → n ≤ l.foldl (fun n (b : jbt) => if k = 1 then cut7 (n + f (1, b.2)) else mx n (f (1, b.2))) n ∧ ∀ b ∈ l, f (1, b.2) ≤ l.foldl (fun n (b : jbt) => if k = 1 then cut7 (n + f (1, b.2)) else mx n (f (1, b.2))) n := by
    intro l
    induction l with
    | nil => intro n _; exact ⟨Int.le_refl _, fun b hb => by cases hb⟩
    | cons x r ih =>
      intro n hn
      have hx := hf (1, x.2)
      have step : InR (if k = 1 then cut7 (n + f (1, x.2)) else mx n (f (1, x.2))) ∧ n ≤ (if k = 1 then cut7 (n + f (1, x.2)) else mx n (f (1, x.2))) ∧ f (1, x.2) ≤ (if k = 1 then cut7 (n + f (1, x.2)) else mx n (f (1, x.2))) := by
        unfold InR at hn hx ⊢
        by_cases c : k = 1
        · rw [if_pos c]; unfold cut7; split <;> omega
        · rw [if_neg c]; unfold mx; split <;> omega
      obtain ⟨i1, i2⟩ := ih _ step.1
      refine ⟨Int.le_trans step.2.1 i1, fun b hb => ?_⟩
      rcases List.mem_cons.1 hb with rfl | hb
      · exact Int.le_trans step.2.2 i1
      · exact i2 b hb
  exact (mono l 0 ⟨by omega, by omega⟩).2

/-! ### More objects behind -/
abbrev jvg (c m : jaa) : jaa := ([], ([], (cT c ++ cT m, (cE c ++ cE m, (cB c ++ cB m, (cG c ++ cG m, ([], ([], ([], ())))))))))
theorem jAf (c m : jaa) (x : ObjS) : ∀ y ∈ jbH c x, y ∈ jbH (jvg c m) x := by
  intro y hy
  unfold jbH jaE at hy ⊢
  by_cases c0 : x.1 = 0
  · rw [if_pos c0] at hy ⊢
    obtain ⟨k, hk, rfl⟩ := List.mem_map.1 hy
    refine List.mem_map.2 ⟨k, ?_, rfl⟩
    unfold jdb at hk ⊢
    cases hf : jbI (cT c) x.2.1 with
    | none => rw [hf] at hk; simp at hk
    | some t =>
      have hf2 : jbI (cT (jvg c m)) x.2.1 = some t := by
        unfold jbI at hf ⊢
        show (cT c ++ cT m).find? _ = _
        rw [List.find?_append, hf]; rfl
      rw [hf] at hk
      rw [hf2]
      simp only [Option.map_some, Option.getD_some, List.mem_cons, List.mem_map, List.mem_filter] at hk ⊢
      rcases hk with h | ⟨a, ⟨ha, hb⟩, hc⟩
      · exact .inl h
      · exact .inr ⟨a, ⟨List.mem_append_left _ ha, hb⟩, hc⟩
  · rw [if_neg c0] at hy ⊢
    by_cases c1 : x.1 = 1
    · rw [if_pos c1] at hy ⊢
      unfold jcf at hy ⊢
      cases hf : jbf (cB c) x.2.1 with
      | none => rw [hf] at hy; simp at hy
      | some t =>
        have hf2 : jbf (cB (jvg c m)) x.2.1 = some t := by
          unfold jbf at hf ⊢
          show (cB c ++ cB m).find? _ = _
          rw [List.find?_append, hf]; rfl
        rw [hf] at hy
        rw [hf2]
        exact hy
    · rw [if_neg c1] at hy ⊢
      unfold jdt at hy ⊢
      cases hf : jbS (cG c) x.2.1 with
      | none => rw [hf] at hy; exact absurd hy (by simp [jak])
      | some t =>
        have hf2 : jbS (cG (jvg c m)) x.2.1 = some t := by
          unfold jbS at hf ⊢
          show (cG c ++ cG m).find? _ = _
          rw [List.find?_append, hf]; rfl
        rw [hf] at hy
        rw [hf2]
        exact hy
theorem Reach.mono {N N' : ObjS → List ObjS} (h : ∀ x, ∀ y ∈ N x, y ∈ N' x) {x y : ObjS} (k : Reach N x y) : Reach N' x y := by
  induction k with
  | one h1 => exact .one (h _ _ h1)
  | step _ h1 ih => exact .step ih (h _ _ h1)
theorem jBz {c m : jaa} (h : jcx c) : jcx (jvg c m) := by
  obtain ⟨z, hz⟩ := h
  exact ⟨z, hz.mono (jAf c m)⟩
theorem jDM {c m : jaa} (h : jgI c = false) (k : jgI m = false) : Cfg (jvg c m) := by
  have h1 := jfE h; have h2 := jfE k
  have b1 : (cntC c : Int) ≤ 60 := by
    unfold jgI at h
    by_cases c6 : (cntC c : Int) > 60
    · rw [if_pos c6] at h; cases h
    · omega
  have b2 : (cntC m : Int) ≤ 60 := by
    unfold jgI at k
    by_cases c6 : (cntC m : Int) > 60
    · rw [if_pos c6] at k; cases k
    · omega
  unfold cntC at b1 b2
  refine ⟨?_, ?_, ?_, ?_, fun x hx => ?_, fun x hx => ?_⟩
  · show (cT c ++ cT m).length ≤ 1000; rw [List.length_append]; omega
  · show (cE c ++ cE m).length ≤ 1000; rw [List.length_append]; omega
  · show (cB c ++ cB m).length ≤ 1000; rw [List.length_append]; omega
  · show (cG c ++ cG m).length ≤ 1000; rw [List.length_append]; omega
  · rcases List.mem_append.1 hx with hx | hx
    · exact h1.1.code x hx
    · exact h2.1.code x hx
  · rcases List.mem_append.1 hx with hx | hx
    · exact h1.1.buck x hx
    · exact h2.1.buck x hx

/-! ### The loops -/
theorem L_BC2 (kr : Bool → Option Res) (kt : Unit → Option Res) {c : jaa} (h : Cfg c) (hn : ¬ jcx c) (i : Nat) (hi : i < (cG c).length) (n : Int) (hb : ∀ b ∈ (rdd jak (cG c) i).2.2.2.1, HC c (1, b.2) ≤ n) :
    ∀ (m j : Nat), j ≤ (rdd jak (cG c) i).2.2.2.1.length → (rdd jak (cG c) i).2.2.2.1.length - j < m → jkS FUEL kr kt (i : Int) n c m (j : Int) = kt ()
  | 0, _, _, h => by omega
  | m + 1, j, hj, hm => by
    have hlb := h.buck _ (jbn (d := jak) hi)
    show jsG FUEL kr kt (i : Int) n c (jkS FUEL kr kt (i : Int) n c m) (j : Int) = _
    unfold jsG
    refine jai (decide_eq_true (by show (0 : Int) ≤ (i : Int) ∧ (i : Int) < ((cG c).length : Int); omega)) ?_
    rw [jan]
    by_cases hlt : j < (rdd jak (cG c) i).2.2.2.1.length
    · refine jai (decide_eq_true (by show (j : Int) < ((rdd jak (cG c) i).2.2.2.1.length : Int); omega)) ?_
      refine jai (decide_eq_true (by show (0 : Int) ≤ (i : Int) ∧ (i : Int) < ((cG c).length : Int); omega)) ?_
      refine jai (decide_eq_true (by show (0 : Int) ≤ (j : Int) ∧ (j : Int) < ((rdd jak (cG c) i).2.2.2.1.length : Int); omega)) ?_
      rw [jan]
      have e1 := jxY h (rdd jba (rdd jak (cG c) i).2.2.2.1 j).2.1
      have eo : ofV c (1, ((rdd jba (rdd jak (cG c) i).2.2.2.1 j).2.1, ())) = (HC c (1, (rdd jba (rdd jak (cG c) i).2.2.2.1 j).2), 0) := by unfold ofV; rw [if_neg hn]
      rw [eo] at e1
      have hle := hb _ (jbn (d := jba) hlt)
      extract_lets -merge +onlyGivenNames y10
      extract_lets -merge +onlyGivenNames y11
      have e_y : y11 = _ := (congrArg RS.get e1).trans (jaw _)
      clear_value y11; subst e_y
      refine jaL e1 ?_
      refine jaq rfl ?_
      refine jaq (decide_eq_false (by show ¬ (HC c (1, (rdd jba (rdd jak (cG c) i).2.2.2.1 j).2) > n); omega)) ?_
      rw [jaA (by omega)]
      exact L_BC2 kr kt h hn i hi n hb m (j + 1) (by omega) (by omega)
    · refine jaq (decide_eq_false (by show ¬ (j : Int) < ((rdd jak (cG c) i).2.2.2.1.length : Int); omega)) ?_
      rfl
theorem L_BC0 (kr : Bool → Option Res) (kt : Unit → Option Res) {c : jaa} (h : Cfg c) (hn : ¬ jcx c) (id : Int) :
    ∀ (m i : Nat), i ≤ (cG c).length → (cG c).length - i < m → (∀ j, j < i → (rdd jak (cG c) j).1 ≠ id) → jkT FUEL kr kt id c m (i : Int) = kt ()
  | 0, _, _, h, _ => by omega
  | m + 1, i, hi, hm, hj => by
    have hlg := h.g
    show jsH FUEL kr kt id c (jkT FUEL kr kt id c m) (i : Int) = _
    unfold jsH
    by_cases hlt : i < (cG c).length
    · refine jai (decide_eq_true (by show (i : Int) < ((cG c).length : Int); omega)) ?_
      refine jai (decide_eq_true (by show (0 : Int) ≤ (i : Int) ∧ (i : Int) < ((cG c).length : Int); omega)) ?_
      rw [jan]
      by_cases he : (rdd jak (cG c) i).1 = id
      · refine jaq (by show ((rdd jak (cG c) i).1 != id) = false; rw [jcs, decide_eq_true he]; rfl) ?_
        have e1 := jxW h id
        have eo : ofV c (2, (id, ())) = (HC c (2, (id, ())), 0) := by unfold ofV; rw [if_neg hn]
        rw [eo] at e1
        have hf := jvm hj hlt he
        have hv : HC c (2, (id, ())) = cut7 (jcP (HC c) (rdd jak (cG c) i).2.1 (rdd jak (cG c) i).2.2.2.1) := by
          refine Eq.trans (H_eq (h.sol.ends hn (2, (id, ())))) ?_
          unfold jfd
          rw [if_neg (by show ¬ ((2 : Int) = 0); omega), if_neg (by show ¬ ((2 : Int) = 1); omega)]
          have : jdt c id = some (rdd jak (cG c) i) := hf
          show cut7 (jcP _ ((jdt c id).getD jak).2.1 ((jdt c id).getD jak).2.2.2.1) = _
          rw [this]; rfl
        extract_lets -merge +onlyGivenNames y9
        have e_y : y9 = _ := (congrArg RS.get e1).trans (jaw _)
        clear_value y9; subst e_y
        refine jaL e1 ?_
        refine L_BC2 _ _ h hn i hlt _ (fun b hb => ?_) FUEL 0 (by omega) (by have := h.buck _ (jbn (d := jak) hlt); exact jaU (by omega))
        have g1 := jDU (H_in (jdb c) (jcf c) (jdt c)) (rdd jak (cG c) i).2.1 (rdd jak (cG c) i).2.2.2.1 b hb
        have g2 : InR (HC c (1, b.2)) := H_in _ _ _ _
        show HC c (1, b.2) ≤ HC c (2, (id, ()))
        rw [hv]
        unfold cut7
        unfold InR at g2
        split <;> omega
      · refine jai (by show ((rdd jak (cG c) i).1 != id) = true; rw [jcs, decide_eq_false he]; rfl) ?_
        rw [jaA (by omega)]
        refine L_BC0 kr kt h hn id m (i + 1) (by omega) (by omega) fun j hj' => ?_
        by_cases e : j = i
        · rw [e]; exact he
        · exact hj j (by omega)
    · refine jaq (decide_eq_false (by show ¬ (i : Int) < ((cG c).length : Int); omega)) ?_
      rfl
theorem joinQ {c m : jaa} : ([], ([], ((cutL jaD ((cutL jaD c.2.2.1 0 (0 + (List.length c.2.2.1))) ++ m.2.2.1) 0 ((List.length (cutL jaD c.2.2.1 0 (0 + (List.length c.2.2.1)))) + (List.length m.2.2.1))),
    ((cutL jaT ((cutL jaT c.2.2.2.1 0 (0 + (List.length c.2.2.2.1))) ++ m.2.2.2.1) 0 ((List.length (cutL jaT c.2.2.2.1 0 (0 + (List.length c.2.2.2.1)))) + (List.length m.2.2.2.1))),
    ((cutL jap ((cutL jap c.2.2.2.2.1 0 (0 + (List.length c.2.2.2.2.1))) ++ m.2.2.2.2.1) 0 ((List.length (cutL jap c.2.2.2.2.1 0 (0 + (List.length c.2.2.2.2.1)))) + (List.length m.2.2.2.2.1))),
    ((cutL jak ((cutL jak c.2.2.2.2.2.1 0 (0 + (List.length c.2.2.2.2.2.1))) ++ m.2.2.2.2.2.1) 0 ((List.length (cutL jak c.2.2.2.2.2.1 0 (0 + (List.length c.2.2.2.2.2.1)))) + (List.length m.2.2.2.2.2.1))), ([], ([], ([], ()))))))))) = jvg c m := by
  rw [jrr, jrr, jrr, jrr]
theorem jvy : ∀ {A B X : Option Res}, A = X → cond jgz A B = X := fun h => jaL (o := jCl) jxQ h
open Classical in
theorem Pure.BoundCycles (c : jaa) (hg : jag.good c) (m : jaa) (hm : jag.good m) (id : Int) (hid : (Ty.int .i64).good id) : jEg c m id = some ((true, ()), ()) := by
  refine fin ?_
  unfold jFa
  have el := jxU (jwH hg)
  have ek := jxU (jwH hm)
  have ya : jma = ((true, ()), ()) := (congrArg RS.get jxQ).trans (jaw _)
  extract_lets -merge +onlyGivenNames y1
  have e_y : y1 = _ := (congrArg RS.get el).trans (jaw _)
  clear_value y1; subst e_y
  refine jaL el ?_
  cases hl : jgI c with
  | true =>
    refine jai rfl ?_
    rw [ya]
    exact jvy rfl
  | false =>
    refine jaq rfl ?_
    extract_lets -merge +onlyGivenNames y3
    have e_y : y3 = _ := (congrArg RS.get ek).trans (jaw _)
    clear_value y3; subst e_y
    refine jaL ek ?_
    cases hk : jgI m with
    | true =>
      refine jai rfl ?_
      rw [ya]
      exact jvy rfl
    | false =>
      refine jaq rfl ?_
      obtain ⟨hc, hn60, harm⟩ := jfE hl
      obtain ⟨hc2, _, _⟩ := jfE hk
      have hj := jDM hl hk
      have t1 := hc.t; have t2 := hc.e; have t3 := hc.b; have t4 := hc.g
      have s1 := hc2.t; have s2 := hc2.e; have s3 := hc2.b; have s4 := hc2.g
      have sz : ∀ {n k : Nat}, n ≤ 1000 → k ≤ 120 → n * k ≤ 2 ^ 46 ∧ n ≤ 2 ^ 46 := fun {n k} h1 h2 => by
        have := Nat.mul_le_mul h1 h2
        exact ⟨by omega, by omega⟩
      have sz2 : ∀ {n p k : Nat}, n ≤ 1000 → p ≤ 1000 → k ≤ 120 → (n + p) * k ≤ 2 ^ 46 ∧ n + p ≤ 2 ^ 46 := fun {n p k} h1 h2 h3 => by
        have := Nat.mul_le_mul (show n + p ≤ 2000 by omega) h3
        exact ⟨by omega, by omega⟩
      rw [ya]
      extract_lets -merge +onlyGivenNames y5
      refine jvy ?_
      refine jaq rfl ?_
      rw [joinQ, jmi, jmi, jmi, jmi, Nat.zero_add, Nat.zero_add, Nat.zero_add, Nat.zero_add]
      refine jai (decide_eq_true (sz t1 (by decide))) ?_
      refine jai (decide_eq_true (sz2 t1 s1 (by decide))) ?_
      refine jai (decide_eq_true (sz t2 (by decide))) ?_
      refine jai (decide_eq_true (sz2 t2 s2 (by decide))) ?_
      refine jai (decide_eq_true (sz t3 (by decide))) ?_
      refine jai (decide_eq_true (sz2 t3 s3 (by decide))) ?_
      refine jai (decide_eq_true (sz t4 (by decide))) ?_
      refine jai (decide_eq_true (sz2 t4 s4 (by decide))) ?_
      have eC := jxX hc
      extract_lets -merge +onlyGivenNames y7
      have e_y : y7 = _ := (congrArg RS.get eC).trans (jaw _)
      clear_value y7; subst e_y
      refine jaL eC ?_
      by_cases hr : jcx c
      · refine jai (decide_eq_true hr) ?_
        have eD := jxX hj
        extract_lets -merge +onlyGivenNames y8
        have e_y : y8 = _ := (congrArg RS.get eD).trans (jaw _)
        clear_value y8; subst e_y
        refine jaL eD ?_
        show some (jac jfg jfh ((decide (jcx (jvg c m)), ()), ())) = _
        rw [decide_eq_true (jBz hr)]
      · refine jaq (decide_eq_false hr) ?_
        refine Eq.trans (L_BC0 _ _ hc hr id FUEL 0 (by omega) (jaU (by omega)) (fun j hj => by omega)) ?_
        have hN : Nodes c.1 := ⟨by omega, fun x hx => Nat.lt_of_lt_of_le (harm x hx) (by decide), fun x hx => jvj (hg.1.2 x hx)⟩
        have eO := Q_Of hc hN hN.arms
        have eV : OfV c = (cut7 (HC c (0, (1, ())) + jfq c.1), 0) := by unfold OfV; rw [if_neg hr]
        rw [eV] at eO
        have h1 : InR (HC c (0, (1, ()))) := H_in _ _ _ _
        have h2 := jrj hN.arms
        have h3 : InR (cut7 (HC c (0, (1, ())) + jfq c.1)) := jfs (by unfold InR at h1; omega)
        extract_lets -merge +onlyGivenNames y14
        have e_y : y14 = _ := (congrArg RS.get eO).trans (jaw _)
        clear_value y14; subst e_y
        refine jaL eO ?_
        refine jai rfl ?_
        refine jai (decide_eq_true h3.1) ?_
        show some (jac jfg jfh ((decide (cut7 (HC c (0, (1, ())) + jfq c.1) ≤ 65537), ()), ())) = _
        rw [decide_eq_true h3.2]

end Go.AMach
