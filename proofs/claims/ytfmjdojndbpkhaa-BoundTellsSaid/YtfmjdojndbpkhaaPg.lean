/- Parts of the proof. -/
import Derived.Test.YtfmjdojndbpkhaaPf
import Derived.KernelRfl
/- Layer 24: the reference's number of a block. -/
namespace Go.AMach
set_option linter.unusedVariables false
set_option linter.unusedSimpArgs false
set_option linter.unnecessarySimpa false
open Go
set_option linter.unusedVariables false

theorem jzv (kt : List Int → Option Res) (sp : List jao) (hsl : sp.length < 9223372036854775807) (hsp : SpOk sp) (l : List jaj) (hl : l.length ≤ 100000) : ∀ (m k : Nat), k ≤ l.length → k < m →
    jgi FUEL kt sp l (l.length + 1) m ((k : Int) - 1) (List.replicate k 0 ++ jbb (FL sp) (l.drop k)) = kt (jbb (FL sp) l)
  | 0, _, _, h => by omega
  | m + 1, k, hk, hm => by
    show jop FUEL kt sp l (l.length + 1) (jgi FUEL kt sp l (l.length + 1) m) ((k : Int) - 1) _ = _
    cases k with
    | zero =>
      unfold jop
      refine jaq (decide_eq_false (by omega)) ?_
      rfl
    | succ j =>
      have hj : j < l.length := by omega
      have ej : ((j + 1 : Nat) : Int) - 1 = (j : Int) := by omega
      have w1 : IntKind.wrap .i64 ((j : Int) + 1) = ((j + 1 : Nat) : Int) := jaA (by omega)
      have w2 : IntKind.wrap .i64 ((j : Int) - 1) = (j : Int) - 1 := jbA (by omega)
      have hin := jcZ (f := FL sp) (fun y => jdc hsp _ _) (l.drop (j + 1))
      have r0 : rdd (0 : Int) (List.replicate (j + 1) 0 ++ jbb (FL sp) (l.drop (j + 1))) (j + 1) = rdd 0 (jbb (FL sp) (l.drop (j + 1))) 0 := jra 0 (by simp)
      have hr0 := jfB hin 0
      have hlen : (l.drop (j + 1)).length = l.length - (j + 1) := by simp
      have go : ∀ (v : Int), v = cut7 (1 + jcr (FL sp) (rdd jae l j) (l.drop (j + 1)).length (jbb (FL sp) (l.drop (j + 1)))) →
          jgi FUEL kt sp l (l.length + 1) m ((j : Int) - 1) ((List.replicate (j + 1) (0 : Int) ++ jbb (FL sp) (l.drop (j + 1))).set j v) = kt (jbb (FL sp) l) := fun v hv => by
        have e2 := jzv kt sp hsl hsp l hl m j (by omega) (by omega)
        rw [jpB (FL sp) hj, ← hv] at e2
        rw [jyl]
        exact e2
      rw [ej]
      generalize hs : jbb (FL sp) (l.drop (j + 1)) = s at *
      have pre : ∀ {X A C : Option Res}, A = X → cond (decide ((j : Int) ≥ 0)) (cond (decide ((0 : Int) ≤ (j : Int) ∧ (j : Int) < ((l.length : Nat) : Int))) A none) C = X := fun {X A C} h =>
        jai (decide_eq_true (by omega)) (jai (decide_eq_true (by omega)) h)
      have wr : ∀ {X A : Option Res}, A = X → cond (decide ((0 : Int) ≤ (j : Int) ∧ (j : Int) < ((l.length + 1 : Nat) : Int))) A none = X := fun {X A} h => jai (decide_eq_true (by omega)) h
      have wr1 : ∀ {X A : Option Res}, A = X → cond (decide ((0 : Int) ≤ ((j + 1 : Nat) : Int) ∧ ((j + 1 : Nat) : Int) < ((l.length + 1 : Nat) : Int))) A none = X := fun {X A} h => jai (decide_eq_true (by omega)) h
      have put : ∀ (a : Int), InR a → cut7 (1 + a) = cut7 (1 + jcr (FL sp) (rdd jae l j) (l.drop (j + 1)).length s) →
          (let y : ((Int × Unit) × Unit) := (jow (IntKind.wrap .i64 ((1 : Int) + a)))
           cond (jhA (IntKind.wrap .i64 ((1 : Int) + a))) (cond (decide ((0 : Int) ≤ (j : Int) ∧ (j : Int) < ((l.length + 1 : Nat) : Int))) (jgi FUEL kt sp l (l.length + 1) m ((j : Int) - 1) (List.set (List.replicate (j + 1) (0 : Int) ++ s) j y.1.1)) none) none) = kt (jbb (FL sp) l) := fun a ha hv => by
        have w : IntKind.wrap .i64 ((1 : Int) + a) = 1 + a := jbA (by unfold InR at ha; omega)
        have e2 := jzq (IntKind.wrap .i64 ((1 : Int) + a))
        extract_lets -merge +onlyGivenNames y
        have e_y : y = _ := (congrArg RS.get e2).trans (jaw _)
        clear_value y; subst e_y
        refine jaL e2 ?_
        refine wr ?_
        show jgi FUEL kt sp l (l.length + 1) m ((j : Int) - 1) (List.set (List.replicate (j + 1) (0 : Int) ++ s) j (cut7 (IntKind.wrap .i64 ((1 : Int) + a)))) = _
        rw [w]
        exact go _ hv
      unfold jop
      rw [jan, w2, w1, jan, r0]
      have stI : ∀ k id, InR (jbE sp k id) := jdc hsp
      by_cases c3 : (rdd jae l j).1 = 13
      · have e1 := jhn sp hsl 1 (rdd jae l j).2.2.2.2.1
        refine pre ?_
        refine jai (jbV c3) ?_
        extract_lets -merge +onlyGivenNames y1
        have e_y : y1 = _ := (congrArg RS.get e1).trans (jaw _)
        clear_value y1; subst e_y
        refine jaL e1 ?_
        exact put (jbE sp 1 (rdd jae l j).2.2.2.2.1) (stI _ _) (by
          unfold jcr; rw [if_neg (by omega), if_neg (by omega), if_pos c3]; rfl)
      by_cases c4 : (rdd jae l j).1 = 14
      · have e1 := jhn sp hsl 3 (rdd jae l j).2.2.2.2.1
        refine pre ?_
        refine jaq (jbi c3) ?_
        refine jai (jbV c4) ?_
        extract_lets -merge +onlyGivenNames y3
        have e_y : y3 = _ := (congrArg RS.get e1).trans (jaw _)
        clear_value y3; subst e_y
        refine jaL e1 ?_
        exact put (jbE sp 3 (rdd jae l j).2.2.2.2.1) (stI _ _) (by
          unfold jcr; rw [if_neg (by omega), if_neg (by omega), if_neg c3, if_pos c4]; rfl)
      by_cases c1 : (rdd jae l j).1 = 23
      · refine pre ?_
        refine jaq (jbi c3) ?_
        refine jaq (jbi c4) ?_
        refine jai (jbV c1) ?_
        refine wr ?_
        exact go 1 (by unfold jcr; rw [if_pos c1]; rfl)
      by_cases c2 : (rdd jae l j).1 = 22
      · refine pre ?_
        refine jaq (jbi c3) ?_
        refine jaq (jbi c4) ?_
        refine jaq (jbi c1) ?_
        refine jai (jbV c2) ?_
        refine wr ?_
        exact go 1 (by unfold jcr; rw [if_neg c1, if_pos c2]; rfl)
      have mx0 : (if (0 : Int) > rdd 0 s 0 then (0 : Int) else rdd 0 s 0) = rdd 0 s 0 := if_neg (by unfold InR at hr0; omega)
      by_cases c5 : (rdd jae l j).1 = 12
      · refine pre ?_
        refine jaq (jbi c3) ?_
        refine jaq (jbi c4) ?_
        refine jaq (jbi c1) ?_
        refine jaq (jbi c2) ?_
        refine jai (jbV c5) ?_
        by_cases c6 : 0 ≤ (rdd jae l j).2.2.2.2.1
        · have wd : IntKind.wrap .i64 (IntKind.wrap .i64 ((l.length : Int) - 1) - (j : Int)) = (l.length : Int) - 1 - j := by
            rw [jbA (n := (l.length : Int) - 1) (by omega), jbA (by omega)]
          refine jai (decide_eq_true c6) ?_
          rw [wd]
          extract_lets -merge +onlyGivenNames y5
          by_cases c7 : (rdd jae l j).2.2.2.2.1 < (l.length : Int) - 1 - j
          · have w8 : IntKind.wrap .i64 (((j + 1 : Nat) : Int) + (rdd jae l j).2.2.2.2.1) = ((j + 1 + (rdd jae l j).2.2.2.2.1.toNat : Nat) : Int) := by
              rw [jbA (by omega)]; omega
            have rN : rdd (0 : Int) (List.replicate (j + 1) 0 ++ s) (j + 1 + (rdd jae l j).2.2.2.2.1.toNat) = rdd 0 s (rdd jae l j).2.2.2.2.1.toNat := jra _ (by simp)
            have hrN := jfB hin (rdd jae l j).2.2.2.2.1.toNat
            refine jai (decide_eq_true c7) ?_
            rw [w8]
            extract_lets -merge +onlyGivenNames y6
            refine jai (decide_eq_true (by show (0 : Int) ≤ ((j + 1 + (rdd jae l j).2.2.2.2.1.toNat : Nat) : Int) ∧ ((j + 1 + (rdd jae l j).2.2.2.2.1.toNat : Nat) : Int) < _; omega)) ?_
            refine wr1 ?_
            have e8 : Int.toNat y6 = j + 1 + (rdd jae l j).2.2.2.2.1.toNat := jan _
            rw [e8, rN]
            exact put (mx (rdd 0 s 0) (rdd 0 s (rdd jae l j).2.2.2.2.1.toNat)) (jre hr0 hrN) (by
              unfold jcr; rw [if_neg c1, if_neg c2, if_neg c3, if_neg c4, if_pos c5, if_pos ⟨c6, by rw [hlen]; omega⟩])
          · refine jaq (decide_eq_false c7) ?_
            refine wr1 ?_
            rw [mx0]
            exact put (rdd 0 s 0) hr0 (by
              unfold jcr; rw [if_neg c1, if_neg c2, if_neg c3, if_neg c4, if_pos c5, if_neg (by rw [hlen]; omega)])
        · refine jaq (decide_eq_false c6) ?_
          refine wr1 ?_
          rw [mx0]
          exact put (rdd 0 s 0) hr0 (by
            unfold jcr; rw [if_neg c1, if_neg c2, if_neg c3, if_neg c4, if_pos c5, if_neg (by omega)])
      · refine pre ?_
        refine jaq (jbi c3) ?_
        refine jaq (jbi c4) ?_
        refine jaq (jbi c1) ?_
        refine jaq (jbi c2) ?_
        refine jaq (jbi c5) ?_
        refine wr1 ?_
        exact put (rdd 0 s 0) hr0 (by
          unfold jcr; rw [if_neg c1, if_neg c2, if_neg c3, if_neg c4, if_neg c5])
theorem jEY {sp : List jao} (hsl : sp.length < 9223372036854775807) (hsp : SpOk sp) (l : List jaj) (hl : l.length ≤ 100000) : jEv sp l = some ((rdd 0 (jbb (FL sp) l) 0, ()), ()) := by
  have w1 : IntKind.wrap .i64 ((l.length : Int) + 1) = ((l.length + 1 : Nat) : Int) := jaA (by omega)
  have w2 : IntKind.wrap .i64 ((l.length : Int) - 1) = (l.length : Int) - 1 := jbA (by omega)
  have e2 := jzv (fun y15 => cond (decide ((0 : Int) ≤ (0 : Int) ∧ (0 : Int) < ((l.length + 1 : Nat) : Int))) (some (jac joN jpb ((rdd (0 : Int) y15 0, ()), ()))) none) sp hsl hsp l hl FUEL l.length (Nat.le_refl _) (jaU (by omega))
  refine fin ?_
  unfold jFn
  rw [w1, w2]
  refine jai (decide_eq_true (by omega)) ?_
  rw [jan]
  rw [List.drop_length] at e2
  have e3 : List.replicate (l.length + 1) (0 : Int) = List.replicate l.length 0 ++ jbb (FL sp) [] := by rw [List.replicate_succ']; rfl
  rw [e3]
  refine Eq.trans e2 ?_
  exact jai (decide_eq_true (by omega)) rfl
end Go.AMach

/- Layer 24: the reference's rounds. -/
namespace Go.AMach
set_option linter.unusedVariables false
set_option linter.unusedSimpArgs false
set_option linter.unnecessarySimpa false
open Go
set_option linter.unusedVariables false

def jbm (l : List jao) (k id v : Int) : List jao := match jbg l k id with
  | some j => l.set j ((rdd jaz l j).1, ((rdd jaz l j).2.1, (v, ())))
  | none => l
theorem jfW (l : List jao) (k id v : Int) : (jbm l k id v).length = l.length := by
  unfold jbm; split <;> simp
theorem jvo : ∀ (l : List jao) (j : Nat) (v : Int) (k id : Int), j < l.length → jbg (l.set j ((rdd jaz l j).1, ((rdd jaz l j).2.1, (v, ())))) k id = jbg l k id
  | [], _, _, _, _, h => by simp at h
  | x :: r, 0, v, k, id, _ => rfl
  | x :: r, j + 1, v, k, id, h => by
    have hj : j < r.length := by simpa using h
    have e : rdd jaz (x :: r) (j + 1) = rdd jaz r j := by rw [jbz hj, jbz h]; rfl
    rw [e]
    show jbg (x :: r.set j _) k id = _
    unfold jbg
    rw [jvo r j v k id hj]
theorem jdd (l : List jao) (k id v k2 id2 : Int) : jbg (jbm l k id v) k2 id2 = jbg l k2 id2 := by
  unfold jbm
  cases h : jbg l k id with
  | none => rfl
  | some j => exact jvo l j v k2 id2 (jcO h).1
theorem jzN {l : List jao} (h : SpOk l) (k id : Int) {v : Int} (hv : InR v) : SpOk (jbm l k id v) := by
  unfold jbm
  cases hf : jbg l k id with
  | none => exact h
  | some j =>
    intro x hx
    rcases List.mem_or_eq_of_mem_set hx with hx | hx
    · exact h x hx
    · rw [hx]; exact hv
theorem jGP (kt : List jao → Option Res) {was : List jao} (hw : was.length < 9223372036854775807) (hws : SpOk was) {c : jaa} (hc : Cfg c) : ∀ (m k : Nat) (o : List jao), k ≤ (cT c).length → k < m → o.length < 9223372036854775807 → (∀ t ∈ cT c, (jbg o 1 t.1).isSome = true) →
    jjt FUEL kt o.length was.length c was m ((k : Int) - 1) o = kt (((cT c).take k).foldr (fun t o => jbm o 1 t.1 (tabR was c t)) o)
  | 0, _, _, _, h, _, _ => by omega
  | m + 1, k, o, hk, hm, ho, hf => by
    show jsZ FUEL kt o.length was.length c was (jjt FUEL kt o.length was.length c was m) ((k : Int) - 1) o = _
    unfold jsZ
    cases k with
    | zero =>
      refine jaq (decide_eq_false (by omega)) ?_
      rfl
    | succ j =>
      have hj : j < (cT c).length := by omega
      have hlc := hc.t
      have ej : ((j + 1 : Nat) : Int) - 1 = (j : Int) := by omega
      have w2 : IntKind.wrap .i64 ((j : Int) - 1) = (j : Int) - 1 := jbA (by omega)
      have hmem : rdd jaD (cT c) j ∈ cT c := jbn hj
      have hs := hf _ hmem
      cases hfo : jbg o 1 (rdd jaD (cT c) j).1 with
      | none => rw [hfo] at hs; cases hs
      | some p =>
        have hp := (jcO hfo).1
        have e1 := jjq o ho 1 (rdd jaD (cT c) j).1
        have ei : jcl o 1 (rdd jaD (cT c) j).1 = (p : Int) := by unfold jcl; rw [hfo]
        rw [ei] at e1
        have e2 := jEU hw hws hc.e (rdd jaD (cT c) j)
        rw [ej]
        refine jai (decide_eq_true (by omega)) ?_
        refine jai (decide_eq_true (by show (0 : Int) ≤ (j : Int) ∧ (j : Int) < ((cT c).length : Int); omega)) ?_
        rw [jan, jby, jby, w2]
        extract_lets -merge +onlyGivenNames y2
        have e_y : y2 = _ := (congrArg RS.get e1).trans (jaw _)
        clear_value y2; subst e_y
        refine jaL e1 ?_
        refine jai (decide_eq_true (by show (0 : Int) ≤ (j : Int) ∧ (j : Int) < ((cT c).length : Int); omega)) ?_
        extract_lets -merge +onlyGivenNames y3
        have e_y : y3 = _ := (congrArg RS.get e2).trans (jaw _)
        clear_value y3; subst e_y
        refine jaL e2 ?_
        refine jai (decide_eq_true (by show (0 : Int) ≤ (p : Int) ∧ (p : Int) < (o.length : Int); omega)) ?_
        have es : List.set o p ((rdd jaz o p).1, ((rdd jaz o p).2.1, (tabR was c (rdd jaD (cT c) j), ()))) = jbm o 1 (rdd jaD (cT c) j).1 (tabR was c (rdd jaD (cT c) j)) := by unfold jbm; rw [hfo]
        show jjt FUEL kt o.length was.length c was m ((j : Int) - 1) (List.set o (Int.toNat (p : Int)) ((rdd jaz o (Int.toNat (p : Int))).1, ((rdd jaz o (Int.toNat (p : Int))).2.1, (tabR was c (rdd jaD (cT c) j), ())))) = _
        rw [jan, es]
        have hlen := jfW o 1 (rdd jaD (cT c) j).1 (tabR was c (rdd jaD (cT c) j))
        have ih := jGP kt hw hws hc m j (jbm o 1 (rdd jaD (cT c) j).1 (tabR was c (rdd jaD (cT c) j))) (by omega) (by omega) (by omega) (fun t ht => by rw [jdd]; exact hf t ht)
        rw [hlen] at ih
        rw [ih, jmf jaD hj, List.foldr_append]
        rfl
theorem jGO (kt : List jao → Option Res) {was : List jao} (hw : was.length < 9223372036854775807) (hws : SpOk was) {c : jaa} (hc : Cfg c) : ∀ (m k : Nat) (o : List jao), k ≤ (cB c).length → k < m → o.length < 9223372036854775807 → (∀ t ∈ cB c, (jbg o 2 t.1).isSome = true) →
    jjs FUEL kt o.length was.length c was m ((k : Int) - 1) o = kt (((cB c).take k).foldr (fun t o => jbm o 2 t.1 (rdd 0 (jbb (FL was) t.2.1) 0)) o)
  | 0, _, _, _, h, _, _ => by omega
  | m + 1, k, o, hk, hm, ho, hf => by
    show jsY FUEL kt o.length was.length c was (jjs FUEL kt o.length was.length c was m) ((k : Int) - 1) o = _
    unfold jsY
    cases k with
    | zero =>
      refine jaq (decide_eq_false (by omega)) ?_
      rfl
    | succ j =>
      have hj : j < (cB c).length := by omega
      have hlc := hc.b
      have ej : ((j + 1 : Nat) : Int) - 1 = (j : Int) := by omega
      have w2 : IntKind.wrap .i64 ((j : Int) - 1) = (j : Int) - 1 := jbA (by omega)
      have hmem : rdd jap (cB c) j ∈ cB c := jbn hj
      have hs := hf _ hmem
      cases hfo : jbg o 2 (rdd jap (cB c) j).1 with
      | none => rw [hfo] at hs; cases hs
      | some p =>
        have hp := (jcO hfo).1
        have e1 := jjq o ho 2 (rdd jap (cB c) j).1
        have ei : jcl o 2 (rdd jap (cB c) j).1 = (p : Int) := by unfold jcl; rw [hfo]
        rw [ei] at e1
        have e2 := jEY hw hws (rdd jap (cB c) j).2.1 (hc.code _ hmem)
        rw [ej]
        refine jai (decide_eq_true (by omega)) ?_
        refine jai (decide_eq_true (by show (0 : Int) ≤ (j : Int) ∧ (j : Int) < ((cB c).length : Int); omega)) ?_
        rw [jan, jby, jby, w2]
        extract_lets -merge +onlyGivenNames y2
        have e_y : y2 = _ := (congrArg RS.get e1).trans (jaw _)
        clear_value y2; subst e_y
        refine jaL e1 ?_
        refine jai (decide_eq_true (by show (0 : Int) ≤ (j : Int) ∧ (j : Int) < ((cB c).length : Int); omega)) ?_
        extract_lets -merge +onlyGivenNames y3
        have e_y : y3 = _ := (congrArg RS.get e2).trans (jaw _)
        clear_value y3; subst e_y
        refine jaL e2 ?_
        refine jai (decide_eq_true (by show (0 : Int) ≤ (p : Int) ∧ (p : Int) < (o.length : Int); omega)) ?_
        have es : List.set o p ((rdd jaz o p).1, ((rdd jaz o p).2.1, (rdd 0 (jbb (FL was) (rdd jap (cB c) j).2.1) 0, ()))) = jbm o 2 (rdd jap (cB c) j).1 (rdd 0 (jbb (FL was) (rdd jap (cB c) j).2.1) 0) := by unfold jbm; rw [hfo]
        show jjs FUEL kt o.length was.length c was m ((j : Int) - 1) (List.set o (Int.toNat (p : Int)) ((rdd jaz o (Int.toNat (p : Int))).1, ((rdd jaz o (Int.toNat (p : Int))).2.1, (rdd 0 (jbb (FL was) (rdd jap (cB c) j).2.1) 0, ())))) = _
        rw [jan, es]
        have hlen := jfW o 2 (rdd jap (cB c) j).1 (rdd 0 (jbb (FL was) (rdd jap (cB c) j).2.1) 0)
        have ih := jGO kt hw hws hc m j (jbm o 2 (rdd jap (cB c) j).1 (rdd 0 (jbb (FL was) (rdd jap (cB c) j).2.1) 0)) (by omega) (by omega) (by omega) (fun t ht => by rw [jdd]; exact hf t ht)
        rw [hlen] at ih
        rw [ih, jmf jap hj, List.foldr_append]
        rfl
theorem jGN (kt : List jao → Option Res) {was : List jao} (hw : was.length < 9223372036854775807) (hws : SpOk was) {c : jaa} (hc : Cfg c) : ∀ (m k : Nat) (o : List jao), k ≤ (cG c).length → k < m → o.length < 9223372036854775807 → (∀ t ∈ cG c, (jbg o 3 t.1).isSome = true) →
    jgU FUEL kt o.length was.length c was m ((k : Int) - 1) o = kt (((cG c).take k).foldr (fun t o => jbm o 3 t.1 (jcP (FL was) t.2.1 t.2.2.2.1)) o)
  | 0, _, _, _, h, _, _ => by omega
  | m + 1, k, o, hk, hm, ho, hf => by
    show jsX FUEL kt o.length was.length c was (jgU FUEL kt o.length was.length c was m) ((k : Int) - 1) o = _
    unfold jsX
    cases k with
    | zero =>
      refine jaq (decide_eq_false (by omega)) ?_
      rfl
    | succ j =>
      have hj : j < (cG c).length := by omega
      have hlc := hc.g
      have ej : ((j + 1 : Nat) : Int) - 1 = (j : Int) := by omega
      have w2 : IntKind.wrap .i64 ((j : Int) - 1) = (j : Int) - 1 := jbA (by omega)
      have hmem : rdd jak (cG c) j ∈ cG c := jbn hj
      have hs := hf _ hmem
      cases hfo : jbg o 3 (rdd jak (cG c) j).1 with
      | none => rw [hfo] at hs; cases hs
      | some p =>
        have hp := (jcO hfo).1
        have e1 := jjq o ho 3 (rdd jak (cG c) j).1
        have ei : jcl o 3 (rdd jak (cG c) j).1 = (p : Int) := by unfold jcl; rw [hfo]
        rw [ei] at e1
        have e2 := jEX hw hws (rdd jak (cG c) j) (hc.buck _ hmem)
        rw [ej]
        refine jai (decide_eq_true (by omega)) ?_
        refine jai (decide_eq_true (by show (0 : Int) ≤ (j : Int) ∧ (j : Int) < ((cG c).length : Int); omega)) ?_
        rw [jan, jby, jby, w2]
        extract_lets -merge +onlyGivenNames y2
        have e_y : y2 = _ := (congrArg RS.get e1).trans (jaw _)
        clear_value y2; subst e_y
        refine jaL e1 ?_
        refine jai (decide_eq_true (by show (0 : Int) ≤ (j : Int) ∧ (j : Int) < ((cG c).length : Int); omega)) ?_
        extract_lets -merge +onlyGivenNames y3
        have e_y : y3 = _ := (congrArg RS.get e2).trans (jaw _)
        clear_value y3; subst e_y
        refine jaL e2 ?_
        refine jai (decide_eq_true (by show (0 : Int) ≤ (p : Int) ∧ (p : Int) < (o.length : Int); omega)) ?_
        have es : List.set o p ((rdd jaz o p).1, ((rdd jaz o p).2.1, (jcP (FL was) (rdd jak (cG c) j).2.1 (rdd jak (cG c) j).2.2.2.1, ()))) = jbm o 3 (rdd jak (cG c) j).1 (jcP (FL was) (rdd jak (cG c) j).2.1 (rdd jak (cG c) j).2.2.2.1) := by unfold jbm; rw [hfo]
        show jgU FUEL kt o.length was.length c was m ((j : Int) - 1) (List.set o (Int.toNat (p : Int)) ((rdd jaz o (Int.toNat (p : Int))).1, ((rdd jaz o (Int.toNat (p : Int))).2.1, (jcP (FL was) (rdd jak (cG c) j).2.1 (rdd jak (cG c) j).2.2.2.1, ())))) = _
        rw [jan, es]
        have hlen := jfW o 3 (rdd jak (cG c) j).1 (jcP (FL was) (rdd jak (cG c) j).2.1 (rdd jak (cG c) j).2.2.2.1)
        have ih := jGN kt hw hws hc m j (jbm o 3 (rdd jak (cG c) j).1 (jcP (FL was) (rdd jak (cG c) j).2.1 (rdd jak (cG c) j).2.2.2.1)) (by omega) (by omega) (by omega) (fun t ht => by rw [jdd]; exact hf t ht)
        rw [hlen] at ih
        rw [ih, jmf jak hj, List.foldr_append]
        rfl
end Go.AMach

/- Layer 24: the reference's rounds: what they come to. -/
namespace Go.AMach
set_option linter.unusedVariables false
set_option linter.unusedSimpArgs false
set_option linter.unnecessarySimpa false
open Go
set_option linter.unusedVariables false

def putT (c : jaa) (was o : List jao) : List jao := (cT c).foldr (fun t o => jbm o 1 t.1 (tabR was c t)) o
def putB (c : jaa) (was o : List jao) : List jao := (cB c).foldr (fun t o => jbm o 2 t.1 (rdd 0 (jbb (FL was) t.2.1) 0)) o
def putG (c : jaa) (was o : List jao) : List jao := (cG c).foldr (fun t o => jbm o 3 t.1 (jcP (FL was) t.2.1 t.2.2.2.1)) o
def jeT (c : jaa) (l : List jao) : List jao := putG c l (putB c l (putT c l l))
theorem jhj {α : Type} (K : Int) (f : α → Int) (v : α → Int) (o : List jao) : ∀ L : List α, (L.foldr (fun t o => jbm o K (f t) (v t)) o).length = o.length
  | [] => rfl
  | x :: r => by rw [List.foldr_cons, jfW]; exact jhj K f v o r
theorem jcM {α : Type} (K : Int) (f : α → Int) (v : α → Int) (o : List jao) (k id : Int) : ∀ L : List α, jbg (L.foldr (fun t o => jbm o K (f t) (v t)) o) k id = jbg o k id
  | [] => rfl
  | x :: r => by rw [List.foldr_cons, jdd]; exact jcM K f v o k id r
theorem jrp {α : Type} (K : Int) (f : α → Int) (v : α → Int) {o : List jao} (h : SpOk o) : ∀ L : List α, (∀ x ∈ L, InR (v x)) → SpOk (L.foldr (fun t o => jbm o K (f t) (v t)) o)
  | [], _ => h
  | x :: r, hv => jzN (jrp K f v h r fun y hy => hv y (List.mem_cons_of_mem _ hy)) K (f x) (hv x List.mem_cons_self)
structure Has (c : jaa) (l : List jao) : Prop where
  t : ∀ t ∈ cT c, (jbg l 1 t.1).isSome = true
  b : ∀ t ∈ cB c, (jbg l 2 t.1).isSome = true
  g : ∀ t ∈ cG c, (jbg l 3 t.1).isSome = true
theorem jCK {l : List jao} (h : SpOk l) (y : ObjS) : InR (FL l y) := jdc h _ _
theorem tabR_in {l : List jao} (h : SpOk l) (c : jaa) (t : jbl) : InR (tabR l c t) := by
  unfold tabR
  refine jfs ?_
  have hin : InR (((cE c).filter fun x => decide (x.1 = t.1)).foldl (fun n x => mx n (FL l (1, (eB x, ())))) (FL l (1, (tM t, ())))) := by
    have : ∀ (q : List jgm) (n : Int), InR n → InR (q.foldl (fun n x => mx n (FL l (1, (eB x, ())))) n) := by
      intro q
      induction q with
      | nil => intro n h; exact h
      | cons x r ih => intro n hn; exact ih _ (jre hn (jdc h _ _))
    exact this _ _ (jdc h _ _)
  have := hin.1; omega
theorem jtM (c : jaa) (l : List jao) : (jeT c l).length = l.length := by
  unfold jeT putG putB putT
  rw [jhj 3 (fun t : jal => t.1), jhj 2 (fun t : jbB => t.1), jhj 1 (fun t : jbl => t.1)]
theorem jky (c : jaa) (l : List jao) (k id : Int) : jbg (jeT c l) k id = jbg l k id := by
  unfold jeT putG putB putT
  rw [jcM 3 (fun t : jal => t.1), jcM 2 (fun t : jbB => t.1), jcM 1 (fun t : jbl => t.1)]
theorem jyo {c : jaa} {l : List jao} (h : SpOk l) : SpOk (jeT c l) := by
  unfold jeT putG putB putT
  refine jrp 3 (fun t : jal => t.1) _ (jrp 2 (fun t : jbB => t.1) _ (jrp 1 (fun t : jbl => t.1) _ h _ ?_) _ ?_) _ ?_
  · intro t _; exact tabR_in h c t
  · intro t _; exact jfB (jcZ (jCK h) _) 0
  · intro t _; exact jrq (jCK h) _ _
theorem Has.round {c : jaa} {l : List jao} (h : Has c l) : Has c (jeT c l) :=
  ⟨fun t ht => by rw [jky]; exact h.t t ht, fun t ht => by rw [jky]; exact h.b t ht, fun t ht => by rw [jky]; exact h.g t ht⟩

def jmd (c : jaa) : Nat → List jao → List jao
  | 0, l => l
  | n + 1, l => jmd c n (jeT c l)
theorem jGQ (kt : List jao → Option Res) {c : jaa} (hc : Cfg c) (n : Nat) (hn : n ≤ 3000) : ∀ (m i : Nat) (l : List jao), i ≤ n + 1 → n + 1 - i < m → l.length = n → SpOk l → Has c l →
    jgV FUEL kt n c m (i : Int) l = kt (jmd c (n + 1 - i) l)
  | 0, _, _, _, h, _, _, _ => by omega
  | m + 1, i, l, hi, hm, hl, hs, hh => by
    have t1 := hc.t; have t2 := hc.b; have t3 := hc.g
    show jta FUEL kt n c (jgV FUEL kt n c m) (i : Int) l = _
    unfold jta
    by_cases h : i ≤ n
    · have e : n + 1 - i = (n + 1 - (i + 1)) + 1 := by omega
      have wt : IntKind.wrap .i64 (((cT c).length : Int) - 1) = ((cT c).length : Int) - 1 := jbA (by omega)
      have wb : IntKind.wrap .i64 (((cB c).length : Int) - 1) = ((cB c).length : Int) - 1 := jbA (by omega)
      have wg : IntKind.wrap .i64 (((cG c).length : Int) - 1) = ((cG c).length : Int) - 1 := jbA (by omega)
      have ih := jGQ kt hc n hn m (i + 1) (jeT c l) (by omega) (by omega) (by rw [jtM]; exact hl) (jyo hs) hh.round
      rw [e]
      refine jai (decide_eq_true (by omega)) ?_
      subst hl
      rw [jby, Nat.zero_add]
      refine jai (decide_eq_true (by omega)) ?_
      rw [wt, wb, wg, jaA (by omega)]
      refine Eq.trans (jGP _ (by omega) hs hc FUEL (cT c).length l (Nat.le_refl _) (jaU (by omega)) (by omega) hh.t) ?_
      rw [List.take_length]
      have l1 : (putT c l l).length = l.length := jhj 1 (fun t : jbl => t.1) _ l (cT c)
      have f1 : ∀ k id, jbg (putT c l l) k id = jbg l k id := fun k id => jcM 1 (fun t : jbl => t.1) _ l k id (cT c)
      have a2 := jGO (fun y7 => jgU FUEL (fun y10 => jgV FUEL kt l.length c m ((i + 1 : Nat) : Int) y10) l.length l.length c l FUEL (((cG c).length : Int) - 1) y7) (was := l) (by omega) hs hc FUEL (cB c).length (putT c l l) (Nat.le_refl _) (jaU (by omega)) (by omega) (fun t ht => by rw [f1]; exact hh.b t ht)
      rw [l1, List.take_length] at a2
      refine Eq.trans a2 ?_
      have l2 : (putB c l (putT c l l)).length = l.length := (jhj 2 (fun t : jbB => t.1) _ _ (cB c)).trans l1
      have f2 : ∀ k id, jbg (putB c l (putT c l l)) k id = jbg l k id := fun k id => (jcM 2 (fun t : jbB => t.1) _ _ k id (cB c)).trans (f1 k id)
      have a3 := jGN (fun y10 => jgV FUEL kt l.length c m ((i + 1 : Nat) : Int) y10) (was := l) (by omega) hs hc FUEL (cG c).length (putB c l (putT c l l)) (Nat.le_refl _) (jaU (by omega)) (by omega) (fun t ht => by rw [f2]; exact hh.g t ht)
      rw [l2, List.take_length] at a3
      exact Eq.trans a3 ih
    · refine jaq (decide_eq_false (by omega)) ?_
      rw [show n + 1 - i = 0 by omega]
      rfl
end Go.AMach

/- Layer 24: the reference's rounds come to the height. -/
namespace Go.AMach
set_option linter.unusedVariables false
set_option linter.unusedSimpArgs false
set_option linter.unnecessarySimpa false
open Go
set_option linter.unusedVariables false

theorem jhB : ∀ (l q : List jao) (k id : Int), (jbg l k id).isSome = true → (jbg (l ++ q) k id).isSome = true
  | [], _, _, _, h => by cases h
  | x :: r, q, k, id, h => by
    show (jbg (x :: (r ++ q)) k id).isSome = true
    unfold jbg at h ⊢
    by_cases c : x.1 = k ∧ x.2.1 = id
    · rw [if_pos c]; rfl
    · rw [if_neg c] at h ⊢
      rw [Option.isSome_map] at h ⊢
      exact jhB r q k id h
theorem jhC : ∀ (l : List jao) (k id v : Int), (jbg (l ++ [(k, (id, (v, ())))]) k id).isSome = true
  | [], k, id, v => by simp [jbg]
  | x :: r, k, id, v => by
    show (jbg (x :: (r ++ [(k, (id, (v, ())))])) k id).isSome = true
    unfold jbg
    by_cases c : x.1 = k ∧ x.2.1 = id
    · rw [if_pos c]; rfl
    · rw [if_neg c, Option.isSome_map]
      exact jhC r k id v
theorem jCi (K : Int) (l : List jao) (a k id : Int) (h : (jbg l k id).isSome = true) : (jbg (addT K l a) k id).isSome = true := by
  unfold addT; split
  · exact h
  · exact jhB _ _ _ _ h
theorem jCj (K : Int) (l : List jao) (a : Int) : (jbg (addT K l a) K a).isSome = true := by
  unfold addT
  cases h : jbg l K a with
  | some j => show (jbg l K a).isSome = true; rw [h]; rfl
  | none => exact jhC l K a 0
theorem jgM {α : Type} (K : Int) (f : α → Int) : ∀ (L : List α) (o : List jao) (k id : Int), (jbg o k id).isSome = true → (jbg (L.foldl (fun o t => addT K o (f t)) o) k id).isSome = true
  | [], o, k, id, h => h
  | x :: r, o, k, id, h => jgM K f r _ k id (jCi K o (f x) k id h)
theorem jka {α : Type} (K : Int) (f : α → Int) : ∀ (L : List α) (o : List jao), ∀ t ∈ L, (jbg (L.foldl (fun o t => addT K o (f t)) o) K (f t)).isSome = true
  | [], _, _, h => by cases h
  | x :: r, o, t, h => by
    rcases List.mem_cons.1 h with rfl | h
    · exact jgM K f r _ K (f t) (jCj K o (f t))
    · exact jka K f r _ t h
theorem jkk (c : jaa) : Has c (jbC c) := by
  unfold jbC
  exact ⟨fun t ht => jgM 3 (fun t : jal => t.1) _ _ _ _ (jgM 2 (fun t : jbB => t.1) _ _ _ _ (jka 1 (fun t : jbl => t.1) _ [] t ht)),
    fun t ht => jgM 3 (fun t : jal => t.1) _ _ _ _ (jka 2 (fun t : jbB => t.1) _ _ t ht),
    fun t ht => jka 3 (fun t : jal => t.1) _ _ t ht⟩
/-- All steps are 0. -/
def Zero (l : List jao) : Prop := ∀ x ∈ l, x.2.2.1 = 0
theorem jCh {K : Int} {l : List jao} (h : Zero l) (a : Int) : Zero (addT K l a) := by
  unfold addT; split
  · exact h
  · intro x hx
    rcases List.mem_append.1 hx with hx | hx
    · exact h x hx
    · rw [List.mem_singleton.1 hx]
theorem jjZ {α : Type} (K : Int) (f : α → Int) : ∀ (L : List α) (o : List jao), Zero o → Zero (L.foldl (fun o t => addT K o (f t)) o)
  | [], _, h => h
  | x :: r, o, h => jjZ K f r _ (jCh h (f x))
theorem jhN (c : jaa) : Zero (jbC c) := by
  unfold jbC
  exact jjZ 3 (fun t : jal => t.1) _ _ (jjZ 2 (fun t : jbB => t.1) _ _ (jjZ 1 (fun t : jbl => t.1) _ [] (fun x h => by cases h)))
theorem Zero.ok {l : List jao} (h : Zero l) : SpOk l := fun x hx => by rw [h x hx]; exact ⟨by omega, by omega⟩
def allR (c : jaa) : List jao := jmd c ((jbC c).length + 1) (jbC c)
theorem jyF (c : jaa) : ∀ (n : Nat) (l : List jao), (jmd c n l).length = l.length
  | 0, _ => rfl
  | n + 1, l => by show (jmd c n (jeT c l)).length = _; rw [jyF c n, jtM]
theorem Q_All {c : jaa} (h : Cfg c) : jEt c = some (((jbC c).length, ()), (allR c, ())) := by
  have e := jzo h
  have hl := jkj h
  refine fin ?_
  unfold jFl
  extract_lets -merge +onlyGivenNames y1
  have e_y : y1 = _ := (congrArg RS.get e).trans (jaw _)
  clear_value y1; subst e_y
  refine jaL e ?_
  refine Eq.trans (jGQ _ h (jbC c).length hl FUEL 0 (jbC c) (by omega) (jaU (by omega)) rfl (jhN c).ok (jkk c)) ?_
  rfl

/-! ### A round is a step of the height -/
theorem jAC {l : List jao} {K a v : Int} (h : (jbg l K a).isSome = true) (k id : Int) : jbE (jbm l K a v) k id = if k = K ∧ id = a then v else jbE l k id := by
  unfold jbE
  rw [jdd]
  cases hf : jbg l K a with
  | none => rw [hf] at h; cases h
  | some p =>
    have hp := jcO hf
    have es : jbm l K a v = l.set p ((rdd jaz l p).1, ((rdd jaz l p).2.1, (v, ()))) := by unfold jbm; rw [hf]
    by_cases c : k = K ∧ id = a
    · rw [if_pos c, c.1, c.2, hf]
      show (rdd jaz (jbm l K a v) p).2.2.1 = v
      rw [es, jbz (l := l.set p _) (by rw [List.length_set]; exact hp.1)]
      simp
    · rw [if_neg c]
      cases hf2 : jbg l k id with
      | none => rfl
      | some p2 =>
        have hp2 := jcO hf2
        show (rdd jaz (jbm l K a v) p2).2.2.1 = (rdd jaz l p2).2.2.1
        have hne : p ≠ p2 := fun e => c ⟨by rw [← hp2.2.1, ← e]; exact hp.2.1, by rw [← hp2.2.2, ← e]; exact hp.2.2⟩
        have hlt := hp2.1
        rw [es, jbz (l := l.set p _) (by rw [List.length_set]; exact hlt), List.getElem_set_ne hne, jbz hlt]
theorem jhb {α : Type} (K : Int) (f : α → Int) (v : α → Int) {o : List jao} (k id : Int) : ∀ L : List α, (∀ t ∈ L, (jbg o K (f t)).isSome = true) →
    jbE (L.foldr (fun t o => jbm o K (f t) (v t)) o) k id = if k = K then ((L.find? (fun t => decide (f t = id))).elim (jbE o k id) v) else jbE o k id
  | [], _ => by split <;> rfl
  | x :: r, h => by
    rw [List.foldr_cons, jAC (by rw [jcM]; exact h x List.mem_cons_self), jhb K f v k id r fun t ht => h t (List.mem_cons_of_mem _ ht)]
    by_cases c : k = K
    · rw [if_pos c, if_pos c, List.find?_cons]
      by_cases e : f x = id
      · rw [if_pos ⟨c, e.symm⟩, decide_eq_true e]; rfl
      · rw [if_neg (fun q => e q.2.symm), decide_eq_false e]
    · rw [if_neg (fun q => c q.1), if_neg c, if_neg c]
end Go.AMach
