/- Layer 24: BoundTells. -/
import Derived.Test.YtfmjdojndbpkhaaPi
import Derived.KernelRfl
namespace Go.AMach
set_option linter.unusedVariables false
set_option linter.unusedSimpArgs false
set_option linter.unnecessarySimpa false
open Go
set_option linter.unusedVariables false

theorem jlP (a : Int) : (a != a) = false := by rw [jcs, decide_eq_true rfl]; rfl
theorem L_BT (kr : Bool → Option Res) (kt : Unit → Option Res) {c : jaa} (h : Cfg c) (l : List Int) : ∀ (m i : Nat), i ≤ 3 → 3 - i < m →
    jkV FUEL kr kt 3 ((3 : Nat) : Int) c l m (i : Int) = kt ()
  | 0, _, _, h => by omega
  | m + 1, i, hi, hm => by
    show jsJ FUEL kr kt 3 ((3 : Nat) : Int) c l (jkV FUEL kr kt 3 ((3 : Nat) : Int) c l m) (i : Int) = _
    unfold jsJ
    by_cases hlt : i < 3
    · refine jai (decide_eq_true (by omega)) ?_
      refine jai (decide_eq_true (by omega)) ?_
      rw [jan, jaA (by omega)]
      generalize rdd (0 : Int) l i = k
      have a1 := jxV h k; have b1 := jpI h k
      have a2 := jxY h k; have b2 := jAw h k
      have a3 := jxW h k; have b3 := jAv h k
      extract_lets -merge +onlyGivenNames y7
      have e_y : y7 = _ := (congrArg RS.get a1).trans (jaw _)
      clear_value y7; subst e_y
      refine jaL a1 ?_
      extract_lets -merge +onlyGivenNames y8
      have e_y : y8 = _ := (congrArg RS.get b1).trans (jaw _)
      clear_value y8; subst e_y
      refine jaL b1 ?_
      refine jaq (jlP _) ?_
      refine jaq (jlP _) ?_
      extract_lets -merge +onlyGivenNames y9
      have e_y : y9 = _ := (congrArg RS.get a2).trans (jaw _)
      clear_value y9; subst e_y
      refine jaL a2 ?_
      extract_lets -merge +onlyGivenNames y10
      have e_y : y10 = _ := (congrArg RS.get b2).trans (jaw _)
      clear_value y10; subst e_y
      refine jaL b2 ?_
      refine jaq (jlP _) ?_
      refine jaq (jlP _) ?_
      extract_lets -merge +onlyGivenNames y11
      have e_y : y11 = _ := (congrArg RS.get a3).trans (jaw _)
      clear_value y11; subst e_y
      refine jaL a3 ?_
      extract_lets -merge +onlyGivenNames y12
      have e_y : y12 = _ := (congrArg RS.get b3).trans (jaw _)
      clear_value y12; subst e_y
      refine jaL b3 ?_
      refine jaq (jlP _) ?_
      refine jaq (jlP _) ?_
      exact L_BT kr kt h l m (i + 1) (by omega) (by omega)
    · refine jaq (decide_eq_false (by omega)) ?_
      rfl
open Classical in
theorem Pure.BoundTells (c : jaa) (hg : jag.good c) (id : Int) (hid : (Ty.int .i64).good id) : jEh c id = some ((true, ()), ()) := by
  refine fin ?_
  unfold jFb
  have el := jxU (jwH hg)
  have ya : jma = ((true, ()), ()) := (congrArg RS.get jxQ).trans (jaw _)
  extract_lets -merge +onlyGivenNames y1
  have e_y : y1 = _ := (congrArg RS.get el).trans (jaw _)
  clear_value y1; subst e_y
  refine jaL el ?_
  cases hl : jgI c with
  | true =>
    refine jai rfl ?_
    rw [ya]
    exact jvy rfl
  | false =>
    refine jaq rfl ?_
    obtain ⟨hc, hn60, harm⟩ := jfE hl
    have hN : Nodes c.1 := ⟨by omega, fun x hx => Nat.lt_of_lt_of_le (harm x hx) (by decide), fun x hx => jvj (hg.1.2 x hx)⟩
    have a1 := Q_Of hc hN hN.arms; have b1 := Q_rOf hc hN
    have a2 := jxX hc; have b2 := jzp hc
    extract_lets -merge +onlyGivenNames y3
    have e_y : y3 = _ := (congrArg RS.get a1).trans (jaw _)
    clear_value y3; subst e_y
    refine jaL a1 ?_
    extract_lets -merge +onlyGivenNames y4
    have e_y : y4 = _ := (congrArg RS.get b1).trans (jaw _)
    clear_value y4; subst e_y
    refine jaL b1 ?_
    refine jaq (jlP _) ?_
    refine jaq (jlP _) ?_
    extract_lets -merge +onlyGivenNames y5
    have e_y : y5 = _ := (congrArg RS.get a2).trans (jaw _)
    clear_value y5; subst e_y
    refine jaL a2 ?_
    extract_lets -merge +onlyGivenNames y6
    have e_y : y6 = _ := (congrArg RS.get b2).trans (jaw _)
    clear_value y6; subst e_y
    refine jaL b2 ?_
    refine jaq (by show (!(decide (jcx c) == decide (jcx c))) = false; cases decide (jcx c) <;> rfl) ?_
    refine Eq.trans (L_BT _ _ hc _ FUEL 0 (by omega) (jaU (by omega))) ?_
    rw [ya]
    exact jvy rfl
end Go.AMach
