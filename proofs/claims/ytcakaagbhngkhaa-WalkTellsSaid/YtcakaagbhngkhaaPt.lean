/- Layer 16: WalkTells. -/
import Derived.Test.YtcakaagbhngkhaaPs
namespace Go.AMach
set_option linter.unusedVariables false
set_option linter.unusedSimpArgs false
set_option linter.unnecessarySimpa false
open Go
set_option linter.unusedVariables false

theorem L_over (kt : Unit → Option Res) (l : List NodeS) (s : ByteArray) (a2 : Nat) (a3 a4 a5 : Int) (N : Nat) (hN : N < 1000000) (b : List HeadS) : ∀ (m i : Nat) (now : List HeadS), i ≤ N → N - i < m →
    L_turnoutlaw16_WalkTells_2 FUEL kt l s a2 a3 a4 a5 N b m (i : Int) now = kt ()
  | 0, _, _, _, h => by omega
  | m + 1, i, now, hi, hm => by
    show F_turnoutlaw16_WalkTells_2 FUEL kt l s a2 a3 a4 a5 N b (L_turnoutlaw16_WalkTells_2 FUEL kt l s a2 a3 a4 a5 N b m) (i : Int) now = _
    unfold F_turnoutlaw16_WalkTells_2
    simp only [cond_dec, toNat_cast]
    by_cases h : i < N
    · rw [if_pos (by omega), if_pos (by omega), i64_succ (by omega)]
      exact L_over kt l s a2 a3 a4 a5 N hN b m (i + 1) _ (by omega) (by omega)
    · rw [if_neg (by omega)]

theorem L_rounds (kr : Bool → Option Res) (kt : Unit → Option Res) (l : List NodeS) (hl : Nodes l) (s : ByteArray) (hs : s.size ≤ 10000) : ∀ (m i : Nat), i ≤ 2 → 2 - i < m →
    L_turnoutlaw16_WalkTells_0 FUEL kr kt l s (walkV l s).1.length (walkV l s).2.1 (walkV l s).2.2 (walkV l s).1 m (i : Int) = kt ()
  | 0, _, _, h => by omega
  | m + 1, i, hi, hm => by
    show F_turnoutlaw16_WalkTells_0 FUEL kr kt l s (walkV l s).1.length (walkV l s).2.1 (walkV l s).2.2 (walkV l s).1 (L_turnoutlaw16_WalkTells_0 FUEL kr kt l s (walkV l s).1.length (walkV l s).2.1 (walkV l s).2.2 (walkV l s).1 m) (i : Int) = _
    unfold F_turnoutlaw16_WalkTells_0
    have hb := walkV_bound l s
    by_cases h : i < 2
    · simp only [ok_walk_Walk, q_walk_Walk, Q_Walk l hl s (by omega), RS.get, Option.getD_some, Option.isSome_some, cond_true, cutL_all, ok_turnoutref16_Heads, q_turnoutref16_Heads, Q_Heads _ (walkV l s).1 (show (walkV l s).1.length < 9223372036854775807 by omega), decide_true, Bool.not_true, cond_false, int_bne]
      rw [cond_dec, if_pos (by omega)]
      refine Eq.trans (L_over _ l s _ _ _ _ (walkV l s).1.length (by omega) _ FUEL 0 _ (by omega) (by unfold FUEL; omega)) ?_
      rw [i64_succ (by omega)]
      exact L_rounds kr kt l hl s hs m (i + 1) (by omega) (by omega)
    · rw [cond_dec, if_neg (by omega)]

theorem Pure.WalkTells (l : List NodeS) (h : (Ty.slice NodeT).good l) (s : ByteArray) (hs : Ty.str.good s) : Q_turnoutlaw16_WalkTells l s = some ((true, ()), ()) := by
  refine fin ?_
  unfold M_turnoutlaw16_WalkTells
  obtain ⟨b, hb, hb2⟩ := Q_large l (good_len h)
  simp only [ok_turnoutlaw16_large, q_turnoutlaw16_large, hb, ok_turnoutlaw16_awake, q_turnoutlaw16_awake, awake_ok, RS.get, Option.getD_some, Option.isSome_some, cond_true]
  cases b with
  | true => rfl
  | false =>
  obtain ⟨_, ha⟩ := hb2 rfl
  have hl := nodes_of h ha
  simp only [cond_false, cond_dec]
  refine ite_eq (fun _ => rfl) fun c1 => ?_
  simp only [ok_turnoutref16_Walk, q_turnoutref16_Walk, Q_rWalk l hl s (by omega), RS.get, Option.getD_some, Option.isSome_some, cond_true]
  exact L_rounds _ _ l hl s (by omega) FUEL 0 (by omega) (by unfold FUEL; omega)
end Go.AMach
