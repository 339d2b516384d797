/- Layer 16: WalkSteps. -/
import Derived.Test.YtcakaagbhngkhaaPj
namespace Go.AMach
set_option linter.unusedVariables false
set_option linter.unusedSimpArgs false
set_option linter.unnecessarySimpa false
open Go
set_option linter.unusedVariables false

theorem mayL_of {l : List NodeS} (hm : mayP l) {k : Int} {x : NodeS} (hf : findP l k = some x) : mayL x := by
  have := (formsOk_mem hm.1 x (findP_some hf).1).1.1
  unfold formL at this
  unfold mayL
  obtain ⟨_, _, a, b, _, _, _, c, _⟩ := this
  refine ⟨⟨a, b⟩, ?_, ?_, ?_⟩
  · omega
  · omega
  · split <;> omega

theorem sizeV_why {x : NodeS} (hm : mayL x) (s : ByteArray) (at_ : Int) : (sizeV x s at_).2 = 0 ∨ (sizeV x s at_).2 = 1 ∨ (sizeV x s at_).2 = 2 := by
  have go : ∀ sz, (finV s at_ sz).2 = 0 ∨ (finV s at_ sz).2 = 1 ∨ (finV s at_ sz).2 = 2 := fun sz => by
    unfold finV
    repeat' split
    all_goals simp
  unfold sizeV
  rw [if_neg (fun h => h hm)]
  split
  · split
    · simp
    · exact go _
  · exact go _
theorem nextV_why (l : List NodeS) (x : NodeS) (s : ByteArray) (at_ : Int) : (nextV l x s at_).2 = 0 ∨ (nextV l x s at_).2 = 1 ∨ (nextV l x s at_).2 = 4 := by
  have go : ∀ v, (goV l x v).2 = 0 ∨ (goV l x v).2 = 1 ∨ (goV l x v).2 = 4 := fun v => by
    unfold goV
    split <;> simp
  unfold nextV
  split
  · split
    · simp
    · exact go _
  · exact go _

theorem W_law {l : List NodeS} (hl : Nodes l) (hm : mayP l) {h : Int → Int} (H : Hgt l h) (s : ByteArray) : ∀ (f : Nat) (at_ : Int) (x : NodeS), findP l x.1 = some x → (h x.1).toNat ≤ f →
    ((W l s f at_ x).1.length : Int) ≤ (W l s f at_ x).2.1 ∧ (W l s f at_ x).2.1 ≤ ((W l s f at_ x).1.length : Int) + 1 ∧ ((W l s f at_ x).2.1 > ((W l s f at_ x).1.length : Int) → (W l s f at_ x).2.2 = 1 ∨ (W l s f at_ x).2.2 = 2) ∧
    ((W l s f at_ x).2.2 = 0 ∨ (W l s f at_ x).2.2 = 1 ∨ (W l s f at_ x).2.2 = 2 ∨ (W l s f at_ x).2.2 = 4) ∧ (W l s f at_ x).2.1 ≤ h x.1
  | 0, at_, x, hf, hh => by
    have := (H.pos x.1).2 (by rw [hf]; rfl)
    omega
  | f + 1, at_, x, hf, hh => by
    have hpos := (H.pos x.1).2 (by rw [hf]; rfl)
    simp only [W]
    have hz := sizeV_why (mayL_of hm hf) s at_
    by_cases hz0 : (sizeV x s at_).2 ≠ 0
    · rw [if_pos hz0]
      refine ⟨by simp, by simp, fun _ => ?_, ?_, by simp; omega⟩
      · show (sizeV x s at_).2 = 1 ∨ (sizeV x s at_).2 = 2
        omega
      · show (sizeV x s at_).2 = 0 ∨ (sizeV x s at_).2 = 1 ∨ (sizeV x s at_).2 = 2 ∨ (sizeV x s at_).2 = 4
        omega
    rw [if_neg hz0]
    have hn := nextV_why l x s at_
    by_cases hn0 : (nextV l x s at_).2 ≠ 0
    · rw [if_pos hn0]
      refine ⟨by simp, by simp, fun h => by simp at h, ?_, by simp; omega⟩
      show (nextV l x s at_).2 = 0 ∨ (nextV l x s at_).2 = 1 ∨ (nextV l x s at_).2 = 2 ∨ (nextV l x s at_).2 = 4
      omega
    rw [if_neg hn0]
    cases hfy : findP l (nextV l x s at_).1 with
    | none => exact ⟨by simp, by simp, fun h => by simp at h, .inl rfl, by simp; omega⟩
    | some y =>
      obtain ⟨_, hy⟩ := findP_some hfy
      have hlt := H.lt hf (nextV_mem hl hf s at_ (by simpa using hn0))
      rw [← hy] at hlt
      have hnn := H.nonneg y.1
      dsimp only
      obtain ⟨a1, a2, a3, a4, a5⟩ := W_law hl hm H s f (IntKind.wrap .i64 (at_ + (sizeV x s at_).1)) y (by rw [hy]; exact hfy) (by omega)
      generalize W l s f (IntKind.wrap .i64 (at_ + (sizeV x s at_).1)) y = r at a1 a2 a3 a4 a5 ⊢
      refine ⟨by simp; omega, by simp; omega, fun h => a3 ?_, a4, by omega⟩
      simp at h
      omega

theorem walkV_law {l : List NodeS} (hl : Nodes l) (s : ByteArray) :
    ((walkV l s).1.length : Int) ≤ (walkV l s).2.1 ∧ (walkV l s).2.1 ≤ ((walkV l s).1.length : Int) + 1 ∧ ((walkV l s).2.1 > ((walkV l s).1.length : Int) → (walkV l s).2.2 = 1 ∨ (walkV l s).2.2 = 2) ∧
    ((walkV l s).2.2 = 0 ∨ (walkV l s).2.2 = 1 ∨ (walkV l s).2.2 = 2 ∨ (walkV l s).2.2 = 4) ∧ ∃ n, Q_graph_Longest l = some ((n, ()), ()) ∧ (walkV l s).2.1 ≤ n := by
  by_cases hm : mayP l
  · obtain ⟨h, H⟩ := hm.2.2.2
    have hw : walkV l s = (match findP l 1 with | some x => W l s 64 0 x | none => ([], (0, 0))) := by unfold walkV; rw [if_pos hm]; rfl
    rw [hw]
    cases hf : findP l 1 with
    | none => exact ⟨by simp, by simp, fun h => by simp at h, .inl rfl, _, Q_Longest l hl hm H, H.nonneg 1⟩
    | some x =>
      obtain ⟨_, hx⟩ := findP_some hf
      have hle := Hgt.le hm.2.1 hl.arms H x.1
      have h32 := hm.2.1
      obtain ⟨a1, a2, a3, a4, a5⟩ := W_law hl hm H s 64 0 x (by rw [hx]; exact hf) (by omega)
      exact ⟨a1, a2, a3, a4, _, Q_Longest l hl hm H, by rw [hx] at a5; exact a5⟩
  · have hw : walkV l s = ([], (0, 0)) := by unfold walkV; rw [if_neg hm]
    rw [hw]
    exact ⟨by simp, by simp, fun h => by simp at h, .inl rfl, _, Q_Longest_no l hl hm, Int.le_refl _⟩

theorem Pure.WalkSteps (l : List NodeS) (h : (Ty.slice NodeT).good l) (s : ByteArray) (hs : Ty.str.good s) : Q_turnoutlaw16_WalkSteps l s = some ((true, ()), ()) := by
  refine fin ?_
  unfold M_turnoutlaw16_WalkSteps
  obtain ⟨b, hb, hb2⟩ := Q_large l (good_len h)
  simp only [ok_turnoutlaw16_large, q_turnoutlaw16_large, hb, ok_turnoutlaw16_awake, q_turnoutlaw16_awake, awake_ok, RS.get, Option.getD_some, Option.isSome_some, cond_true, Bool.not_true, cond_false]
  cases b with
  | true => rfl
  | false =>
  obtain ⟨_, ha⟩ := hb2 rfl
  have hl := nodes_of h ha
  simp only [cond_false, cond_dec]
  refine ite_eq (fun _ => rfl) fun c1 => ?_
  simp only [ok_walk_Walk, q_walk_Walk, Q_Walk l hl s (by omega), RS.get, Option.getD_some, Option.isSome_some, cond_true]
  obtain ⟨a1, a2, a3, a4, n, a5, a6⟩ := walkV_law hl s
  have hb := walkV_bound l s
  generalize walkV l s = A at a1 a2 a3 a4 a6 hb ⊢
  simp only [ok_graph_Longest, q_graph_Longest, a5, RS.get, Option.getD_some, Option.isSome_some, cond_true]
  rw [if_neg (by omega), IntWalk.i64_in _ (by omega), if_neg (by omega)]
  simp only [if_pos a6, int_bne]
  by_cases c2 : A.2.1 > (A.1.length : Int)
  · rw [if_pos c2]
    rcases a3 c2 with e | e <;> simp [e]
  · rw [if_neg c2]
    rcases a4 with e | e | e | e <;> simp [e]
end Go.AMach
