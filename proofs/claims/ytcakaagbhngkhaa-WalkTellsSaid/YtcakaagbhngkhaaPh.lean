/- Layer 16: the walk. -/
import Derived.Test.YtcakaagbhngkhaaPg
namespace Go.AMach
set_option linter.unusedVariables false
set_option linter.unusedSimpArgs false
set_option linter.unnecessarySimpa false
open Go
set_option linter.unusedVariables false

theorem mayP_sel {l : List NodeS} (hm : mayP l) {k : Int} {x : NodeS} (hf : findP l k = some x) : (0 ≤ x.2.2.2.2.2.1 ∧ x.2.2.2.2.2.1 ≤ 2048) ∧ x.2.2.2.2.2.2.1 ≤ 32 := by
  have := (formsOk_mem hm.1 x (findP_some hf).1).1.1
  unfold formL at this
  omega

/-- What is found behind a node that is come to: headers, steps, why. -/
noncomputable def W (l : List NodeS) (s : ByteArray) : Nat → Int → NodeS → List HeadS × (Int × Int)
  | 0, _, _ => ([], (0, 0))
  | f + 1, at_, x =>
    if (sizeV x s at_).2 ≠ 0 then ([], (1, (sizeV x s at_).2)) else
    if (nextV l x s at_).2 ≠ 0 then ([(x.1, (at_, ()))], (1, (nextV l x s at_).2)) else
    match findP l (nextV l x s at_).1 with
    | none => ([(x.1, (at_, ()))], (1, 0))
    | some y => ((x.1, (at_, ())) :: (W l s f (IntKind.wrap .i64 (at_ + (sizeV x s at_).1)) y).1, (1 + (W l s f (IntKind.wrap .i64 (at_ + (sizeV x s at_).1)) y).2.1, (W l s f (IntKind.wrap .i64 (at_ + (sizeV x s at_).1)) y).2.2))

theorem W_bound (l : List NodeS) (s : ByteArray) : ∀ (f : Nat) (at_ : Int) (x : NodeS), (W l s f at_ x).1.length ≤ f ∧ 0 ≤ (W l s f at_ x).2.1 ∧ (W l s f at_ x).2.1 ≤ f
  | 0, at_, x => by simp [W]
  | f + 1, at_, x => by
    simp only [W]
    split
    · simp; omega
    split
    · simp; omega
    split
    · simp; omega
    · rename_i y _
      have := W_bound l s f (IntKind.wrap .i64 (at_ + (sizeV x s at_).1)) y
      simp; omega
theorem W_pos (l : List NodeS) (s : ByteArray) (f : Nat) (at_ : Int) (x : NodeS) : 1 ≤ (W l s (f + 1) at_ x).2.1 := by
  simp only [W]
  split
  · simp
  split
  · simp
  split
  · simp
  · rename_i y _
    have := W_bound l s f (IntKind.wrap .i64 (at_ + (sizeV x s at_).1)) y
    simp; omega

theorem nextV_mem {l : List NodeS} (hl : Nodes l) {x : NodeS} (hf : findP l x.1 = some x) (s : ByteArray) (at_ : Int) (h : (nextV l x s at_).2 = 0) : (nextV l x s at_).1 ∈ goesP x := by
  have go : ∀ v, (goV l x v).2 = 0 → (goV l x v).1 ∈ goesP x := fun v => by
    unfold goV
    split
    · intro h; simp at h
    · intro _; exact (nextT_ok l hl hf v).1
  unfold nextV at h ⊢
  split
  · rename_i hw
    rw [if_pos hw] at h
    split
    · rename_i hv; rw [if_pos hv] at h; simp at h
    · rename_i hv; rw [if_neg hv] at h; exact go _ h
  · rename_i hw
    rw [if_neg hw] at h
    exact go _ h

theorem L_steps (k : Nat → Int → Int → List HeadS → Option Res) (l : List NodeS) (hl : Nodes l) (hm : mayP l) {h : Int → Int} (H : Hgt l h) (s : ByteArray) (hs : s.size < 1000000000) :
    ∀ (f m : Nat) (at_ cnt why : Int) (hd : List HeadS) (x : NodeS), findP l x.1 = some x → (h x.1).toNat ≤ f → f ≤ 64 → f < m → 0 ≤ cnt → cnt + f ≤ 100 → hd.length + f ≤ 100 →
    L_walk_steps_1_0 FUEL k k l s m at_ true hd.length cnt why hd x = k (hd ++ (W l s f at_ x).1).length (cnt + (W l s f at_ x).2.1) (W l s f at_ x).2.2 (hd ++ (W l s f at_ x).1)
  | 0, m, at_, cnt, why, hd, x, hf, hh, _, _, _, _, _ => by
    have := (H.pos x.1).2 (by rw [hf]; rfl)
    omega
  | f + 1, 0, at_, cnt, why, hd, x, hf, hh, _, hm', _, _, _ => by omega
  | f + 1, m + 1, at_, cnt, why, hd, x, hf, hh, h64, hm', h1, h2, h3 => by
    show F_walk_steps_1_0 FUEL k k l s (L_walk_steps_1_0 FUEL k k l s m) at_ true hd.length cnt why hd x = _
    unfold F_walk_steps_1_0
    have hsel := mayP_sel hm hf
    have hc : IntKind.wrap .i64 (cnt + 1) = cnt + 1 := IntWalk.i64_in _ (by omega)
    simp only [cond_true, ok_walk_Size, q_walk_Size, Q_Size x s at_ hs, ok_walk_next, q_walk_next, Q_next l hl hf s at_ hs hsel.1 hsel.2, RS.get, Option.getD_some, Option.isSome_some, cutL_all, hc, int_bne]
    simp only [W]
    by_cases hz : (sizeV x s at_).2 = 0
    · rw [if_neg (by simp [hz])]
      simp only [hz, decide_true, Bool.not_true, cond_false]
      have hroom : (decide ((hd.length + 1) * 16 ≤ 2 ^ 46 ∧ hd.length + 1 ≤ 2 ^ 46)) = true := by
        rw [decide_eq_true_eq]; omega
      rw [hroom, cond_true]
      by_cases hn : (nextV l x s at_).2 = 0
      · rw [if_neg (by simp [hn])]
        simp only [hn, decide_true, Bool.not_true, cond_false, ok_graph_Find, q_graph_Find, Q_Find l _ hl.len, RS.get, Option.getD_some, Option.isSome_some, cond_true]
        cases hfy : findP l (nextV l x s at_).1 with
        | none =>
          simp only [findV]
          cases m with
          | zero => omega
          | succ m =>
            show F_walk_steps_1_0 FUEL k k l s (L_walk_steps_1_0 FUEL k k l s m) _ false (hd.length + 1) (cnt + 1) 0 (hd ++ [(x.1, (at_, ()))]) zNodeS = _
            unfold F_walk_steps_1_0
            simp
        | some y =>
          simp only [findV]
          obtain ⟨_, hy⟩ := findP_some hfy
          have hlt := H.lt hf (nextV_mem hl hf s at_ hn)
          rw [← hy] at hlt
          have hnn := H.nonneg y.1
          have ih := L_steps k l hl hm H s hs f m (IntKind.wrap .i64 (at_ + (sizeV x s at_).1)) (cnt + 1) 0 (hd ++ [(x.1, (at_, ()))]) y (by rw [hy]; exact hfy) (by omega) (by omega) (by omega) (by omega) (by omega) (by simp; omega)
          rw [show (hd ++ [(x.1, (at_, ()))]).length = hd.length + 1 by simp] at ih
          rw [ih]
          simp only [List.append_assoc, List.singleton_append]
          rw [show cnt + 1 + (W l s f (IntKind.wrap .i64 (at_ + (sizeV x s at_).1)) y).2.1 = cnt + (1 + (W l s f (IntKind.wrap .i64 (at_ + (sizeV x s at_).1)) y).2.1) by omega]
      · rw [if_pos hn]
        simp [hn]
    · rw [if_pos hz]
      simp [hz]

noncomputable def walkV (l : List NodeS) (s : ByteArray) : List HeadS × (Int × Int) :=
  open Classical in if mayP l then (match findP l 1 with | some x => W l s 64 0 x | none => ([], (0, 0))) else ([], (0, 0))

theorem Q_steps (l : List NodeS) (s : ByteArray) : Q_walk_steps l s = some (((), ()), ((l, ()), ((s, ()), ()))) := fin rfl

theorem Q_Walk (l : List NodeS) (hl : Nodes l) (s : ByteArray) (hs : s.size < 1000000000) : Q_walk_Walk l s = some (((walkV l s).1.length, ((walkV l s).2.1, ((walkV l s).2.2, ()))), ((walkV l s).1, ())) := by
  refine fin ?_
  unfold M_walk_Walk
  simp only [ok_graph_May, q_graph_May, Q_May l hl, RS.get, Option.getD_some, Option.isSome_some, cond_true, int_bne]
  by_cases hm : mayP l
  · rw [decide_eq_true (mayN_zero.2 hm)]
    simp only [Bool.not_true, cond_false]
    have hw : walkV l s = (match findP l 1 with | some x => W l s 64 0 x | none => ([], (0, 0))) := by unfold walkV; rw [if_pos hm]
    rw [hw]
    obtain ⟨h, H⟩ := hm.2.2.2
    have hsteps : Q_walk_steps_1 0 [] 0 0 l s = some (((), (((), ((), ((), ((), ((), ((), ((), ((), ((), ((), ((), ((), ((), ((), ((), ((), ((), ((), ((), ((), ((), ((), ((), ((), ((), ((), ((), ((), ((), ((), ((), ((), ())))))))))))))))))))))))))))))))), (((walkV l s).1.length, ()), ((), (((walkV l s).2.1, ()), (((walkV l s).2.2, ()), ((l, ()), ((s, ()), ((walkV l s).1, ())))))))))) := by
      rw [hw]
      refine fin ?_
      unfold M_walk_steps_1
      simp only [ok_graph_Find, q_graph_Find, Q_Find l 1 hl.len, RS.get, Option.getD_some, Option.isSome_some, cond_true]
      cases hf : findP l 1 with
      | none => rfl
      | some x =>
        simp only [findV]
        obtain ⟨_, hx⟩ := findP_some hf
        have hle := Hgt.le hm.2.1 hl.arms H x.1
        have h32 := hm.2.1
        have := L_steps (fun y5 y6 y7 y8 => some (encRes ro_walk_steps_1 rh_walk_steps_1 ((), (((), ((), ((), ((), ((), ((), ((), ((), ((), ((), ((), ((), ((), ((), ((), ((), ((), ((), ((), ((), ((), ((), ((), ((), ((), ((), ((), ((), ((), ((), ((), ((), ())))))))))))))))))))))))))))))))), ((y5, ()), ((), ((y6, ()), ((y7, ()), ((l, ()), ((s, ()), (y8, ()))))))))))) l hl hm H s hs 64 FUEL 0 0 0 [] x (by rw [hx]; exact hf) (by omega) (by omega) (by unfold FUEL; omega) (by omega) (by omega) (by simp)
        simp only [List.nil_append, List.length_nil, Int.zero_add] at this
        exact this
    simp only [ok_walk_steps, q_walk_steps, Q_steps, ok_walk_steps_1, q_walk_steps_1, hsteps, RS.get, Option.getD_some, Option.isSome_some, cond_true]
    rw [hw]
  · have hn : ¬ mayN l = 0 := fun e => hm (mayN_zero.1 e)
    rw [decide_eq_false hn]
    simp only [Bool.not_false, cond_true]
    have hw : walkV l s = ([], (0, 0)) := by unfold walkV; rw [if_neg hm]
    rw [hw]; rfl
end Go.AMach
