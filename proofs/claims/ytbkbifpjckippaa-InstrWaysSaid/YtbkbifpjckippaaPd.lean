/- Parts of the proof. -/
import Derived.Test.YtbkbifpjckippaaPb
import Derived.Test.YtbkbifpjckippaaPa
import Derived.Test.YtbkbifpjckippaaPc
import Derived.Test.YtbkbifpjckippaaPc
/- law19: InstrBlocks. -/
namespace Go.AMach
set_option linter.unusedVariables false
set_option linter.unusedSimpArgs false
set_option linter.unnecessarySimpa false
open Go
set_option linter.unusedVariables false
set_option linter.unusedSimpArgs false
namespace N19
set_option linter.unusedVariables false
set_option linter.unusedSimpArgs false
set_option linter.unnecessarySimpa false
open W19
theorem may_N32 {i : InstrS} (hm : mayB i = true) (h : i.1 = 12) : 1 ≤ i.2.2.2.2.1 ∧ i.2.2.2.2.1 ≤ 32 := by
  obtain ⟨o, to, a, b, n, u⟩ := i
  have h : o = 12 := h
  subst h
  unfold mayB shB at hm
  simp [tgtV, numV] at hm
  exact hm.2.2.2
theorem L_rMayBlock (kr : Bool → Option Res) (kt : Unit → Option Res) (b : BlockS) (hb : b.2.1.length ≤ 32) : ∀ (m i : Nat), i ≤ b.2.1.length → b.2.1.length - i < m →
    L_z0p_0 FUEL kr kt b m (i : Int) = cond (okAt (b.2.1.drop i)) (kt ()) (kr false)
  | 0, _, _, h => by omega
  | m + 1, i, hi, hm => by
    show F_z0p_0 FUEL kr kt b (L_z0p_0 FUEL kr kt b m) (i : Int) = _
    unfold F_z0p_0
    by_cases h : i < b.2.1.length
    · have hb0 : decide ((0 : Int) ≤ (i : Int) ∧ (i : Int) < ((b.2.1.length : Nat) : Int)) = true := decide_eq_true (by omega)
      simp only [hb0, toNat_cast, ok_rMay, q_rMay, cond_true]
      refine stepT (decide_eq_true (by omega)) ?_
      rw [i64_succ (by omega), L_rMayBlock kr kt b hb m (i + 1) (by omega) (by omega), drop_rdd zInstrS h]
      show _ = cond (mayB _ && (skOk _ (b.2.1.drop (i + 1)).length && okAt _)) _ _
      unfold skOk
      cases hm : mayB (rdd zInstrS b.2.1 i) with
      | false => rfl
      | true =>
        simp only [Bool.not_true, cond_false, Bool.true_and]
        by_cases h12 : (rdd zInstrS b.2.1 i).1 = 12
        · obtain ⟨n1, n2⟩ := may_N32 hm h12
          rw [beqT h12]
          simp only [cond_true]
          have ew : IntKind.wrap .i64 (((i + 1 : Nat) : Int) + (rdd zInstrS b.2.1 i).2.2.2.2.1) = ((i + 1 : Nat) : Int) + (rdd zInstrS b.2.1 i).2.2.2.2.1 := by
            simp [IntKind.wrap, IntKind.bits, IntKind.signed]; omega
          rw [ew, List.length_drop]
          by_cases hh : (rdd zInstrS b.2.1 i).2.2.2.2.1 > ((b.2.1.length - (i + 1) : Nat) : Int)
          · rw [decide_eq_true hh, decide_eq_true (by omega)]; rfl
          · rw [decide_eq_false hh, decide_eq_false (by omega)]; rfl
        · rw [beqF h12]; rfl
    · refine stepF (decide_eq_false (by omega)) ?_
      rw [List.drop_of_length_le (by omega)]
      rfl
theorem Q_rMayBlock (b : BlockS) : Q_z0p b = some ((mayBlk b, ()), ()) := by
  refine fin ?_
  unfold M_z0p mayBlk
  simp only [ok_rID, q_rID, cond_true]
  cases idV b.1 with
  | false => rfl
  | true =>
    simp only [Bool.not_true, cond_false, Bool.true_and]
    by_cases h : b.2.1.length ≤ 32
    · refine stepF (decide_eq_false (by omega)) ?_
      rw [decide_eq_true h, Bool.true_and]
      refine (L_rMayBlock _ _ b h FUEL 0 (by omega) (fuel_big (by omega))).trans ?_
      rw [List.drop_zero]
      cases okAt b.2.1 <;> rfl
    · refine stepT (decide_eq_true (by omega)) ?_
      rw [decide_eq_false h]; rfl
theorem ok_rMayBlock (a : BlockS) : ok_z0p a = true := by unfold ok_z0p; rw [Q_rMayBlock]; rfl
theorem q_rMayBlock (a : BlockS) : q_z0p a = ((mayBlk a, ()), ()) := by unfold q_z0p; rw [Q_rMayBlock]; rfl
theorem from_of_ok : ∀ {c : List InstrS}, okAt c = true → fromOk c = true
  | [], _ => rfl
  | i :: r, h => by
    unfold okAt at h
    simp only [Bool.and_eq_true] at h
    have ih := from_of_ok h.2.2
    unfold fromOk
    by_cases h12 : i.1 = 12
    · obtain ⟨n1, n2⟩ := may_N32 h.1 h12
      have hs := h.2.1
      unfold skOk at hs
      rw [beqT h12] at hs ⊢
      simp only [cond_true, Bool.not_eq_true', decide_eq_false_iff_not] at hs
      simp only [cond_true]
      rw [decide_eq_true (by omega), decide_eq_true (by omega), ih]; rfl
    · rw [beqF h12, ih]; rfl
theorem fromNd_eq : fromNd = nd := rfl
theorem Q_rWays (b : BlockS) : Q_z0t b = some ((waysL b, ()), ()) := by
  refine fin ?_
  unfold M_z0t waysL
  simp only [ok_rMayBlock, q_rMayBlock, cond_true]
  cases hm : mayBlk b with
  | false => rfl
  | true =>
    obtain ⟨_, hl, hok⟩ := blk_parts hm
    have e : Q_z0s b.2.1 = some ((b.2.1.length + 1, ()), ((fromL b.2.1), ())) := by
      unfold Q_z0s
      rw [decide_eq_true hl, from_of_ok hok]; rfl
    have eq : q_z0s b.2.1 = _ := (congrArg RS.get e).trans (get_some _)
    simp only [Bool.not_true, cond_false, cond_true]
    refine stepC e ?_
    rw [eq]
    refine stepT (decide_eq_true ⟨Int.le_refl _, show (0 : Int) < ((b.2.1.length + 1 : Nat) : Int) by omega⟩) ?_
    have e0 : rdd [] (fromL b.2.1) 0 = waysB (nds b.2.1) := by
      unfold fromL
      rw [rdd_lt (by simp)]
      simp [fromNd_eq]
    show some (encRes ro_z0t rh_z0t (((rdd [] (fromL b.2.1) 0), ()), ())) = _
    rw [e0]
theorem ok_rWays (a : BlockS) : ok_z0t a = true := by unfold ok_z0t; rw [Q_rWays]; rfl
theorem q_rWays (a : BlockS) : q_z0t a = ((waysL a, ()), ()) := by unfold q_z0t; rw [Q_rWays]; rfl
theorem L_rSteps (k : Int → Option Res) (l : List WayS) (hl : l.length ≤ 100000) : ∀ (m i : Nat) (n : Int), i ≤ l.length → l.length - i < m →
    L_z0u_0 FUEL k l m n (i : Int) = k ((l.drop i).foldl (fun n x => mx x.2.2.1 n) n)
  | 0, _, _, _, h => by omega
  | m + 1, i, n, hi, hm => by
    show F_z0u_0 FUEL k l (L_z0u_0 FUEL k l m) n (i : Int) = _
    unfold F_z0u_0
    by_cases h : i < l.length
    · refine stepT (decide_eq_true (by omega)) ?_
      refine stepT (decide_eq_true (by omega)) ?_
      simp only [toNat_cast]
      rw [i64_succ (by omega), L_rSteps k l hl m (i + 1) _ (by omega) (by omega), drop_rdd zWayS h]
      rfl
    · refine stepF (decide_eq_false (by omega)) ?_
      rw [List.drop_of_length_le (by omega)]; rfl
theorem Q_rSteps (b : BlockS) : Q_z0u b = some ((stepsL (waysL b), ()), ()) := by
  refine fin ?_
  unfold M_z0u
  simp only [ok_rWays, q_rWays, cond_true]
  have := waysL_len' b
  refine (L_rSteps _ (waysL b) (by omega) FUEL 0 0 (by omega) (fuel_big (by omega))).trans ?_
  rw [List.drop_zero]; rfl
theorem ok_rSteps (a : BlockS) : ok_z0u a = true := by unfold ok_z0u; rw [Q_rSteps]; rfl
theorem q_rSteps (a : BlockS) : q_z0u a = ((stepsL (waysL a), ()), ()) := by unfold q_z0u; rw [Q_rSteps]; rfl
theorem L_Blocks2 (kt : Unit → Option Res) (n : Nat) (hn : n ≤ 1000) : ∀ (m i : Nat) (l : List WayS), i ≤ n → n - i < m → L_z0v_2 FUEL kt n m (i : Int) l = kt ()
  | 0, _, _, _, h => by omega
  | m + 1, i, l, hi, hm => by
    show F_z0v_2 FUEL kt n (L_z0v_2 FUEL kt n m) (i : Int) l = _
    unfold F_z0v_2
    by_cases h : i < n
    · refine stepT (decide_eq_true (by omega)) ?_
      refine stepT (decide_eq_true (by omega)) ?_
      rw [i64_succ (by omega)]
      exact L_Blocks2 kt n hn m (i + 1) _ (by omega) (by omega)
    · exact stepF (decide_eq_false (by omega)) rfl
theorem L_Blocks4 (kr : Bool → Option Res) (kt : Unit → Option Res) (b : BlockS) (hb : b.2.1.length ≤ 1000) : ∀ (m i : Nat), i ≤ b.2.1.length → b.2.1.length - i < m → L_z0v_4 FUEL kr kt b b.2.1.length b.2.1 m (i : Int) = kt ()
  | 0, _, _, h => by omega
  | m + 1, i, hi, hm => by
    show F_z0v_4 FUEL kr kt b b.2.1.length b.2.1 (L_z0v_4 FUEL kr kt b b.2.1.length b.2.1 m) (i : Int) = _
    unfold F_z0v_4
    by_cases h : i < b.2.1.length
    · refine stepT (decide_eq_true (by omega)) ?_
      refine stepT (decide_eq_true (by omega)) ?_
      refine stepT (decide_eq_true (by omega)) ?_
      refine stepF (by simp) ?_
      rw [i64_succ (by omega)]
      exact L_Blocks4 kr kt b hb m (i + 1) (by omega) (by omega)
    · exact stepF (decide_eq_false (by omega)) rfl
end N19
open N19 W19
theorem Pure.InstrBlocks (b : BlockS) (hb : BlockT.good b) : Q_z0v b = some ((true, ()), ()) := by
  refine fin ?_
  unfold M_z0v
  by_cases hl : (b.2.1.length : Int) > 300
  · refine stepT (decide_eq_true hl) ?_
    refine stepC Q_awake ?_
    rw [q_awake]
  refine stepF (decide_eq_false hl) ?_
  refine stepT (decide_eq_true (by omega)) ?_
  have hw := waysL_len' b
  have eb : (b.1, (b.2.1, ())) = b := rfl
  simp only [Nat.zero_add, cutL_all, eb, ok_rWays, q_rWays, ok_MayBlock, q_MayBlock, ok_rMayBlock, q_rMayBlock, ok_Steps, q_Steps, ok_rSteps, q_rSteps, ok_awake, q_awake, cond_true, beq_self_eq_true]
  have h4 := fun kr kt => L_Blocks4 kr kt b (by omega) FUEL 0 (by omega) (fuel_big (by omega))
  have step : ∀ (m : Nat) (j : Nat) (kr : Bool → Option Res) (kt : Unit → Option Res), j < 2 → L_z0v_0 FUEL kr kt (waysL b) b.1 b.2.1.length b.2.1 (m + 1) (j : Int) = L_z0v_0 FUEL kr kt (waysL b) b.1 b.2.1.length b.2.1 m ((j + 1 : Nat) : Int) := by
    intro m j kr kt hj
    show F_z0v_0 FUEL kr kt (waysL b) b.1 b.2.1.length b.2.1 (L_z0v_0 FUEL kr kt (waysL b) b.1 b.2.1.length b.2.1 m) (j : Int) = _
    unfold F_z0v_0
    simp only [cutL_all, eb, ok_Ways, q_Ways, (waysC (waysL b) (by omega)).1, (waysC (waysL b) (by omega)).2, cond_true, Bool.not_true, cond_false]
    refine stepT (decide_eq_true (by omega)) ?_
    refine (L_Blocks2 _ _ (by omega) FUEL 0 _ (by omega) (fuel_big (by omega))).trans ?_
    rw [i64_succ (by omega)]
  have fin2 : ∀ (m : Nat) (kr : Bool → Option Res) (kt : Unit → Option Res), L_z0v_0 FUEL kr kt (waysL b) b.1 b.2.1.length b.2.1 (m + 3) (0 : Int) = kt () := by
    intro m kr kt
    rw [show (0 : Int) = ((0 : Nat) : Int) from rfl, step (m + 2) 0 kr kt (by omega), step (m + 1) 1 kr kt (by omega)]
    show F_z0v_0 FUEL kr kt (waysL b) b.1 b.2.1.length b.2.1 (L_z0v_0 FUEL kr kt (waysL b) b.1 b.2.1.length b.2.1 m) ((1 + 1 : Nat) : Int) = _
    unfold F_z0v_0
    exact stepF (decide_eq_false (by omega)) rfl
  obtain ⟨m, hm⟩ : ∃ m, FUEL = m + 3 := ⟨FUEL - 3, by have := fuel_big (n := 3) (by omega); omega⟩
  have f2 := fin2 m
  rw [← hm] at f2
  refine (f2 _ _).trans ?_
  refine (h4 _ _).trans ?_
  rfl
end Go.AMach

/- law19: InstrStraight. -/
namespace Go.AMach
set_option linter.unusedVariables false
set_option linter.unusedSimpArgs false
set_option linter.unnecessarySimpa false
open Go
set_option linter.unusedVariables false
set_option linter.unusedSimpArgs false
namespace N19
set_option linter.unusedVariables false
set_option linter.unusedSimpArgs false
set_option linter.unnecessarySimpa false
open W19
theorem Run.free {pk pk' : Nat → Bool} : ∀ {l : List Nd} {s : Nat} {o n t : Int}, FreeN l → Run pk l s o n t → Run pk' l s o n t := by
  intro l
  induction l with
  | nil => intro s o n t _ h; cases h; exact .nil _
  | cons x l ih =>
    intro s o n t hf h
    have hf' : FreeN l := fun y hy => hf y (List.mem_cons_of_mem _ hy)
    cases h with
    | fin => exact .fin _ _ _ _
    | step h => exact .step (ih hf' h)
    | go k _ h => exact absurd rfl (hf _ List.mem_cons_self k)
    | over k _ h => exact absurd rfl (hf _ List.mem_cons_self k)
theorem free_ways {c : List Nd} (h : FreeN c) {pk : Nat → Bool} {o n s : Int} (hr : Run pk c 0 o n s) : waysB c = [wy o n s] := by
  refine (waysB_ok _ _ (Nat.le_refl _)).one (WaysP.congr (one_ways o n s) fun o' n' s' => ?_)
  constructor
  · rintro ⟨rfl, rfl, rfl⟩
    have := hr.E; simpa using this
  · intro he
    obtain ⟨pk', hr'⟩ := E_run he 0
    have hr' : Run pk' c 0 o' n' s' := by simpa using hr'
    exact hr.one (hr'.free h)
theorem runShape19 {pk : Nat → Bool} {c : List Nd} {s : Nat} {o n t : Int} (hr : Run pk c s o n t) : FreeN c → (∃ (k : Nat) (r : List Nd), c = List.replicate k .step ++ .fin o n :: r ∧ t = (s : Int) + k + 1) ∨ (c = List.replicate c.length .step ∧ o = 23 ∧ n = 0 ∧ t = (s : Int) + c.length) := by
  induction hr with
  | nil s => intro _; exact .inr ⟨rfl, rfl, rfl, by simp⟩
  | fin o n r s => intro _; exact .inl ⟨0, r, rfl, by simp⟩
  | @step r s o n t h ih =>
    intro hf
    rcases ih fun y hy => hf y (List.mem_cons_of_mem _ hy) with ⟨k, r', e, et⟩ | ⟨e, e1, e2, et⟩
    · refine .inl ⟨k + 1, r', by rw [e]; rfl, by rw [et]; omega⟩
    · refine .inr ⟨?_, e1, e2, by rw [et]; simp; omega⟩
      rw [List.length_cons, List.replicate_succ, ← e]
  | go k _ h => intro hf; exact absurd rfl (hf _ List.mem_cons_self k)
  | over k _ h => intro hf; exact absurd rfl (hf _ List.mem_cons_self k)
theorem waysB_rep (k : Nat) (o n : Int) (r : List Nd) : waysB (List.replicate k .step ++ .fin o n :: r) = [wy o n ((k : Int) + 1)] := by
  induction k with
  | zero => show waysB (.fin o n :: r) = _; rw [waysB]; rfl
  | succ k ih =>
    show waysB (.step :: (List.replicate k .step ++ .fin o n :: r)) = _
    rw [waysB, ih]
    show [wy o n ((k : Int) + 1 + 1)] = _
    rw [show ((k + 1 : Nat) : Int) = (k : Int) + 1 by omega]
theorem L_Straight (kr : Bool → Option Res) (kt : Unit → Option Res) (b : BlockS) (hb : b.2.1.length ≤ 32) : ∀ (m i : Nat), i ≤ b.2.1.length → b.2.1.length - i < m →
    (FreeI (b.2.1.drop i) ∧ L_z11_0 FUEL kr kt b m (i : Int) = kt ()) ∨ L_z11_0 FUEL kr kt b m (i : Int) = kr true
  | 0, _, _, h => by omega
  | m + 1, i, hi, hm => by
    by_cases h : i < b.2.1.length
    · by_cases hx : (rdd zInstrS b.2.1 i).1 = 12
      · right
        show F_z11_0 FUEL kr kt b (L_z11_0 FUEL kr kt b m) (i : Int) = _
        unfold F_z11_0
        rw [toNat_cast]
        exact stepT (decide_eq_true (by omega)) (stepT (decide_eq_true (by omega)) (stepT (beqT hx) rfl))
      · have e : L_z11_0 FUEL kr kt b (m + 1) (i : Int) = L_z11_0 FUEL kr kt b m ((i + 1 : Nat) : Int) := by
          show F_z11_0 FUEL kr kt b (L_z11_0 FUEL kr kt b m) (i : Int) = _
          unfold F_z11_0
          rw [toNat_cast, i64_succ (by omega)]
          exact stepT (decide_eq_true (by omega)) (stepT (decide_eq_true (by omega)) (stepF (beqF hx) rfl))
        rw [e]
        rcases L_Straight kr kt b hb m (i + 1) (by omega) (by omega) with ⟨a, c⟩ | c
        · refine .inl ⟨?_, c⟩
          rw [drop_rdd zInstrS h]
          intro x hx'
          rcases List.mem_cons.1 hx' with rfl | hx'
          · exact hx
          · exact a x hx'
        · exact .inr c
    · left
      rw [List.drop_of_length_le (by omega)]
      refine ⟨fun x hx => (by cases hx), ?_⟩
      show F_z11_0 FUEL kr kt b (L_z11_0 FUEL kr kt b m) (i : Int) = _
      unfold F_z11_0
      exact stepF (decide_eq_false (by omega)) rfl
/-- The end of the law. -/
theorem straight_tail {b : BlockS} {X : List InstrS} {o n s : Int} (hb : waysL b = [wy o n s]) (hX : mayBlk (b.1, (X, ())) = true → waysB (nds X) = [wy o n s]) :
    cond (!mayBlk (b.1, (X, ()))) (some (encRes ro_z11 rh_z11 ((true, ()), ())))
     (cond ((((waysL (b.1, (X, ()))).length : Nat) : Int) == (1 : Int))
      (cond (decide ((0 : Int) ≤ (0 : Int) ∧ (0 : Int) < (((waysL (b.1, (X, ()))).length : Nat) : Int)))
       (cond (decide ((0 : Int) ≤ (0 : Int) ∧ (0 : Int) < (((waysL b).length : Nat) : Int)))
        (some (encRes ro_z11 rh_z11 (((((rdd zWayS (waysL (b.1, (X, ()))) 0).1 == (rdd zWayS (waysL b) 0).1) && (((rdd zWayS (waysL (b.1, (X, ()))) 0).2.1 == (rdd zWayS (waysL b) 0).2.1) && (((rdd zWayS (waysL (b.1, (X, ()))) 0).2.2.1 == (rdd zWayS (waysL b) 0).2.2.1) && true))), ()), ())))
        none) none)
      (some (encRes ro_z11 rh_z11 ((false, ()), ())))) = some (encRes ro_z11 rh_z11 ((true, ()), ())) := by
  cases hm : mayBlk (b.1, (X, ())) with
  | false => rfl
  | true =>
    have e : waysL (b.1, (X, ())) = [wy o n s] := by unfold waysL; rw [hm]; exact hX hm
    rw [e, hb]
    refine stepF rfl (stepT rfl (stepT rfl (stepT rfl ?_)))
    simp
end N19
open N19 W19
theorem Pure.InstrStraight (b : BlockS) (hb : BlockT.good b) (a1 : List InstrS) (h1 : (Ty.slice InstrT).good a1) : Q_z11 b a1 = some ((true, ()), ()) := by
  refine fin ?_
  unfold M_z11
  by_cases hl : (b.2.1.length : Int) > 300
  · refine stepT (decide_eq_true hl) ?_
    refine stepC Q_awake ?_
    rw [q_awake]
  refine stepF (decide_eq_false hl) ?_
  by_cases hl1 : (a1.length : Int) > 300
  · refine stepT (decide_eq_true hl1) ?_
    refine stepC Q_awake ?_
    rw [q_awake]
  refine stepF (decide_eq_false hl1) ?_
  refine stepC Q_awake ?_
  refine stepF (by rw [q_awake]; rfl) ?_
  refine stepC (Q_MayBlock b) ?_
  rw [q_MayBlock]
  cases hm : mayBlk b with
  | false => rfl
  | true =>
  refine stepF rfl ?_
  obtain ⟨_, h32, hok⟩ := blk_parts hm
  refine Or.elim (L_Straight _ _ b h32 FUEL 0 (by omega) (fuel_big (by omega))) (fun h => ?_) (fun h => h.trans rfl)
  refine h.2.trans ?_
  have hfree : FreeI b.2.1 := by have := h.1; rw [List.drop_zero] at this; exact this
  clear h
  obtain ⟨o, n, s, hr, er⟩ := Q_run b.2.1 h32 hok [] (by simp)
  have rB : ok_z0x b.2.1 [] = true ∧ q_z0x b.2.1 [] = ((o, (n, (s, ()))), ()) :=
    ⟨by unfold ok_z0x; rw [er]; rfl, by unfold q_z0x; rw [er]; rfl⟩
  have hW : waysL b = [wy o n s] := by unfold waysL; rw [hm]; exact free_ways (free_nds hfree) hr
  have hs := E_le hr.E
  have hs0 := E_pos hr.E
  simp only [List.length_map, Int.natCast_zero, Int.sub_zero] at hs hs0
  have hsh := runShape19 hr (free_nds hfree)
  obtain ⟨t, rfl⟩ : ∃ t : Nat, s = (t : Int) := ⟨s.toNat, by omega⟩
  have c1 : cutL zInstrS b.2.1 0 t = b.2.1.take t := by rw [cutL_eq (by omega), List.drop_zero]
  have hst : stepsL [wy o n (t : Int)] = (t : Int) := by
    show mx (t : Int) 0 = _
    unfold mx; split <;> omega
  simp only [rB.1, rB.2, ok_Ways, q_Ways, ok_Steps, q_Steps, cond_true, toNat_cast, show Int.toNat (0 : Int) = 0 from rfl, Nat.sub_zero, Nat.zero_add, c1, cutL_all]
  have c5 : cutL zInstrS (b.2.1.take t ++ a1) 0 ((b.2.1.take t).length + a1.length) = b.2.1.take t ++ a1 := cutL_app _ _ _ _ rfl
  simp only [c5, ok_MayBlock, q_MayBlock, ok_ends, q_ends, cond_true]
  have hlt : (b.2.1.take t).length = t := by simp; omega
  have hX : (∃ (k : Nat) (r : List Nd), nds b.2.1 = List.replicate k .step ++ .fin o n :: r ∧ (t : Int) = ((0 : Nat) : Int) + k + 1) → waysB (nds (b.2.1.take t ++ a1)) = [wy o n (t : Int)] := by
    rintro ⟨k, r, e, et⟩
    have et' : t = k + 1 := by omega
    have e2 : nds (b.2.1.take t ++ a1) = List.replicate k .step ++ .fin o n :: nds a1 := by
      show (b.2.1.take t ++ a1).map nd = _
      rw [List.map_append, List.map_take]
      show (nds b.2.1).take t ++ nds a1 = _
      rw [e, et', List.take_append, List.length_replicate]
      simp [List.take_of_length_le]
    rw [e2, waysB_rep, et']; rfl
  have tail := fun h => straight_tail (b := b) (X := b.2.1.take t ++ a1) hW fun _ => hX h
  refine stepF (by rw [hW]; rfl) ?_
  refine stepT (by rw [hW]; rfl) ?_
  refine stepF (by rw [hW]; simp [rdd]) ?_
  refine stepF (by rw [hW, hst]; exact bneF rfl) ?_
  by_cases ht : (t : Int) = (b.2.1.length : Int)
  · refine stepT (beqT ht) ?_
    refine stepT (decide_eq_true (by omega)) ?_
    refine stepT (beqT rfl) ?_
    by_cases h0 : t = 0
    · subst h0
      refine stepT (by rw [hlt]; rfl) ?_
      refine stepT (by decide) ?_
      refine stepT (by decide) ?_
      exact stepT rfl rfl
    · refine stepF (by rw [hlt]; simpa using h0) ?_
      refine stepT (decide_eq_true (by omega)) ?_
      have ew : IntKind.wrap .i64 ((t : Int) - 1) = ((t - 1 : Nat) : Int) := i64_pred (by omega) (by omega)
      have ey : (if IntKind.wrap .i64 ((t : Int) - 1) > 0 then IntKind.wrap .i64 ((t : Int) - 1) else 0) = ((t - 1 : Nat) : Int) := by rw [ew]; split <;> omega
      rw [ey]
      refine stepT (decide_eq_true (by omega)) ?_
      rw [toNat_cast]
      have er : ∀ z : InstrS, rdd zInstrS (b.2.1.take t ++ [z]) (t - 1) = rdd zInstrS b.2.1 (t - 1) := fun z => by
        rw [rdd_lt (by simp; omega), rdd_lt (by omega), List.getElem_append_left (by rw [hlt]; omega), List.getElem_take]
      rw [er]
      cases hd : endIs (rdd zInstrS b.2.1 (t - 1)) with
      | false => exact stepT rfl rfl
      | true =>
        refine stepF rfl ?_
        refine stepT (decide_eq_true (by omega)) ?_
        refine stepT (decide_eq_true (by omega)) ?_
        refine stepT (decide_eq_true (by omega)) ?_
        refine tail ?_
        rcases hsh with h | ⟨e, _⟩
        · exact h
        · exfalso
          have hx := nds_at (c := b.2.1) (p := t - 1) (by omega)
          rw [e, List.getElem?_replicate] at hx
          simp only [List.length_map] at hx
          rw [if_pos (by omega)] at hx
          rcases end_cases (rdd zInstrS b.2.1 (t - 1)) with ⟨_, o', n', e3, _⟩ | ⟨e3, _⟩ | ⟨e3, _⟩
          · rw [e3] at hx; cases hx
          · rw [hd] at e3; cases e3
          · rw [hd] at e3; cases e3
  · refine stepF (beqF ht) ?_
    refine stepT (decide_eq_true (by omega)) ?_
    refine stepT (decide_eq_true (by omega)) ?_
    refine stepT (decide_eq_true (by omega)) ?_
    refine tail ?_
    rcases hsh with h | ⟨_, _, _, e⟩
    · exact h
    · exfalso; simp at e; omega
end Go.AMach

/- law19: InstrWays. -/
namespace Go.AMach
set_option linter.unusedVariables false
set_option linter.unusedSimpArgs false
set_option linter.unnecessarySimpa false
open Go
set_option linter.unusedVariables false
set_option linter.unusedSimpArgs false
open N19 W19
theorem Pure.InstrWays (b : BlockS) (hb : BlockT.good b) (a1 : List Bool) (h1 : (Ty.slice .bool).good a1) : Q_z0z b a1 = some ((true, ()), ()) := by
  refine fin ?_
  unfold M_z0z
  by_cases hl : (b.2.1.length : Int) > 300
  · refine stepT (decide_eq_true hl) ?_
    refine stepC Q_awake ?_
    rw [q_awake]
  refine stepF (decide_eq_false hl) ?_
  by_cases hl1 : (a1.length : Int) > 1000
  · refine stepT (decide_eq_true hl1) ?_
    refine stepC Q_awake ?_
    rw [q_awake]
  refine stepF (decide_eq_false hl1) ?_
  refine stepC Q_awake ?_
  refine stepF (by rw [q_awake]; rfl) ?_
  refine stepC (Q_Ways b) ?_
  rw [q_Ways]
  refine stepC (Q_MayBlock b) ?_
  rw [q_MayBlock]
  cases hm : mayBlk b with
  | false =>
    have e : waysL b = [] := by unfold waysL; rw [hm]; rfl
    refine stepT rfl ?_
    rw [e]
    refine stepT rfl ?_
    refine stepC (Q_Steps b) ?_
    rw [q_Steps, e]
    rfl
  | true =>
  refine stepF rfl ?_
  obtain ⟨_, h32, hok⟩ := blk_parts hm
  refine stepF (decide_eq_false (by omega)) ?_
  obtain ⟨o, n, s, hr, er⟩ := Q_run b.2.1 h32 hok a1 (by omega)
  have rB : ok_z0x b.2.1 a1 = true ∧ q_z0x b.2.1 a1 = ((o, (n, (s, ()))), ()) :=
    ⟨by unfold ok_z0x; rw [er]; rfl, by unfold q_z0x; rw [er]; rfl⟩
  refine stepT rB.1 ?_
  rw [rB.2]
  have hW : waysL b = waysB (nds b.2.1) := by unfold waysL; rw [hm]; rfl
  have hwl := waysL_len' b
  simp only [cutL_all]
  obtain ⟨t1, t2⟩ := q_told (waysL b) (by omega) o n
  refine stepT t1 ?_
  rw [t2]
  have hle : s ≤ toldV (waysL b) o n := by
    have hP := waysB_ok _ (nds b.2.1) (Nat.le_refl _)
    have hE := hr.E
    rw [Int.natCast_zero, Int.sub_zero] at hE
    obtain ⟨s', h1, h2⟩ := hP.most _ _ _ hE
    rw [hW, told_mem hP.srt h2]
    exact h1
  refine stepF (decide_eq_false (by show ¬ toldV _ _ _ < s; omega)) ?_
  have hq : Q_z01 (waysL b).length b (waysL b) = some ((true, ()), ((), ((), ()))) := by
    unfold Q_z01
    have e : waysL b = W19.waysB (b.2.1.map fromNd) := hW
    rw [decide_eq_true h32, from_of_ok hok, decide_eq_true rfl, decide_eq_true e]
    rfl
  show (cond (Option.isSome (Q_z01 (waysL b).length b (waysL b))) _ _) = _
  rw [hq]
  rfl
end Go.AMach
