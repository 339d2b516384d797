/- Parts of the proof. -/
import Derived.Test.YtfmjdojndbpkhaaPe
import Derived.KernelRfl
/- Layer 24: BoundParts, the law. -/
namespace Go.AMach
set_option linter.unusedVariables false
set_option linter.unusedSimpArgs false
set_option linter.unnecessarySimpa false
open Go
set_option linter.unusedVariables false

theorem Q_Block' {c : ConfigS} (h : Cfg c) (hn : ¬ RingC c) (k : Int) : Q_z0a c k = some ((HC c (1, (k, ())), (0, ())), ()) := by
  have := Q_Block h k
  have e : ofV c (1, (k, ())) = (HC c (1, (k, ())), 0) := by unfold ofV; rw [if_neg hn]
  rw [e] at this; exact this
theorem Q_Table' {c : ConfigS} (h : Cfg c) (hn : ¬ RingC c) (k : Int) : Q_z0b c k = some ((HC c (0, (k, ())), (0, ())), ()) := by
  have := Q_Table h k
  have e : ofV c (0, (k, ())) = (HC c (0, (k, ())), 0) := by unfold ofV; rw [if_neg hn]
  rw [e] at this; exact this
theorem Q_Group' {c : ConfigS} (h : Cfg c) (hn : ¬ RingC c) (k : Int) : Q_z0c c k = some ((HC c (2, (k, ())), (0, ())), ()) := by
  have := Q_Group h k
  have e : ofV c (2, (k, ())) = (HC c (2, (k, ())), 0) := by unfold ofV; rw [if_neg hn]
  rw [e] at this; exact this
theorem cutW {x : Int} (h : InR x) : (if (IntKind.wrap .i64 ((1 : Int) + x)) < (65537 : Int) then (IntKind.wrap .i64 ((1 : Int) + x)) else (65537 : Int)) = cut7 (1 + x) := by
  rw [i64_id (by unfold InR at h; omega)]; rfl
theorem beqSelf {a b : Int} (h : a = b) : (a == b) = true := beqT' h

/-! ### The table -/
theorem L_BP5 (kt : Int → Option Res) {c : ConfigS} (h : Cfg c) (hn : ¬ RingC c) (id : Int) : ∀ (m i : Nat) (n : Int), i ≤ (cE c).length → (cE c).length - i < m →
    L_z0v_5 FUEL kt id c m n (i : Int) = kt ((((cE c).drop i).filter fun x => decide (x.1 = id)).foldl (fun n x => mx n (HC c (1, (eB x, ())))) n)
  | 0, _, _, _, h => by omega
  | m + 1, i, n, hi, hm => by
    have hle := h.e
    show F_z0v_5 FUEL kt id c (L_z0v_5 FUEL kt id c m) n (i : Int) = _
    unfold F_z0v_5
    by_cases hlt : i < (cE c).length
    · refine stepT' (decide_eq_true (by show (i : Int) < ((cE c).length : Int); omega)) ?_
      refine stepT' (decide_eq_true (by show (0 : Int) ≤ (i : Int) ∧ (i : Int) < ((cE c).length : Int); omega)) ?_
      rw [toNat_cast, drop_rdd zEntryS hlt, List.filter_cons]
      by_cases he : (rdd zEntryS (cE c) i).1 = id
      · refine stepT' (beqT' he) ?_
        refine stepT' (decide_eq_true (by show (0 : Int) ≤ (i : Int) ∧ (i : Int) < ((cE c).length : Int); omega)) ?_
        have e1 := Q_Block' h hn (rdd zEntryS (cE c) i).2.2.2.2.2.1
        extract_lets -merge +onlyGivenNames y20
        have e_y : y20 = _ := (congrArg RS.get e1).trans (get_some _)
        clear_value y20; subst e_y
        refine stepC' e1 ?_
        rw [i64_succ (by omega), if_pos (decide_eq_true he), List.foldl_cons]
        exact L_BP5 kt h hn id m (i + 1) (mx n (HC c (1, (eB (rdd zEntryS (cE c) i), ())))) (by omega) (by omega)
      · refine stepF' (beqF' he) ?_
        rw [i64_succ (by omega), if_neg (by rw [decide_eq_false he]; decide)]
        exact L_BP5 kt h hn id m (i + 1) n (by omega) (by omega)
    · refine stepF' (decide_eq_false (by show ¬ (i : Int) < ((cE c).length : Int); omega)) ?_
      rw [List.drop_of_length_le (by omega)]
      rfl
theorem L_BP3 (kr : Bool → Option Res) (kt : Unit → Option Res) {c : ConfigS} (h : Cfg c) (hn : ¬ RingC c) (id : Int) : ∀ (m i : Nat), i ≤ (cT c).length → (cT c).length - i < m → (∀ j, j < i → (rdd zTableS (cT c) j).1 ≠ id) →
    L_z0v_3 FUEL kr kt id c m (i : Int) = kt () ∨ L_z0v_3 FUEL kr kt id c m (i : Int) = kr true
  | 0, _, _, h, _ => by omega
  | m + 1, i, hi, hm, hj => by
    have hle := h.t
    have hle2 := h.e
    show F_z0v_3 FUEL kr kt id c (L_z0v_3 FUEL kr kt id c m) (i : Int) = _ ∨ F_z0v_3 FUEL kr kt id c (L_z0v_3 FUEL kr kt id c m) (i : Int) = _
    unfold F_z0v_3
    by_cases hlt : i < (cT c).length
    · by_cases he : (rdd zTableS (cT c) i).1 = id
      · right
        refine stepT' (decide_eq_true (by show (i : Int) < ((cT c).length : Int); omega)) ?_
        refine stepT' (decide_eq_true (by show (0 : Int) ≤ (i : Int) ∧ (i : Int) < ((cT c).length : Int); omega)) ?_
        rw [toNat_cast]
        refine stepF' (by show ((rdd zTableS (cT c) i).1 != id) = false; rw [int_bne, decide_eq_true he]; rfl) ?_
        have e1 := Q_Table' h hn id
        have e2 := Q_Block' h hn (rdd zTableS (cT c) i).2.2.2.2.1
        have hv := H_table h hn (firstT_at hj hlt he)
        extract_lets -merge +onlyGivenNames y18
        have e_y : y18 = _ := (congrArg RS.get e1).trans (get_some _)
        clear_value y18; subst e_y
        refine stepC' e1 ?_
        refine stepT' (decide_eq_true (by show (0 : Int) ≤ (i : Int) ∧ (i : Int) < ((cT c).length : Int); omega)) ?_
        extract_lets -merge +onlyGivenNames y19
        have e_y : y19 = _ := (congrArg RS.get e2).trans (get_some _)
        clear_value y19; subst e_y
        refine stepC' e2 ?_
        refine Eq.trans (L_BP5 _ h hn id FUEL 0 _ (by omega) (fuel_big (by omega))) ?_
        rw [List.drop_zero]
        have hin : InR (((cE c).filter fun x => decide (x.1 = id)).foldl (fun n x => mx n (HC c (1, (eB x, ())))) (HC c (1, ((rdd zTableS (cT c) i).2.2.2.2.1, ())))) := by
          have : ∀ (l : List EntryS) (n : Int), InR n → InR (l.foldl (fun n x => mx n (HC c (1, (eB x, ())))) n) := by
            intro l
            induction l with
            | nil => intro n h; exact h
            | cons x r ih => intro n h; exact ih _ (mx_in h (H_in _ _ _ _))
          exact this _ _ (H_in _ _ _ _)
        show kr (HC c (0, (id, ())) == (if (IntKind.wrap .i64 ((1 : Int) + ((cE c).filter fun x => decide (x.1 = id)).foldl (fun n x => mx n (HC c (1, (eB x, ())))) (HC c (1, ((rdd zTableS (cT c) i).2.2.2.2.1, ()))))) < (65537 : Int) then (IntKind.wrap .i64 ((1 : Int) + ((cE c).filter fun x => decide (x.1 = id)).foldl (fun n x => mx n (HC c (1, (eB x, ())))) (HC c (1, ((rdd zTableS (cT c) i).2.2.2.2.1, ()))))) else (65537 : Int))) = _
        rw [cutW hin, beqSelf hv]
      · rcases L_BP3 kr kt h hn id m (i + 1) (by omega) (by omega) (fun j hj' => by
          by_cases e : j = i
          · rw [e]; exact he
          · exact hj j (by omega)) with e | e
        · left
          refine stepT' (decide_eq_true (by show (i : Int) < ((cT c).length : Int); omega)) ?_
          refine stepT' (decide_eq_true (by show (0 : Int) ≤ (i : Int) ∧ (i : Int) < ((cT c).length : Int); omega)) ?_
          rw [toNat_cast]
          refine stepT' (by show ((rdd zTableS (cT c) i).1 != id) = true; rw [int_bne, decide_eq_false he]; rfl) ?_
          rw [i64_succ (by omega)]
          exact e
        · right
          refine stepT' (decide_eq_true (by show (i : Int) < ((cT c).length : Int); omega)) ?_
          refine stepT' (decide_eq_true (by show (0 : Int) ≤ (i : Int) ∧ (i : Int) < ((cT c).length : Int); omega)) ?_
          rw [toNat_cast]
          refine stepT' (by show ((rdd zTableS (cT c) i).1 != id) = true; rw [int_bne, decide_eq_false he]; rfl) ?_
          rw [i64_succ (by omega)]
          exact e
    · left
      refine stepF' (decide_eq_false (by show ¬ (i : Int) < ((cT c).length : Int); omega)) ?_
      rfl
end Go.AMach

/- Layer 24: BoundParts: the blocks; the law. -/
namespace Go.AMach
set_option linter.unusedVariables false
set_option linter.unusedSimpArgs false
set_option linter.unnecessarySimpa false
open Go
set_option linter.unusedVariables false

theorem mkCons (B : List BlockS) (v : BlockS) : mkL (1 + B.length) (fun i => (if i < 1 then v else (rdd zBlockS B (i - 1)))) = v :: B := by
  apply List.ext_getElem?
  intro i
  by_cases hi : i < 1 + B.length
  · rw [mkL_get hi]
    cases i with
    | zero => rfl
    | succ j =>
      have hj : j < B.length := by omega
      rw [if_neg (by omega), List.getElem?_cons_succ, List.getElem?_eq_getElem hj]
      show some (rdd zBlockS B j) = _
      rw [rdd_lt hj]
  · rw [List.getElem?_eq_none (by rw [mkL_length]; omega), List.getElem?_eq_none (by rw [List.length_cons]; omega)]
theorem cutTail (l : List InstrS) (h : 1 ≤ l.length) : cutL zInstrS l (Int.toNat (1 : Int)) (Int.toNat ((l.length : Nat) : Int) - Int.toNat (1 : Int)) = l.drop 1 := by
  show cutL zInstrS l 1 (Int.toNat ((l.length : Nat) : Int) - 1) = _
  rw [toNat_cast, cutL_eq (by omega), List.take_of_length_le (by simp)]

theorem L_BP0 (kt : Unit → Option Res) (kr : Bool → Option Res) {c : ConfigS} (h : Cfg c) (h60 : (cB c).length ≤ 60) (hn : ¬ RingC c) (id : Int) : ∀ (m i : Nat), i ≤ (cB c).length → (cB c).length - i < m → (∀ j, j < i → (rdd zBlockS (cB c) j).1 ≠ id) →
    L_z0v_0 FUEL kt kr id c m (i : Int) = kt () ∨ L_z0v_0 FUEL kt kr id c m (i : Int) = kr true
  | 0, _, _, h, _ => by omega
  | m + 1, i, hi, hm, hj => by
    show F_z0v_0 FUEL kt kr id c (L_z0v_0 FUEL kt kr id c m) (i : Int) = _ ∨ F_z0v_0 FUEL kt kr id c (L_z0v_0 FUEL kt kr id c m) (i : Int) = _
    unfold F_z0v_0
    by_cases hlt : i < (cB c).length
    · have pre : ∀ {A B X : Option Res}, A = X → cond (decide ((i : Int) < ((cB c).length : Int))) (cond (decide ((0 : Int) ≤ (i : Int) ∧ (i : Int) < ((cB c).length : Int))) (cond (decide ((0 : Int) ≤ (i : Int) ∧ (i : Int) < ((cB c).length : Int))) A none) none) B = X := fun hA =>
        stepT' (decide_eq_true (by omega)) (stepT' (decide_eq_true (by omega)) (stepT' (decide_eq_true (by omega)) hA))
      rw [toNat_cast]
      by_cases he : (rdd zBlockS (cB c) i).1 = id
      · have hne : ((rdd zBlockS (cB c) i).1 != id) = false := by rw [int_bne, decide_eq_true he]; rfl
        have hf := firstB_at hj hlt he
        have hcode := h.code _ (rdd_mem (d := zBlockS) hlt)
        generalize hx : (rdd zBlockS (cB c) i).2.1 = l at *
        cases l with
        | nil =>
          left
          refine pre ?_
          refine stepF' hne ?_
          exact stepT' rfl rfl
        | cons x r =>
          have h0 : ((((x :: r : List InstrS).length : Nat) : Int) == (0 : Int)) = false := beqF' (by simp only [List.length_cons]; omega)
          have hp : decide ((0 : Int) ≤ (0 : Int) ∧ (0 : Int) < (((x :: r : List InstrS).length : Nat) : Int)) = true := decide_eq_true (by simp only [List.length_cons]; omega)
          have e0 : rdd zInstrS (x :: r) 0 = x := rfl
          by_cases c12 : x.1 = 12
          · left
            refine pre ?_
            refine stepF' hne ?_
            refine stepF' h0 ?_
            refine stepT' hp ?_
            refine stepT' (beqT' (by rw [e0]; exact c12)) ?_
            rfl
          · right
            have hv := H_block h hn hf hx
            have e7 := Q_Block' h hn id
            have hin : ∀ y, InR (HC c y) := H_in _ _ _
            have hinL := codeL_in hin r
            refine pre ?_
            refine stepF' hne ?_
            refine stepF' h0 ?_
            refine stepT' hp ?_
            refine stepF' (beqF' (by rw [e0]; exact c12)) ?_
            extract_lets -merge +onlyGivenNames y7
            have e_y : y7 = _ := (congrArg RS.get e7).trans (get_some _)
            clear_value y7; subst e_y
            refine stepC' e7 ?_
            refine stepT' hp ?_
            rw [e0]
            by_cases c13 : x.1 = 13
            · refine stepT' (beqT' c13) ?_
              refine stepT' hp ?_
              have e8 := Q_Table' h hn x.2.2.2.2.1
              extract_lets -merge +onlyGivenNames y8
              have e_y : y8 = _ := (congrArg RS.get e8).trans (get_some _)
              clear_value y8; subst e_y
              refine stepC' e8 ?_
              show kr (HC c (1, (id, ())) == (if (IntKind.wrap .i64 ((1 : Int) + HC c (0, (x.2.2.2.2.1, ())))) < (65537 : Int) then (IntKind.wrap .i64 ((1 : Int) + HC c (0, (x.2.2.2.2.1, ())))) else (65537 : Int))) = _
              rw [cutW (hin _), beqSelf]
              rw [hv]; unfold nextI
              rw [if_neg (by omega), if_neg (by omega), if_pos c13]
            refine stepF' (beqF' c13) ?_
            by_cases c14 : x.1 = 14
            · refine stepT' (beqT' c14) ?_
              refine stepT' hp ?_
              have e8 := Q_Group' h hn x.2.2.2.2.1
              extract_lets -merge +onlyGivenNames y10
              have e_y : y10 = _ := (congrArg RS.get e8).trans (get_some _)
              clear_value y10; subst e_y
              refine stepC' e8 ?_
              show kr (HC c (1, (id, ())) == (if (IntKind.wrap .i64 ((1 : Int) + HC c (2, (x.2.2.2.2.1, ())))) < (65537 : Int) then (IntKind.wrap .i64 ((1 : Int) + HC c (2, (x.2.2.2.2.1, ())))) else (65537 : Int))) = _
              rw [cutW (hin _), beqSelf]
              rw [hv]; unfold nextI
              rw [if_neg (by omega), if_neg (by omega), if_neg c13, if_pos c14]
            refine stepF' (beqF' c14) ?_
            by_cases c23 : x.1 = 23
            · refine stepT' (beqT' c23) ?_
              show kr (HC c (1, (id, ())) == (if (IntKind.wrap .i64 ((1 : Int) + 0)) < (65537 : Int) then (IntKind.wrap .i64 ((1 : Int) + 0)) else (65537 : Int))) = _
              rw [cutW ⟨by omega, by omega⟩, beqSelf]
              rw [hv]; unfold nextI
              rw [if_pos c23]
            refine stepF' (beqF' c23) ?_
            by_cases c22 : x.1 = 22
            · refine stepT' (beqT' c22) ?_
              show kr (HC c (1, (id, ())) == (if (IntKind.wrap .i64 ((1 : Int) + 0)) < (65537 : Int) then (IntKind.wrap .i64 ((1 : Int) + 0)) else (65537 : Int))) = _
              rw [cutW ⟨by omega, by omega⟩, beqSelf]
              rw [hv]; unfold nextI
              rw [if_neg c23, if_pos c22]
            refine stepF' (beqF' c22) ?_
            have hcfg : Cfg (restC c id r) := ⟨h.t, h.e, by show (cB c).length + 1 ≤ 1000; omega, h.g, fun z hz => by
              rcases List.mem_cons.1 hz with rfl | hz
              · show r.length ≤ 100000
                simp only [List.length_cons] at hcode; omega
              · exact h.code z hz, h.buck⟩
            have hnd := rest_ring hf hx hn
            have e16 := Q_Block' hcfg hnd id
            have hr := H_rest h hn hf hx hcfg
            refine stepT' (decide_eq_true (by simp only [List.length_cons]; omega)) ?_
            refine stepF' (by show ((cB c).length == 0) = false; exact beq_false_of_ne (by omega)) ?_
            have esz : decide ((1 + (cB c).length) * 32 ≤ 2 ^ 46 ∧ (1 + (cB c).length) ≤ 2 ^ 46) = true := decide_eq_true ⟨by omega, by omega⟩
            refine stepT' esz ?_
            rw [cutTail (x :: r) (by simp), mkCons]
            extract_lets -merge +onlyGivenNames y16
            have e_y : y16 = _ := (congrArg RS.get e16).trans (get_some _)
            clear_value y16; subst e_y
            refine stepC' e16 ?_
            show kr (HC c (1, (id, ())) == (if (IntKind.wrap .i64 ((1 : Int) + HC (restC c id r) (1, (id, ())))) < (65537 : Int) then (IntKind.wrap .i64 ((1 : Int) + HC (restC c id r) (1, (id, ())))) else (65537 : Int))) = _
            rw [cutW (show InR (HC (restC c id r) (1, (id, ()))) from H_in _ _ _ _), beqSelf]
            rw [hv, hr]; unfold nextI
            rw [if_neg c23, if_neg c22, if_neg c13, if_neg c14, if_neg c12]
      · have hne : ((rdd zBlockS (cB c) i).1 != id) = true := by rw [int_bne, decide_eq_false he]; rfl
        rcases L_BP0 kt kr h h60 hn id m (i + 1) (by omega) (by omega) (fun j hj' => by
          by_cases e : j = i
          · rw [e]; exact he
          · exact hj j (by omega)) with e | e
        · left
          refine pre ?_
          refine stepT' hne ?_
          rw [i64_succ (by omega)]
          exact e
        · right
          refine pre ?_
          refine stepT' hne ?_
          rw [i64_succ (by omega)]
          exact e
    · left
      refine stepF' (decide_eq_false (by show ¬ (i : Int) < ((cB c).length : Int); omega)) ?_
      rfl

open Classical in
theorem Pure.BoundParts (c : ConfigS) (hg : ConfigT.good c) (id : Int) (hid : (Ty.int .i64).good id) : Q_z0v c id = some ((true, ()), ()) := by
  refine fin ?_
  unfold M_z0v
  have el := Q_large (cfg_len hg)
  have ya : q_z0s = ((true, ()), ()) := (congrArg RS.get awake24).trans (get_some _)
  extract_lets -merge +onlyGivenNames y1
  have e_y : y1 = _ := (congrArg RS.get el).trans (get_some _)
  clear_value y1; subst e_y
  refine stepC' el ?_
  cases hl : largeV c with
  | true =>
    refine stepT' rfl ?_
    rw [ya]
    exact awakeC rfl
  | false =>
    refine stepF' rfl ?_
    obtain ⟨hc, hn60, harm⟩ := largeV_cfg hl
    have h60 : (cB c).length ≤ 60 := by
      unfold largeV at hl
      by_cases c6 : (cntC c : Int) > 60
      · rw [if_pos c6] at hl; cases hl
      · unfold cntC at c6; omega
    have eC := Q_Cycle hc
    extract_lets -merge +onlyGivenNames y3
    have e_y : y3 = _ := (congrArg RS.get eC).trans (get_some _)
    clear_value y3; subst e_y
    refine stepC' eC ?_
    by_cases hr : RingC c
    · refine stepT' (decide_eq_true hr) ?_
      rw [ya]
      exact awakeC rfl
    · refine stepF' (decide_eq_false hr) ?_
      rw [ya]
      extract_lets -merge +onlyGivenNames y5
      refine awakeC ?_
      refine stepF' rfl ?_
      rcases L_BP0 (fun _ => L_z0v_3 FUEL (fun y23 => some (encRes ro_z0v rh_z0v ((y23, ()), ()))) (fun _ => some (encRes ro_z0v rh_z0v ((true, ()), ()))) id c FUEL (0 : Int))
        (fun y24 => some (encRes ro_z0v rh_z0v ((y24, ()), ()))) hc h60 hr id FUEL 0 (by omega) (fuel_big (by omega)) (fun j hj => by omega) with e | e
      · refine Eq.trans e ?_
        rcases L_BP3 (fun y23 => some (encRes ro_z0v rh_z0v ((y23, ()), ()))) (fun _ => some (encRes ro_z0v rh_z0v ((true, ()), ()))) hc hr id FUEL 0 (by omega) (fuel_big (by have := hc.t; omega)) (fun j hj => by omega) with e | e
        · exact e
        · exact e
      · exact e
end Go.AMach
