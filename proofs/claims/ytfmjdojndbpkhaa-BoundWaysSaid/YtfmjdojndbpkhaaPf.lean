/- Parts of the proof. -/
import Derived.Test.YtfmjdojndbpkhaaPe
import Derived.KernelRfl
/- Layer 24: BoundParts, the law. -/
namespace Go.AMach
set_option linter.unusedVariables false
set_option linter.unusedSimpArgs false
set_option linter.unnecessarySimpa false
open Go
set_option linter.unusedVariables false

theorem Q_Block' {c : ConfigS} (h : Cfg c) (hn : ¬ RingC c) (k : Int) : Q_z0a c k = some ((HC c (1, (k, ())), (0, ())), ()) := by
  have := Q_Block h k
  have e : ofV c (1, (k, ())) = (HC c (1, (k, ())), 0) := by unfold ofV; rw [if_neg hn]
  rw [e] at this; exact this
theorem Q_Table' {c : ConfigS} (h : Cfg c) (hn : ¬ RingC c) (k : Int) : Q_z0b c k = some ((HC c (0, (k, ())), (0, ())), ()) := by
  have := Q_Table h k
  have e : ofV c (0, (k, ())) = (HC c (0, (k, ())), 0) := by unfold ofV; rw [if_neg hn]
  rw [e] at this; exact this
theorem Q_Group' {c : ConfigS} (h : Cfg c) (hn : ¬ RingC c) (k : Int) : Q_z0c c k = some ((HC c (2, (k, ())), (0, ())), ()) := by
  have := Q_Group h k
  have e : ofV c (2, (k, ())) = (HC c (2, (k, ())), 0) := by unfold ofV; rw [if_neg hn]
  rw [e] at this; exact this
theorem cutW {x : Int} (h : InR x) : (if (IntKind.wrap .i64 ((1 : Int) + x)) < (65537 : Int) then (IntKind.wrap .i64 ((1 : Int) + x)) else (65537 : Int)) = cut7 (1 + x) := by
  rw [i64_id (by unfold InR at h; omega)]; rfl
theorem beqSelf {a b : Int} (h : a = b) : (a == b) = true := beqT' h

/-! ### The table -/
theorem L_BP5 (kt : Int → Option Res) {c : ConfigS} (h : Cfg c) (hn : ¬ RingC c) (id : Int) : ∀ (m i : Nat) (n : Int), i ≤ (cE c).length → (cE c).length - i < m →
    L_z10_5 FUEL kt id c m n (i : Int) = kt ((((cE c).drop i).filter fun x => decide (x.1 = id)).foldl (fun n x => mx n (HC c (1, (eB x, ())))) n)
  | 0, _, _, _, h => by omega
  | m + 1, i, n, hi, hm => by
    have hle := h.e
    show F_z10_5 FUEL kt id c (L_z10_5 FUEL kt id c m) n (i : Int) = _
    unfold F_z10_5
    by_cases hlt : i < (cE c).length
    · refine stepT' (decide_eq_true (by show (i : Int) < ((cE c).length : Int); omega)) ?_
      refine stepT' (decide_eq_true (by show (0 : Int) ≤ (i : Int) ∧ (i : Int) < ((cE c).length : Int); omega)) ?_
      rw [toNat_cast, drop_rdd zEntryS hlt, List.filter_cons]
      by_cases he : (rdd zEntryS (cE c) i).1 = id
      · refine stepT' (beqT' he) ?_
        refine stepT' (decide_eq_true (by show (0 : Int) ≤ (i : Int) ∧ (i : Int) < ((cE c).length : Int); omega)) ?_
        have e1 := Q_Block' h hn (rdd zEntryS (cE c) i).2.2.2.2.2.1
        extract_lets -merge +onlyGivenNames y20
        have e_y : y20 = _ := (congrArg RS.get e1).trans (get_some _)
        clear_value y20; subst e_y
        refine stepC' e1 ?_
        rw [i64_succ (by omega), if_pos (decide_eq_true he), List.foldl_cons]
        exact L_BP5 kt h hn id m (i + 1) (mx n (HC c (1, (eB (rdd zEntryS (cE c) i), ())))) (by omega) (by omega)
      · refine stepF' (beqF' he) ?_
        rw [i64_succ (by omega), if_neg (by rw [decide_eq_false he]; decide)]
        exact L_BP5 kt h hn id m (i + 1) n (by omega) (by omega)
    · refine stepF' (decide_eq_false (by show ¬ (i : Int) < ((cE c).length : Int); omega)) ?_
      rw [List.drop_of_length_le (by omega)]
      rfl
theorem L_BP3 (kr : Bool → Option Res) (kt : Unit → Option Res) {c : ConfigS} (h : Cfg c) (hn : ¬ RingC c) (id : Int) : ∀ (m i : Nat), i ≤ (cT c).length → (cT c).length - i < m → (∀ j, j < i → (rdd zTableS (cT c) j).1 ≠ id) →
    L_z10_3 FUEL kr kt id c m (i : Int) = kt () ∨ L_z10_3 FUEL kr kt id c m (i : Int) = kr true
  | 0, _, _, h, _ => by omega
  | m + 1, i, hi, hm, hj => by
    have hle := h.t
    have hle2 := h.e
    show F_z10_3 FUEL kr kt id c (L_z10_3 FUEL kr kt id c m) (i : Int) = _ ∨ F_z10_3 FUEL kr kt id c (L_z10_3 FUEL kr kt id c m) (i : Int) = _
    unfold F_z10_3
    by_cases hlt : i < (cT c).length
    · by_cases he : (rdd zTableS (cT c) i).1 = id
      · right
        refine stepT' (decide_eq_true (by show (i : Int) < ((cT c).length : Int); omega)) ?_
        refine stepT' (decide_eq_true (by show (0 : Int) ≤ (i : Int) ∧ (i : Int) < ((cT c).length : Int); omega)) ?_
        rw [toNat_cast]
        refine stepF' (by show ((rdd zTableS (cT c) i).1 != id) = false; rw [int_bne, decide_eq_true he]; rfl) ?_
        have e1 := Q_Table' h hn id
        have e2 := Q_Block' h hn (rdd zTableS (cT c) i).2.2.2.2.1
        have hv := H_table h hn (firstT_at hj hlt he)
        extract_lets -merge +onlyGivenNames y18
        have e_y : y18 = _ := (congrArg RS.get e1).trans (get_some _)
        clear_value y18; subst e_y
        refine stepC' e1 ?_
        refine stepT' (decide_eq_true (by show (0 : Int) ≤ (i : Int) ∧ (i : Int) < ((cT c).length : Int); omega)) ?_
        extract_lets -merge +onlyGivenNames y19
        have e_y : y19 = _ := (congrArg RS.get e2).trans (get_some _)
        clear_value y19; subst e_y
        refine stepC' e2 ?_
        refine Eq.trans (L_BP5 _ h hn id FUEL 0 _ (by omega) (fuel_big (by omega))) ?_
        rw [List.drop_zero]
        have hin : InR (((cE c).filter fun x => decide (x.1 = id)).foldl (fun n x => mx n (HC c (1, (eB x, ())))) (HC c (1, ((rdd zTableS (cT c) i).2.2.2.2.1, ())))) := by
          have : ∀ (l : List EntryS) (n : Int), InR n → InR (l.foldl (fun n x => mx n (HC c (1, (eB x, ())))) n) := by
            intro l
            induction l with
            | nil => intro n h; exact h
            | cons x r ih => intro n h; exact ih _ (mx_in h (H_in _ _ _ _))
          exact this _ _ (H_in _ _ _ _)
        show kr (HC c (0, (id, ())) == (if (IntKind.wrap .i64 ((1 : Int) + ((cE c).filter fun x => decide (x.1 = id)).foldl (fun n x => mx n (HC c (1, (eB x, ())))) (HC c (1, ((rdd zTableS (cT c) i).2.2.2.2.1, ()))))) < (65537 : Int) then (IntKind.wrap .i64 ((1 : Int) + ((cE c).filter fun x => decide (x.1 = id)).foldl (fun n x => mx n (HC c (1, (eB x, ())))) (HC c (1, ((rdd zTableS (cT c) i).2.2.2.2.1, ()))))) else (65537 : Int))) = _
        rw [cutW hin, beqSelf hv]
      · rcases L_BP3 kr kt h hn id m (i + 1) (by omega) (by omega) (fun j hj' => by
          by_cases e : j = i
          · rw [e]; exact he
          · exact hj j (by omega)) with e | e
        · left
          refine stepT' (decide_eq_true (by show (i : Int) < ((cT c).length : Int); omega)) ?_
          refine stepT' (decide_eq_true (by show (0 : Int) ≤ (i : Int) ∧ (i : Int) < ((cT c).length : Int); omega)) ?_
          rw [toNat_cast]
          refine stepT' (by show ((rdd zTableS (cT c) i).1 != id) = true; rw [int_bne, decide_eq_false he]; rfl) ?_
          rw [i64_succ (by omega)]
          exact e
        · right
          refine stepT' (decide_eq_true (by show (i : Int) < ((cT c).length : Int); omega)) ?_
          refine stepT' (decide_eq_true (by show (0 : Int) ≤ (i : Int) ∧ (i : Int) < ((cT c).length : Int); omega)) ?_
          rw [toNat_cast]
          refine stepT' (by show ((rdd zTableS (cT c) i).1 != id) = true; rw [int_bne, decide_eq_false he]; rfl) ?_
          rw [i64_succ (by omega)]
          exact e
    · left
      refine stepF' (decide_eq_false (by show ¬ (i : Int) < ((cT c).length : Int); omega)) ?_
      rfl
end Go.AMach

/- Layer 24: BoundParts: the blocks; the law. -/
namespace Go.AMach
set_option linter.unusedVariables false
set_option linter.unusedSimpArgs false
set_option linter.unnecessarySimpa false
open Go
set_option linter.unusedVariables false

theorem mkCons (B : List BlockS) (v : BlockS) : mkL (1 + B.length) (fun i => (if i < 1 then v else (rdd zBlockS B (i - 1)))) = v :: B := by
  apply List.ext_getElem?
  intro i
  by_cases hi : i < 1 + B.length
  · rw [mkL_get hi]
    cases i with
    | zero => rfl
    | succ j =>
      have hj : j < B.length := by omega
      rw [if_neg (by omega), List.getElem?_cons_succ, List.getElem?_eq_getElem hj]
      show some (rdd zBlockS B j) = _
      rw [rdd_lt hj]
  · rw [List.getElem?_eq_none (by rw [mkL_length]; omega), List.getElem?_eq_none (by rw [List.length_cons]; omega)]
theorem cutTail (l : List InstrS) (h : 1 ≤ l.length) : cutL zInstrS l (Int.toNat (1 : Int)) (Int.toNat ((l.length : Nat) : Int) - Int.toNat (1 : Int)) = l.drop 1 := by
  show cutL zInstrS l 1 (Int.toNat ((l.length : Nat) : Int) - 1) = _
  rw [toNat_cast, cutL_eq (by omega), List.take_of_length_le (by simp)]

theorem L_BP0 (kt : Unit → Option Res) (kr : Bool → Option Res) {c : ConfigS} (h : Cfg c) (h60 : (cB c).length ≤ 60) (hn : ¬ RingC c) (id : Int) : ∀ (m i : Nat), i ≤ (cB c).length → (cB c).length - i < m → (∀ j, j < i → (rdd zBlockS (cB c) j).1 ≠ id) →
    L_z10_0 FUEL kt kr id c m (i : Int) = kt () ∨ L_z10_0 FUEL kt kr id c m (i : Int) = kr true
  | 0, _, _, h, _ => by omega
  | m + 1, i, hi, hm, hj => by
    show F_z10_0 FUEL kt kr id c (L_z10_0 FUEL kt kr id c m) (i : Int) = _ ∨ F_z10_0 FUEL kt kr id c (L_z10_0 FUEL kt kr id c m) (i : Int) = _
    unfold F_z10_0
    by_cases hlt : i < (cB c).length
    · have pre : ∀ {A B X : Option Res}, A = X → cond (decide ((i : Int) < ((cB c).length : Int))) (cond (decide ((0 : Int) ≤ (i : Int) ∧ (i : Int) < ((cB c).length : Int))) (cond (decide ((0 : Int) ≤ (i : Int) ∧ (i : Int) < ((cB c).length : Int))) A none) none) B = X := fun hA =>
        stepT' (decide_eq_true (by omega)) (stepT' (decide_eq_true (by omega)) (stepT' (decide_eq_true (by omega)) hA))
      rw [toNat_cast]
      by_cases he : (rdd zBlockS (cB c) i).1 = id
      · have hne : ((rdd zBlockS (cB c) i).1 != id) = false := by rw [int_bne, decide_eq_true he]; rfl
        have hf := firstB_at hj hlt he
        have hcode := h.code _ (rdd_mem (d := zBlockS) hlt)
        generalize hx : (rdd zBlockS (cB c) i).2.1 = l at *
        cases l with
        | nil =>
          left
          refine pre ?_
          refine stepF' hne ?_
          exact stepT' rfl rfl
        | cons x r =>
          have h0 : ((((x :: r : List InstrS).length : Nat) : Int) == (0 : Int)) = false := beqF' (by simp only [List.length_cons]; omega)
          have hp : decide ((0 : Int) ≤ (0 : Int) ∧ (0 : Int) < (((x :: r : List InstrS).length : Nat) : Int)) = true := decide_eq_true (by simp only [List.length_cons]; omega)
          have e0 : rdd zInstrS (x :: r) 0 = x := rfl
          by_cases c12 : x.1 = 12
          · left
            refine pre ?_
            refine stepF' hne ?_
            refine stepF' h0 ?_
            refine stepT' hp ?_
            refine stepT' (beqT' (by rw [e0]; exact c12)) ?_
            rfl
          · right
            have hv := H_block h hn hf hx
            have e7 := Q_Block' h hn id
            have hin : ∀ y, InR (HC c y) := H_in _ _ _
            have hinL := codeL_in hin r
            refine pre ?_
            refine stepF' hne ?_
            refine stepF' h0 ?_
            refine stepT' hp ?_
            refine stepF' (beqF' (by rw [e0]; exact c12)) ?_
            extract_lets -merge +onlyGivenNames y7
            have e_y : y7 = _ := (congrArg RS.get e7).trans (get_some _)
            clear_value y7; subst e_y
            refine stepC' e7 ?_
            refine stepT' hp ?_
            rw [e0]
            by_cases c13 : x.1 = 13
            · refine stepT' (beqT' c13) ?_
              refine stepT' hp ?_
              have e8 := Q_Table' h hn x.2.2.2.2.1
              extract_lets -merge +onlyGivenNames y8
              have e_y : y8 = _ := (congrArg RS.get e8).trans (get_some _)
              clear_value y8; subst e_y
              refine stepC' e8 ?_
              show kr (HC c (1, (id, ())) == (if (IntKind.wrap .i64 ((1 : Int) + HC c (0, (x.2.2.2.2.1, ())))) < (65537 : Int) then (IntKind.wrap .i64 ((1 : Int) + HC c (0, (x.2.2.2.2.1, ())))) else (65537 : Int))) = _
              rw [cutW (hin _), beqSelf]
              rw [hv]; unfold nextI
              rw [if_neg (by omega), if_neg (by omega), if_pos c13]
            refine stepF' (beqF' c13) ?_
            by_cases c14 : x.1 = 14
            · refine stepT' (beqT' c14) ?_
              refine stepT' hp ?_
              have e8 := Q_Group' h hn x.2.2.2.2.1
              extract_lets -merge +onlyGivenNames y10
              have e_y : y10 = _ := (congrArg RS.get e8).trans (get_some _)
              clear_value y10; subst e_y
              refine stepC' e8 ?_
              show kr (HC c (1, (id, ())) == (if (IntKind.wrap .i64 ((1 : Int) + HC c (2, (x.2.2.2.2.1, ())))) < (65537 : Int) then (IntKind.wrap .i64 ((1 : Int) + HC c (2, (x.2.2.2.2.1, ())))) else (65537 : Int))) = _
              rw [cutW (hin _), beqSelf]
              rw [hv]; unfold nextI
              rw [if_neg (by omega), if_neg (by omega), if_neg c13, if_pos c14]
            refine stepF' (beqF' c14) ?_
            by_cases c23 : x.1 = 23
            · refine stepT' (beqT' c23) ?_
              show kr (HC c (1, (id, ())) == (if (IntKind.wrap .i64 ((1 : Int) + 0)) < (65537 : Int) then (IntKind.wrap .i64 ((1 : Int) + 0)) else (65537 : Int))) = _
              rw [cutW ⟨by omega, by omega⟩, beqSelf]
              rw [hv]; unfold nextI
              rw [if_pos c23]
            refine stepF' (beqF' c23) ?_
            by_cases c22 : x.1 = 22
            · refine stepT' (beqT' c22) ?_
              show kr (HC c (1, (id, ())) == (if (IntKind.wrap .i64 ((1 : Int) + 0)) < (65537 : Int) then (IntKind.wrap .i64 ((1 : Int) + 0)) else (65537 : Int))) = _
              rw [cutW ⟨by omega, by omega⟩, beqSelf]
              rw [hv]; unfold nextI
              rw [if_neg c23, if_pos c22]
            refine stepF' (beqF' c22) ?_
            have hcfg : Cfg (restC c id r) := ⟨h.t, h.e, by show (cB c).length + 1 ≤ 1000; omega, h.g, fun z hz => by
              rcases List.mem_cons.1 hz with rfl | hz
              · show r.length ≤ 100000
                simp only [List.length_cons] at hcode; omega
              · exact h.code z hz, h.buck⟩
            have hnd := rest_ring hf hx hn
            have e16 := Q_Block' hcfg hnd id
            have hr := H_rest h hn hf hx hcfg
            refine stepT' (decide_eq_true (by simp only [List.length_cons]; omega)) ?_
            refine stepF' (by show ((cB c).length == 0) = false; exact beq_false_of_ne (by omega)) ?_
            have esz : decide ((1 + (cB c).length) * 32 ≤ 2 ^ 46 ∧ (1 + (cB c).length) ≤ 2 ^ 46) = true := decide_eq_true ⟨by omega, by omega⟩
            refine stepT' esz ?_
            rw [cutTail (x :: r) (by simp), mkCons]
            extract_lets -merge +onlyGivenNames y16
            have e_y : y16 = _ := (congrArg RS.get e16).trans (get_some _)
            clear_value y16; subst e_y
            refine stepC' e16 ?_
            show kr (HC c (1, (id, ())) == (if (IntKind.wrap .i64 ((1 : Int) + HC (restC c id r) (1, (id, ())))) < (65537 : Int) then (IntKind.wrap .i64 ((1 : Int) + HC (restC c id r) (1, (id, ())))) else (65537 : Int))) = _
            rw [cutW (show InR (HC (restC c id r) (1, (id, ()))) from H_in _ _ _ _), beqSelf]
            rw [hv, hr]; unfold nextI
            rw [if_neg c23, if_neg c22, if_neg c13, if_neg c14, if_neg c12]
      · have hne : ((rdd zBlockS (cB c) i).1 != id) = true := by rw [int_bne, decide_eq_false he]; rfl
        rcases L_BP0 kt kr h h60 hn id m (i + 1) (by omega) (by omega) (fun j hj' => by
          by_cases e : j = i
          · rw [e]; exact he
          · exact hj j (by omega)) with e | e
        · left
          refine pre ?_
          refine stepT' hne ?_
          rw [i64_succ (by omega)]
          exact e
        · right
          refine pre ?_
          refine stepT' hne ?_
          rw [i64_succ (by omega)]
          exact e
    · left
      refine stepF' (decide_eq_false (by show ¬ (i : Int) < ((cB c).length : Int); omega)) ?_
      rfl

open Classical in
theorem Pure.BoundParts (c : ConfigS) (hg : ConfigT.good c) (id : Int) (hid : (Ty.int .i64).good id) : Q_z10 c id = some ((true, ()), ()) := by
  refine fin ?_
  unfold M_z10
  have el := Q_large (cfg_len hg)
  have ya : q_z0s = ((true, ()), ()) := (congrArg RS.get awake24).trans (get_some _)
  extract_lets -merge +onlyGivenNames y1
  have e_y : y1 = _ := (congrArg RS.get el).trans (get_some _)
  clear_value y1; subst e_y
  refine stepC' el ?_
  cases hl : largeV c with
  | true =>
    refine stepT' rfl ?_
    rw [ya]
    exact awakeC rfl
  | false =>
    refine stepF' rfl ?_
    obtain ⟨hc, hn60, harm⟩ := largeV_cfg hl
    have h60 : (cB c).length ≤ 60 := by
      unfold largeV at hl
      by_cases c6 : (cntC c : Int) > 60
      · rw [if_pos c6] at hl; cases hl
      · unfold cntC at c6; omega
    have eC := Q_Cycle hc
    extract_lets -merge +onlyGivenNames y3
    have e_y : y3 = _ := (congrArg RS.get eC).trans (get_some _)
    clear_value y3; subst e_y
    refine stepC' eC ?_
    by_cases hr : RingC c
    · refine stepT' (decide_eq_true hr) ?_
      rw [ya]
      exact awakeC rfl
    · refine stepF' (decide_eq_false hr) ?_
      rw [ya]
      extract_lets -merge +onlyGivenNames y5
      refine awakeC ?_
      refine stepF' rfl ?_
      rcases L_BP0 (fun _ => L_z10_3 FUEL (fun y23 => some (encRes ro_z10 rh_z10 ((y23, ()), ()))) (fun _ => some (encRes ro_z10 rh_z10 ((true, ()), ()))) id c FUEL (0 : Int))
        (fun y24 => some (encRes ro_z10 rh_z10 ((y24, ()), ()))) hc h60 hr id FUEL 0 (by omega) (fuel_big (by omega)) (fun j hj => by omega) with e | e
      · refine Eq.trans e ?_
        rcases L_BP3 (fun y23 => some (encRes ro_z10 rh_z10 ((y23, ()), ()))) (fun _ => some (encRes ro_z10 rh_z10 ((true, ()), ()))) hc hr id FUEL 0 (by omega) (fuel_big (by have := hc.t; omega)) (fun j hj => by omega) with e | e
        · exact e
        · exact e
      · exact e
end Go.AMach

/- The walker: picks, groups. -/
namespace Go.AMach
set_option linter.unusedVariables false
set_option linter.unusedSimpArgs false
set_option linter.unnecessarySimpa false
set_option linter.unusedVariables false
set_option linter.unusedSimpArgs false

abbrev WF := Int → (List NodeS) → (List FieldS) → (List TableS) → (List EntryS) → (List BlockS) → (List GroupS) → (List SpanS) → (List ObjS) → (List Int) → (List Int) → Int → Option (RS ro_z0x rh_z0x)
abbrev wR (n : Int) (c : ConfigS) (p : List Int) (a : Int) : RS ro_z0x rh_z0x :=
  ((n, ()), ((c.1, (c.2.1, (c.2.2.1, (c.2.2.2.1, (c.2.2.2.2.1, (c.2.2.2.2.2.1, (c.2.2.2.2.2.2.1, (c.2.2.2.2.2.2.2.1, (c.2.2.2.2.2.2.2.2.1, (p, (a, ()))))))))))), ()))
abbrev ap (q : WF) (id : Int) (c : ConfigS) (p : List Int) (a : Int) := q id c.1 c.2.1 c.2.2.1 c.2.2.2.1 c.2.2.2.2.1 c.2.2.2.2.2.1 c.2.2.2.2.2.2.1 c.2.2.2.2.2.2.2.1 c.2.2.2.2.2.2.2.2.1 p a
abbrev AtOk (p : List Int) (a : Int) : Prop := 0 ≤ a ∧ a ≤ p.length
structure Pk (p : List Int) : Prop where
  len : p.length ≤ 5000
  rng : ∀ x ∈ p, 0 ≤ x ∧ x ≤ 255
/-- A way from an object on has at most h steps. -/
def WkOk (q : WF) (c : ConfigS) (p : List Int) (h : Int) (id : Int) : Prop := ∀ a, AtOk p a → ∃ n a', ap q id c p a = some (wR n c p a') ∧ 0 ≤ n ∧ n ≤ h ∧ AtOk p a'

theorem Q_pick {p : List Int} (hp : Pk p) (c : ConfigS) (n : Int) (hn : 0 ≤ n ∧ n ≤ 200000) (a : Int) (ha : AtOk p a) :
    ∃ r a', ap Q_z0v n c p a = some (wR r c p a') ∧ 0 ≤ r ∧ (0 < n → r < n) ∧ AtOk p a' := by
  have hl := hp.len
  by_cases h1 : a ≥ (p.length : Int)
  · refine ⟨0, a, fin ?_, Int.le_refl _, fun h => h, ha⟩
    unfold M_z0v
    exact stepT' (decide_eq_true h1) rfl
  · by_cases h2 : n = 0
    · refine ⟨0, a, fin ?_, Int.le_refl _, fun h => h, ha⟩
      unfold M_z0v
      exact stepF' (decide_eq_false h1) (stepT' (beqT' h2) rfl)
    · have hlt : a.toNat < p.length := by omega
      have hx := hp.rng _ (rdd_mem (d := (0 : Int)) hlt)
      refine ⟨Int.tmod (rdd (0 : Int) p a.toNat) n, a + 1, fin ?_, Int.tmod_nonneg _ hx.1, fun h => Int.tmod_lt_of_pos _ h, by omega, by omega⟩
      unfold M_z0v
      refine stepF' (decide_eq_false h1) (stepF' (beqF' h2) ?_)
      have w1 : IntKind.wrap .i64 (a + 1) = a + 1 := i64_id (by omega)
      have w2 : IntKind.wrap .i64 (a + 1 - 1) = a := by rw [i64_id (by omega)]; omega
      rw [w1, w2]
      refine stepT' (decide_eq_true (by show (0 : Int) ≤ a ∧ a < (p.length : Int); omega)) ?_
      extract_lets -merge +onlyGivenNames y1
      refine stepT' (by rw [int_bne, decide_eq_false h2]; rfl) ?_
      have w3 : IntKind.wrap .i64 y1 = rdd (0 : Int) p a.toNat := i64_id (by show -9223372036854775808 ≤ rdd (0 : Int) p a.toNat ∧ rdd (0 : Int) p a.toNat ≤ 9223372036854775807; omega)
      rw [w3]

theorem fold_ge {f : ObjS → Int} (hf : ∀ y, InR (f y)) (k : Int) : ∀ (l : List BucketS) (n : Int), InR n → n ≤ l.foldl (fun n (b : BucketS) => if k = 1 then cut7 (n + f (1, b.2)) else mx n (f (1, b.2))) n
  | [], n, h => Int.le_refl _
  | b :: l, n, h => by
    have hb := hf (1, b.2)
    simp only [List.foldl_cons]
    have hi : InR (if k = 1 then cut7 (n + f (1, b.2)) else mx n (f (1, b.2))) := by
      split
      · exact cut7_in (by unfold InR at h hb; omega)
      · exact mx_in h hb
    refine Int.le_trans ?_ (fold_ge hf k l _ hi)
    unfold InR at h hb
    split
    · unfold cut7; split <;> omega
    · unfold mx; split <;> omega

/-- All of a group's buckets. -/
theorem L_wg2 {qb : WF} {c : ConfigS} {p : List Int} (kt : Int → (List NodeS) → (List FieldS) → (List TableS) → (List EntryS) → (List BlockS) → (List GroupS) → (List SpanS) → (List ObjS) → (List Int) → (List Int) → Int → Option Res)
    (grp : GroupS) (hgl : grp.2.2.2.1.length ≤ 100000) {f : ObjS → Int} (hf : ∀ y, InR (f y)) (hq : ∀ b ∈ grp.2.2.2.1, f (1, b.2) ≤ 20000 → WkOk qb c p (f (1, b.2)) b.2.1) (hH : foldG f 1 grp.2.2.2.1 ≤ 20000) {h : Int} (hh : foldG f 1 grp.2.2.2.1 ≤ h) :
    ∀ (m j : Nat) (s acc a : Int), j ≤ grp.2.2.2.1.length → grp.2.2.2.1.length - j < m → AtOk p a → 0 ≤ s → s ≤ acc → InR acc → (grp.2.2.2.1.drop j).foldl (fun n (b : BucketS) => if (1 : Int) = 1 then cut7 (n + f (1, b.2)) else mx n (f (1, b.2))) acc = foldG f 1 grp.2.2.2.1 →
    ∃ n a', L_z0w_2 FUEL qb kt grp m s (j : Int) c.1 c.2.1 c.2.2.1 c.2.2.2.1 c.2.2.2.2.1 c.2.2.2.2.2.1 c.2.2.2.2.2.2.1 c.2.2.2.2.2.2.2.1 c.2.2.2.2.2.2.2.2.1 p a =
      kt n c.1 c.2.1 c.2.2.1 c.2.2.2.1 c.2.2.2.2.1 c.2.2.2.2.2.1 c.2.2.2.2.2.2.1 c.2.2.2.2.2.2.2.1 c.2.2.2.2.2.2.2.2.1 p a' ∧ 0 ≤ n ∧ n ≤ h ∧ AtOk p a'
  | 0, j, s, acc, a, _, h, _, _, _, _, _ => by omega
  | m + 1, j, s, acc, a, hj, hm, ha, h0, hs, hacc, hfold => by
    by_cases hlt : j < grp.2.2.2.1.length
    · rw [drop_rdd zBucketS hlt] at hfold
      simp only [List.foldl_cons, if_pos] at hfold
      have hmem := rdd_mem (d := zBucketS) hlt
      have hb := hf (1, (rdd zBucketS grp.2.2.2.1 j).2)
      have hi : InR (cut7 (acc + f (1, (rdd zBucketS grp.2.2.2.1 j).2))) := cut7_in (by unfold InR at hacc hb; omega)
      have hge := fold_ge hf 1 (grp.2.2.2.1.drop (j + 1)) _ hi
      simp only [if_pos] at hge
      rw [hfold] at hge
      have hcut : cut7 (acc + f (1, (rdd zBucketS grp.2.2.2.1 j).2)) = acc + f (1, (rdd zBucketS grp.2.2.2.1 j).2) := by
        unfold cut7 at hge ⊢
        split at hge
        · rename_i h; rw [if_pos h]
        · omega
      rw [hcut] at hge hi hfold
      unfold InR at hacc hb
      obtain ⟨n1, a1, e1, l1, u1, ha1⟩ := hq _ hmem (by omega) a ha
      obtain ⟨n, a', e2, l2, u2, ha2⟩ := L_wg2 kt grp hgl hf hq hH hh m (j + 1) (s + n1) _ a1 (by omega) (by omega) ha1 (by omega) (by omega) hi (by simp only [if_pos]; exact hfold)
      refine ⟨n, a', ?_, l2, u2, ha2⟩
      rw [← e2]
      show F_z0w_2 FUEL qb kt grp (L_z0w_2 FUEL qb kt grp m) s (j : Int) _ _ _ _ _ _ _ _ _ p a = _
      unfold F_z0w_2
      refine stepT' (decide_eq_true (by show (j : Int) < ((grp.2.2.2.1.length : Nat) : Int); omega)) ?_
      refine stepT' (decide_eq_true (by show s < (70000 : Int); omega)) ?_
      refine stepT' (decide_eq_true (by show (0 : Int) ≤ (j : Int) ∧ (j : Int) < ((grp.2.2.2.1.length : Nat) : Int); omega)) ?_
      rw [toNat_cast]
      extract_lets -merge +onlyGivenNames y3
      have e_y : y3 = _ := (congrArg RS.get e1).trans (get_some _)
      clear_value y3; subst e_y
      refine stepC' e1 ?_
      have w1 : IntKind.wrap .i64 (s + n1) = s + n1 := i64_id (by omega)
      rw [i64_succ (by omega)]
      show L_z0w_2 FUEL qb kt grp m (IntKind.wrap .i64 (s + n1)) ((j + 1 : Nat) : Int) _ _ _ _ _ _ _ _ _ p a1 = _
      rw [w1]
    · have hd : grp.2.2.2.1.drop j = [] := List.drop_of_length_le (by omega)
      rw [hd] at hfold
      refine ⟨s, a, ?_, h0, by refine Int.le_trans ?_ hh; rw [← hfold]; exact hs, ha⟩
      show F_z0w_2 FUEL qb kt grp (L_z0w_2 FUEL qb kt grp m) s (j : Int) _ _ _ _ _ _ _ _ _ p a = _
      unfold F_z0w_2
      exact stepF' (decide_eq_false (by show ¬ (j : Int) < ((grp.2.2.2.1.length : Nat) : Int); omega)) rfl

theorem foldG_none {f : ObjS → Int} {k : Int} (h : k ≠ 1) (l : List BucketS) : ∀ b ∈ l, f (1, b.2) ≤ foldG f k l := by
  have mono : ∀ (l : List BucketS) (n : Int), n ≤ l.foldl (fun n (b : BucketS) => if k = 1 then cut7 (n + f (1, b.2)) else mx n (f (1, b.2))) n ∧ ∀ b ∈ l, f (1, b.2) ≤ l.foldl (fun n (b : BucketS) => if k = 1 then cut7 (n + f (1, b.2)) else mx n (f (1, b.2))) n := by
    intro l
    induction l with
    | nil => exact fun n => ⟨Int.le_refl _, fun b hb => by cases hb⟩
    | cons x l ih =>
      intro n
      simp only [List.foldl_cons, if_neg h]
      have := ih (mx n (f (1, x.2)))
      simp only [if_neg h] at this
      have m1 : n ≤ mx n (f (1, x.2)) := by unfold mx; split <;> omega
      have m2 : f (1, x.2) ≤ mx n (f (1, x.2)) := by unfold mx; split <;> omega
      refine ⟨Int.le_trans m1 this.1, fun b hb => ?_⟩
      rcases List.mem_cons.1 hb with rfl | hb
      · exact Int.le_trans m2 this.1
      · exact this.2 b hb
  exact (mono l 0).2

/-- The loop over the groups. -/
theorem L_wg0 {qb : WF} {c : ConfigS} {p : List Int} (hp : Pk p) (h : Cfg c) (hn : ¬ RingC c) (id : Int)
    (kr : Int → (List NodeS) → (List FieldS) → (List TableS) → (List EntryS) → (List BlockS) → (List GroupS) → (List SpanS) → (List ObjS) → (List Int) → (List Int) → Int → Option Res) (kt : Unit → Option Res)
    (hq : ∀ y ∈ leadsC c (2, (id, ())), HC c y ≤ 20000 → WkOk qb c p (HC c y) y.2.1) (hH : HC c (2, (id, ())) ≤ 20000) (a : Int) (ha : AtOk p a) :
    ∀ (m i : Nat), i ≤ (cG c).length → (cG c).length - i < m → (∀ j, j < i → (rdd zGroupS (cG c) j).1 ≠ id) →
    (L_z0w_0 FUEL qb kr kt id c.1 c.2.1 c.2.2.1 c.2.2.2.1 c.2.2.2.2.1 c.2.2.2.2.2.1 c.2.2.2.2.2.2.1 c.2.2.2.2.2.2.2.1 c.2.2.2.2.2.2.2.2.1 p a m (i : Int) = kt ()) ∨
    ∃ n a', L_z0w_0 FUEL qb kr kt id c.1 c.2.1 c.2.2.1 c.2.2.2.1 c.2.2.2.2.1 c.2.2.2.2.2.1 c.2.2.2.2.2.2.1 c.2.2.2.2.2.2.2.1 c.2.2.2.2.2.2.2.2.1 p a m (i : Int) =
      kr n c.1 c.2.1 c.2.2.1 c.2.2.2.1 c.2.2.2.2.1 c.2.2.2.2.2.1 c.2.2.2.2.2.2.1 c.2.2.2.2.2.2.2.1 c.2.2.2.2.2.2.2.2.1 p a' ∧ 0 ≤ n ∧ n ≤ HC c (2, (id, ())) ∧ AtOk p a'
  | 0, i, _, h, _ => by omega
  | m + 1, i, hi, hm, hj => by
    have hlg := h.g
    show (F_z0w_0 FUEL qb kr kt id _ _ _ _ _ _ _ _ _ p a (L_z0w_0 FUEL qb kr kt id _ _ _ _ _ _ _ _ _ p a m) (i : Int) = kt ()) ∨ ∃ n a', F_z0w_0 FUEL qb kr kt id _ _ _ _ _ _ _ _ _ p a (L_z0w_0 FUEL qb kr kt id _ _ _ _ _ _ _ _ _ p a m) (i : Int) = _ ∧ _
    unfold F_z0w_0
    by_cases hlt : i < (cG c).length
    · have st : ∀ {A B C X : Option Res}, A = X → cond (decide ((i : Int) < ((List.length c.2.2.2.2.2.1 : Nat) : Int))) (cond (decide ((0 : Int) ≤ (i : Int) ∧ (i : Int) < ((List.length c.2.2.2.2.2.1 : Nat) : Int))) A B) C = X := fun {A B C X} e =>
        stepT' (decide_eq_true (by show (i : Int) < ((cG c).length : Int); omega)) (stepT' (decide_eq_true (by show (0 : Int) ≤ (i : Int) ∧ (i : Int) < ((cG c).length : Int); omega)) e)
      rw [st rfl, toNat_cast]
      by_cases he : (rdd zGroupS (cG c) i).1 = id
      · have n1 : ((rdd zGroupS c.2.2.2.2.2.1 i).1 != id) = false := by rw [int_bne, decide_eq_true he]; rfl
        have n2 : ((rdd zGroupS c.2.2.2.2.2.1 i).1 == id) = true := beqT' he
        rw [n1]
        have hf := firstG_at hj hlt he
        have hv : HC c (2, (id, ())) = cut7 (foldG (HC c) (rdd zGroupS (cG c) i).2.1 (rdd zGroupS (cG c) i).2.2.2.1) := by
          refine Eq.trans (H_eq (h.sol.ends hn (2, (id, ())))) ?_
          unfold stepV
          rw [if_neg (by show ¬ ((2 : Int) = 0); omega), if_neg (by show ¬ ((2 : Int) = 1); omega)]
          have : grpsV c id = some (rdd zGroupS (cG c) i) := hf
          show cut7 (foldG _ ((grpsV c id).getD zGroupS).2.1 ((grpsV c id).getD zGroupS).2.2.2.1) = _
          rw [this]; rfl
        have hle : foldG (HC c) (rdd zGroupS (cG c) i).2.1 (rdd zGroupS (cG c) i).2.2.2.1 = HC c (2, (id, ())) := by
          rw [hv]
          rw [hv] at hH
          unfold cut7 at hH ⊢
          split at hH
          · rename_i h; rw [if_pos h]
          · omega
        have hlead : ∀ b ∈ (rdd zGroupS (cG c) i).2.2.2.1, HC c (1, b.2) ≤ 20000 → WkOk qb c p (HC c (1, b.2)) b.2.1 := fun b hb => hq (1, b.2) (by
          show (1, b.2) ∈ leadsV (tabsV c) (blksV c) (grpsV c) (2, (id, ()))
          unfold leadsV
          rw [if_neg (by show ¬ ((2 : Int) = 0); omega), if_neg (by show ¬ ((2 : Int) = 1); omega)]
          have : grpsV c id = some (rdd zGroupS (cG c) i) := hf
          show (1, b.2) ∈ ((grpsV c id).getD zGroupS).2.2.2.1.map fun (k : BucketS) => ((1, k.2) : ObjS)
          rw [this]
          exact List.mem_map.2 ⟨b, hb, rfl⟩)
        have hbl := h.buck _ (rdd_mem (d := zGroupS) hlt)
        have h0 : 0 ≤ HC c (2, (id, ())) := (H_in _ _ _ _).1
        right
        by_cases hz : (rdd zGroupS (cG c) i).2.2.2.1.length = 0
        · have n3 : ((((rdd zGroupS c.2.2.2.2.2.1 i).2.2.2.1.length : Nat) : Int) == (0 : Int)) = true := beqT' (by show ((rdd zGroupS (cG c) i).2.2.2.1.length : Int) = 0; omega)
          exact ⟨0, a, stepF' rfl (stepT' n3 (stepT' n2 rfl)), Int.le_refl _, h0, ha⟩
        · have n3 : ((((rdd zGroupS c.2.2.2.2.2.1 i).2.2.2.1.length : Nat) : Int) == (0 : Int)) = false := beqF' (by show ¬ (((rdd zGroupS (cG c) i).2.2.2.1.length : Int) = 0); omega)
          by_cases hk : (rdd zGroupS (cG c) i).2.1 = 1
          · have n4 : ((rdd zGroupS c.2.2.2.2.2.1 i).2.1 != (1 : Int)) = false := by rw [int_bne, decide_eq_true hk]; rfl
            rw [hk] at hle
            obtain ⟨n, a', e, l, u, ha'⟩ := L_wg2 (f := HC c) (qb := qb) (c := c) (p := p) (fun y4 y5 y6 y7 y8 y9 y10 y11 y12 y13 y14 y15 => kr y4 y5 y6 y7 y8 y9 y10 y11 y12 y13 y14 y15) (rdd zGroupS c.2.2.2.2.2.1 i) hbl (H_in _ _ _) hlead (by show foldG (HC c) 1 (rdd zGroupS (cG c) i).2.2.2.1 ≤ 20000; rw [hle]; exact hH) (by show foldG (HC c) 1 (rdd zGroupS (cG c) i).2.2.2.1 ≤ HC c (2, (id, ())); rw [hle]; exact Int.le_refl _) FUEL 0 0 0 a (Nat.zero_le _) (fuel_big (by show (rdd zGroupS (cG c) i).2.2.2.1.length - 0 ≤ _; omega)) ha (Int.le_refl _) (Int.le_refl _) ⟨by omega, by omega⟩ (by rw [List.drop_zero]; rfl)
            exact ⟨n, a', stepF' rfl (stepF' n3 (stepF' n4 e)), l, u, ha'⟩
          · have n4 : ((rdd zGroupS c.2.2.2.2.2.1 i).2.1 != (1 : Int)) = true := by rw [int_bne, decide_eq_false hk]; rfl
            have hbl2 : (0 : Int) ≤ ((rdd zGroupS (cG c) i).2.2.2.1.length : Int) ∧ ((rdd zGroupS (cG c) i).2.2.2.1.length : Int) ≤ 200000 := by omega
            obtain ⟨r, a1, e1, l1, u1, ha1⟩ := Q_pick hp c ((rdd zGroupS (cG c) i).2.2.2.1.length : Int) hbl2 a ha
            have hr := u1 (by omega)
            have hrl : r.toNat < (rdd zGroupS (cG c) i).2.2.2.1.length := by omega
            have hmem := rdd_mem (d := zBucketS) hrl
            have hbnd := foldG_none (f := HC c) hk _ _ hmem
            rw [hle] at hbnd
            obtain ⟨n, a2, e2, l2, u2, ha2⟩ := hlead _ hmem (by omega) a1 ha1
            refine ⟨n, a2, stepF' rfl (stepF' n3 (stepT' n4 ?_)), l2, by omega, ha2⟩
            extract_lets -merge +onlyGivenNames y1
            have e_y : y1 = _ := (congrArg RS.get e1).trans (get_some _)
            clear_value y1; subst e_y
            refine stepC' e1 ?_
            refine stepT' (decide_eq_true (by show 0 ≤ r ∧ r < ((rdd zGroupS (cG c) i).2.2.2.1.length : Int); omega)) ?_
            extract_lets -merge +onlyGivenNames y2
            have e_y : y2 = _ := (congrArg RS.get e2).trans (get_some _)
            clear_value y2; subst e_y
            exact stepC' e2 rfl
      · have n1 : ((rdd zGroupS c.2.2.2.2.2.1 i).1 != id) = true := by rw [int_bne, decide_eq_false he]; rfl
        have n2 : ((rdd zGroupS c.2.2.2.2.2.1 i).1 == id) = false := beqF' he
        rw [i64_succ (by omega)]
        rcases L_wg0 (qb := qb) hp h hn id kr kt hq hH a ha m (i + 1) (by omega) (by omega) (fun j hj' => by
          by_cases e : j = i
          · rw [e]; exact he
          · exact hj j (by omega)) with e | ⟨n, a', e, l, u, ha'⟩
        · exact .inl (stepT' n1 (stepF' n2 e))
        · exact .inr ⟨n, a', stepT' n1 (stepF' n2 e), l, u, ha'⟩
    · left
      exact stepF' (decide_eq_false (by show ¬ (i : Int) < ((cG c).length : Int); omega)) rfl

theorem Q_wgroup {qb : WF} {c : ConfigS} {p : List Int} (hp : Pk p) (h : Cfg c) (hn : ¬ RingC c) (id : Int) (hq : ∀ y ∈ leadsC c (2, (id, ())), HC c y ≤ 20000 → WkOk qb c p (HC c y) y.2.1) (hH : HC c (2, (id, ())) ≤ 20000) :
    WkOk (Q_z0w qb) c p (HC c (2, (id, ()))) id := fun a ha => by
  have h0 : 0 ≤ HC c (2, (id, ())) := (H_in _ _ _ _).1
  have hlg := h.g
  rcases L_wg0 (qb := qb) hp h hn id (fun y16 y17 y18 y19 y20 y21 y22 y23 y24 y25 y26 y27 => some (encRes ro_z0w rh_z0w ((y16, ()), ((y17, (y18, (y19, (y20, (y21, (y22, (y23, (y24, (y25, (y26, (y27, ()))))))))))), ()))))
      (fun _ => some (encRes ro_z0w rh_z0w (wR 0 c p a))) hq hH a ha FUEL 0 (Nat.zero_le _) (fuel_big (by omega)) (fun j hj => by omega) with e | ⟨n, a', e, l, u, ha'⟩
  · exact ⟨0, a, fin e, Int.le_refl _, h0, ha⟩
  · exact ⟨n, a', fin e, l, u, ha'⟩
end Go.AMach
