/- Parts of the proof. -/
import Derived.Test.YtfmjdojndbpkhaaPe
import Derived.KernelRfl
/- Layer 24: BoundParts, the law. -/
namespace Go.AMach
set_option linter.unusedVariables false
set_option linter.unusedSimpArgs false
set_option linter.unnecessarySimpa false
open Go
set_option linter.unusedVariables false

theorem Q_Block' {c : ConfigS} (h : Cfg c) (hn : ¬ RingC c) (k : Int) : Q_z0a c k = some ((HC c (1, (k, ())), (0, ())), ()) := by
  have := Q_Block h k
  have e : ofV c (1, (k, ())) = (HC c (1, (k, ())), 0) := by unfold ofV; rw [if_neg hn]
  rw [e] at this; exact this
theorem Q_Table' {c : ConfigS} (h : Cfg c) (hn : ¬ RingC c) (k : Int) : Q_z0b c k = some ((HC c (0, (k, ())), (0, ())), ()) := by
  have := Q_Table h k
  have e : ofV c (0, (k, ())) = (HC c (0, (k, ())), 0) := by unfold ofV; rw [if_neg hn]
  rw [e] at this; exact this
theorem Q_Group' {c : ConfigS} (h : Cfg c) (hn : ¬ RingC c) (k : Int) : Q_z0c c k = some ((HC c (2, (k, ())), (0, ())), ()) := by
  have := Q_Group h k
  have e : ofV c (2, (k, ())) = (HC c (2, (k, ())), 0) := by unfold ofV; rw [if_neg hn]
  rw [e] at this; exact this
theorem cutW {x : Int} (h : InR x) : (if (IntKind.wrap .i64 ((1 : Int) + x)) < (65537 : Int) then (IntKind.wrap .i64 ((1 : Int) + x)) else (65537 : Int)) = cut7 (1 + x) := by
  rw [i64_id (by unfold InR at h; omega)]; rfl
theorem beqSelf {a b : Int} (h : a = b) : (a == b) = true := beqT' h

/-! ### The table -/
theorem L_BP5 (kt : Int → Option Res) {c : ConfigS} (h : Cfg c) (hn : ¬ RingC c) (id : Int) : ∀ (m i : Nat) (n : Int), i ≤ (cE c).length → (cE c).length - i < m →
    L_z0x_5 FUEL kt id c m n (i : Int) = kt ((((cE c).drop i).filter fun x => decide (x.1 = id)).foldl (fun n x => mx n (HC c (1, (eB x, ())))) n)
  | 0, _, _, _, h => by omega
  | m + 1, i, n, hi, hm => by
    have hle := h.e
    show F_z0x_5 FUEL kt id c (L_z0x_5 FUEL kt id c m) n (i : Int) = _
    unfold F_z0x_5
    by_cases hlt : i < (cE c).length
    · refine stepT' (decide_eq_true (by show (i : Int) < ((cE c).length : Int); omega)) ?_
      refine stepT' (decide_eq_true (by show (0 : Int) ≤ (i : Int) ∧ (i : Int) < ((cE c).length : Int); omega)) ?_
      rw [toNat_cast, drop_rdd zEntryS hlt, List.filter_cons]
      by_cases he : (rdd zEntryS (cE c) i).1 = id
      · refine stepT' (beqT' he) ?_
        refine stepT' (decide_eq_true (by show (0 : Int) ≤ (i : Int) ∧ (i : Int) < ((cE c).length : Int); omega)) ?_
        have e1 := Q_Block' h hn (rdd zEntryS (cE c) i).2.2.2.2.2.1
        extract_lets -merge +onlyGivenNames y20
        have e_y : y20 = _ := (congrArg RS.get e1).trans (get_some _)
        clear_value y20; subst e_y
        refine stepC' e1 ?_
        rw [i64_succ (by omega), if_pos (decide_eq_true he), List.foldl_cons]
        exact L_BP5 kt h hn id m (i + 1) (mx n (HC c (1, (eB (rdd zEntryS (cE c) i), ())))) (by omega) (by omega)
      · refine stepF' (beqF' he) ?_
        rw [i64_succ (by omega), if_neg (by rw [decide_eq_false he]; decide)]
        exact L_BP5 kt h hn id m (i + 1) n (by omega) (by omega)
    · refine stepF' (decide_eq_false (by show ¬ (i : Int) < ((cE c).length : Int); omega)) ?_
      rw [List.drop_of_length_le (by omega)]
      rfl
theorem L_BP3 (kr : Bool → Option Res) (kt : Unit → Option Res) {c : ConfigS} (h : Cfg c) (hn : ¬ RingC c) (id : Int) : ∀ (m i : Nat), i ≤ (cT c).length → (cT c).length - i < m → (∀ j, j < i → (rdd zTableS (cT c) j).1 ≠ id) →
    L_z0x_3 FUEL kr kt id c m (i : Int) = kt () ∨ L_z0x_3 FUEL kr kt id c m (i : Int) = kr true
  | 0, _, _, h, _ => by omega
  | m + 1, i, hi, hm, hj => by
    have hle := h.t
    have hle2 := h.e
    show F_z0x_3 FUEL kr kt id c (L_z0x_3 FUEL kr kt id c m) (i : Int) = _ ∨ F_z0x_3 FUEL kr kt id c (L_z0x_3 FUEL kr kt id c m) (i : Int) = _
    unfold F_z0x_3
    by_cases hlt : i < (cT c).length
    · by_cases he : (rdd zTableS (cT c) i).1 = id
      · right
        refine stepT' (decide_eq_true (by show (i : Int) < ((cT c).length : Int); omega)) ?_
        refine stepT' (decide_eq_true (by show (0 : Int) ≤ (i : Int) ∧ (i : Int) < ((cT c).length : Int); omega)) ?_
        rw [toNat_cast]
        refine stepF' (by show ((rdd zTableS (cT c) i).1 != id) = false; rw [int_bne, decide_eq_true he]; rfl) ?_
        have e1 := Q_Table' h hn id
        have e2 := Q_Block' h hn (rdd zTableS (cT c) i).2.2.2.2.1
        have hv := H_table h hn (firstT_at hj hlt he)
        extract_lets -merge +onlyGivenNames y18
        have e_y : y18 = _ := (congrArg RS.get e1).trans (get_some _)
        clear_value y18; subst e_y
        refine stepC' e1 ?_
        refine stepT' (decide_eq_true (by show (0 : Int) ≤ (i : Int) ∧ (i : Int) < ((cT c).length : Int); omega)) ?_
        extract_lets -merge +onlyGivenNames y19
        have e_y : y19 = _ := (congrArg RS.get e2).trans (get_some _)
        clear_value y19; subst e_y
        refine stepC' e2 ?_
        refine Eq.trans (L_BP5 _ h hn id FUEL 0 _ (by omega) (fuel_big (by omega))) ?_
        rw [List.drop_zero]
        have hin : InR (((cE c).filter fun x => decide (x.1 = id)).foldl (fun n x => mx n (HC c (1, (eB x, ())))) (HC c (1, ((rdd zTableS (cT c) i).2.2.2.2.1, ())))) := by
          have : ∀ (l : List EntryS) (n : Int), InR n → InR (l.foldl (fun n x => mx n (HC c (1, (eB x, ())))) n) := by
            intro l
            induction l with
            | nil => intro n h; exact h
            | cons x r ih => intro n h; exact ih _ (mx_in h (H_in _ _ _ _))
          exact this _ _ (H_in _ _ _ _)
        show kr (HC c (0, (id, ())) == (if (IntKind.wrap .i64 ((1 : Int) + ((cE c).filter fun x => decide (x.1 = id)).foldl (fun n x => mx n (HC c (1, (eB x, ())))) (HC c (1, ((rdd zTableS (cT c) i).2.2.2.2.1, ()))))) < (65537 : Int) then (IntKind.wrap .i64 ((1 : Int) + ((cE c).filter fun x => decide (x.1 = id)).foldl (fun n x => mx n (HC c (1, (eB x, ())))) (HC c (1, ((rdd zTableS (cT c) i).2.2.2.2.1, ()))))) else (65537 : Int))) = _
        rw [cutW hin, beqSelf hv]
      · rcases L_BP3 kr kt h hn id m (i + 1) (by omega) (by omega) (fun j hj' => by
          by_cases e : j = i
          · rw [e]; exact he
          · exact hj j (by omega)) with e | e
        · left
          refine stepT' (decide_eq_true (by show (i : Int) < ((cT c).length : Int); omega)) ?_
          refine stepT' (decide_eq_true (by show (0 : Int) ≤ (i : Int) ∧ (i : Int) < ((cT c).length : Int); omega)) ?_
          rw [toNat_cast]
          refine stepT' (by show ((rdd zTableS (cT c) i).1 != id) = true; rw [int_bne, decide_eq_false he]; rfl) ?_
          rw [i64_succ (by omega)]
          exact e
        · right
          refine stepT' (decide_eq_true (by show (i : Int) < ((cT c).length : Int); omega)) ?_
          refine stepT' (decide_eq_true (by show (0 : Int) ≤ (i : Int) ∧ (i : Int) < ((cT c).length : Int); omega)) ?_
          rw [toNat_cast]
          refine stepT' (by show ((rdd zTableS (cT c) i).1 != id) = true; rw [int_bne, decide_eq_false he]; rfl) ?_
          rw [i64_succ (by omega)]
          exact e
    · left
      refine stepF' (decide_eq_false (by show ¬ (i : Int) < ((cT c).length : Int); omega)) ?_
      rfl
end Go.AMach

/- Layer 24: BoundParts: the blocks; the law. -/
namespace Go.AMach
set_option linter.unusedVariables false
set_option linter.unusedSimpArgs false
set_option linter.unnecessarySimpa false
open Go
set_option linter.unusedVariables false

theorem mkCons (B : List BlockS) (v : BlockS) : mkL (1 + B.length) (fun i => (if i < 1 then v else (rdd zBlockS B (i - 1)))) = v :: B := by
  apply List.ext_getElem?
  intro i
  by_cases hi : i < 1 + B.length
  · rw [mkL_get hi]
    cases i with
    | zero => rfl
    | succ j =>
      have hj : j < B.length := by omega
      rw [if_neg (by omega), List.getElem?_cons_succ, List.getElem?_eq_getElem hj]
      show some (rdd zBlockS B j) = _
      rw [rdd_lt hj]
  · rw [List.getElem?_eq_none (by rw [mkL_length]; omega), List.getElem?_eq_none (by rw [List.length_cons]; omega)]
theorem cutTail (l : List InstrS) (h : 1 ≤ l.length) : cutL zInstrS l (Int.toNat (1 : Int)) (Int.toNat ((l.length : Nat) : Int) - Int.toNat (1 : Int)) = l.drop 1 := by
  show cutL zInstrS l 1 (Int.toNat ((l.length : Nat) : Int) - 1) = _
  rw [toNat_cast, cutL_eq (by omega), List.take_of_length_le (by simp)]

theorem L_BP0 (kt : Unit → Option Res) (kr : Bool → Option Res) {c : ConfigS} (h : Cfg c) (h60 : (cB c).length ≤ 60) (hn : ¬ RingC c) (id : Int) : ∀ (m i : Nat), i ≤ (cB c).length → (cB c).length - i < m → (∀ j, j < i → (rdd zBlockS (cB c) j).1 ≠ id) →
    L_z0x_0 FUEL kt kr id c m (i : Int) = kt () ∨ L_z0x_0 FUEL kt kr id c m (i : Int) = kr true
  | 0, _, _, h, _ => by omega
  | m + 1, i, hi, hm, hj => by
    show F_z0x_0 FUEL kt kr id c (L_z0x_0 FUEL kt kr id c m) (i : Int) = _ ∨ F_z0x_0 FUEL kt kr id c (L_z0x_0 FUEL kt kr id c m) (i : Int) = _
    unfold F_z0x_0
    by_cases hlt : i < (cB c).length
    · have pre : ∀ {A B X : Option Res}, A = X → cond (decide ((i : Int) < ((cB c).length : Int))) (cond (decide ((0 : Int) ≤ (i : Int) ∧ (i : Int) < ((cB c).length : Int))) (cond (decide ((0 : Int) ≤ (i : Int) ∧ (i : Int) < ((cB c).length : Int))) A none) none) B = X := fun hA =>
        stepT' (decide_eq_true (by omega)) (stepT' (decide_eq_true (by omega)) (stepT' (decide_eq_true (by omega)) hA))
      rw [toNat_cast]
      by_cases he : (rdd zBlockS (cB c) i).1 = id
      · have hne : ((rdd zBlockS (cB c) i).1 != id) = false := by rw [int_bne, decide_eq_true he]; rfl
        have hf := firstB_at hj hlt he
        have hcode := h.code _ (rdd_mem (d := zBlockS) hlt)
        generalize hx : (rdd zBlockS (cB c) i).2.1 = l at *
        cases l with
        | nil =>
          left
          refine pre ?_
          refine stepF' hne ?_
          exact stepT' rfl rfl
        | cons x r =>
          have h0 : ((((x :: r : List InstrS).length : Nat) : Int) == (0 : Int)) = false := beqF' (by simp only [List.length_cons]; omega)
          have hp : decide ((0 : Int) ≤ (0 : Int) ∧ (0 : Int) < (((x :: r : List InstrS).length : Nat) : Int)) = true := decide_eq_true (by simp only [List.length_cons]; omega)
          have e0 : rdd zInstrS (x :: r) 0 = x := rfl
          by_cases c12 : x.1 = 12
          · left
            refine pre ?_
            refine stepF' hne ?_
            refine stepF' h0 ?_
            refine stepT' hp ?_
            refine stepT' (beqT' (by rw [e0]; exact c12)) ?_
            rfl
          · right
            have hv := H_block h hn hf hx
            have e7 := Q_Block' h hn id
            have hin : ∀ y, InR (HC c y) := H_in _ _ _
            have hinL := codeL_in hin r
            refine pre ?_
            refine stepF' hne ?_
            refine stepF' h0 ?_
            refine stepT' hp ?_
            refine stepF' (beqF' (by rw [e0]; exact c12)) ?_
            extract_lets -merge +onlyGivenNames y7
            have e_y : y7 = _ := (congrArg RS.get e7).trans (get_some _)
            clear_value y7; subst e_y
            refine stepC' e7 ?_
            refine stepT' hp ?_
            rw [e0]
            by_cases c13 : x.1 = 13
            · refine stepT' (beqT' c13) ?_
              refine stepT' hp ?_
              have e8 := Q_Table' h hn x.2.2.2.2.1
              extract_lets -merge +onlyGivenNames y8
              have e_y : y8 = _ := (congrArg RS.get e8).trans (get_some _)
              clear_value y8; subst e_y
              refine stepC' e8 ?_
              show kr (HC c (1, (id, ())) == (if (IntKind.wrap .i64 ((1 : Int) + HC c (0, (x.2.2.2.2.1, ())))) < (65537 : Int) then (IntKind.wrap .i64 ((1 : Int) + HC c (0, (x.2.2.2.2.1, ())))) else (65537 : Int))) = _
              rw [cutW (hin _), beqSelf]
              rw [hv]; unfold nextI
              rw [if_neg (by omega), if_neg (by omega), if_pos c13]
            refine stepF' (beqF' c13) ?_
            by_cases c14 : x.1 = 14
            · refine stepT' (beqT' c14) ?_
              refine stepT' hp ?_
              have e8 := Q_Group' h hn x.2.2.2.2.1
              extract_lets -merge +onlyGivenNames y10
              have e_y : y10 = _ := (congrArg RS.get e8).trans (get_some _)
              clear_value y10; subst e_y
              refine stepC' e8 ?_
              show kr (HC c (1, (id, ())) == (if (IntKind.wrap .i64 ((1 : Int) + HC c (2, (x.2.2.2.2.1, ())))) < (65537 : Int) then (IntKind.wrap .i64 ((1 : Int) + HC c (2, (x.2.2.2.2.1, ())))) else (65537 : Int))) = _
              rw [cutW (hin _), beqSelf]
              rw [hv]; unfold nextI
              rw [if_neg (by omega), if_neg (by omega), if_neg c13, if_pos c14]
            refine stepF' (beqF' c14) ?_
            by_cases c23 : x.1 = 23
            · refine stepT' (beqT' c23) ?_
              show kr (HC c (1, (id, ())) == (if (IntKind.wrap .i64 ((1 : Int) + 0)) < (65537 : Int) then (IntKind.wrap .i64 ((1 : Int) + 0)) else (65537 : Int))) = _
              rw [cutW ⟨by omega, by omega⟩, beqSelf]
              rw [hv]; unfold nextI
              rw [if_pos c23]
            refine stepF' (beqF' c23) ?_
            by_cases c22 : x.1 = 22
            · refine stepT' (beqT' c22) ?_
              show kr (HC c (1, (id, ())) == (if (IntKind.wrap .i64 ((1 : Int) + 0)) < (65537 : Int) then (IntKind.wrap .i64 ((1 : Int) + 0)) else (65537 : Int))) = _
              rw [cutW ⟨by omega, by omega⟩, beqSelf]
              rw [hv]; unfold nextI
              rw [if_neg c23, if_pos c22]
            refine stepF' (beqF' c22) ?_
            have hcfg : Cfg (restC c id r) := ⟨h.t, h.e, by show (cB c).length + 1 ≤ 1000; omega, h.g, fun z hz => by
              rcases List.mem_cons.1 hz with rfl | hz
              · show r.length ≤ 100000
                simp only [List.length_cons] at hcode; omega
              · exact h.code z hz, h.buck⟩
            have hnd := rest_ring hf hx hn
            have e16 := Q_Block' hcfg hnd id
            have hr := H_rest h hn hf hx hcfg
            refine stepT' (decide_eq_true (by simp only [List.length_cons]; omega)) ?_
            refine stepF' (by show ((cB c).length == 0) = false; exact beq_false_of_ne (by omega)) ?_
            have esz : decide ((1 + (cB c).length) * 32 ≤ 2 ^ 46 ∧ (1 + (cB c).length) ≤ 2 ^ 46) = true := decide_eq_true ⟨by omega, by omega⟩
            refine stepT' esz ?_
            rw [cutTail (x :: r) (by simp), mkCons]
            extract_lets -merge +onlyGivenNames y16
            have e_y : y16 = _ := (congrArg RS.get e16).trans (get_some _)
            clear_value y16; subst e_y
            refine stepC' e16 ?_
            show kr (HC c (1, (id, ())) == (if (IntKind.wrap .i64 ((1 : Int) + HC (restC c id r) (1, (id, ())))) < (65537 : Int) then (IntKind.wrap .i64 ((1 : Int) + HC (restC c id r) (1, (id, ())))) else (65537 : Int))) = _
            rw [cutW (show InR (HC (restC c id r) (1, (id, ()))) from H_in _ _ _ _), beqSelf]
            rw [hv, hr]; unfold nextI
            rw [if_neg c23, if_neg c22, if_neg c13, if_neg c14, if_neg c12]
      · have hne : ((rdd zBlockS (cB c) i).1 != id) = true := by rw [int_bne, decide_eq_false he]; rfl
        rcases L_BP0 kt kr h h60 hn id m (i + 1) (by omega) (by omega) (fun j hj' => by
          by_cases e : j = i
          · rw [e]; exact he
          · exact hj j (by omega)) with e | e
        · left
          refine pre ?_
          refine stepT' hne ?_
          rw [i64_succ (by omega)]
          exact e
        · right
          refine pre ?_
          refine stepT' hne ?_
          rw [i64_succ (by omega)]
          exact e
    · left
      refine stepF' (decide_eq_false (by show ¬ (i : Int) < ((cB c).length : Int); omega)) ?_
      rfl

open Classical in
theorem Pure.BoundParts (c : ConfigS) (hg : ConfigT.good c) (id : Int) (hid : (Ty.int .i64).good id) : Q_z0x c id = some ((true, ()), ()) := by
  refine fin ?_
  unfold M_z0x
  have el := Q_large (cfg_len hg)
  have ya : q_z0s = ((true, ()), ()) := (congrArg RS.get awake24).trans (get_some _)
  extract_lets -merge +onlyGivenNames y1
  have e_y : y1 = _ := (congrArg RS.get el).trans (get_some _)
  clear_value y1; subst e_y
  refine stepC' el ?_
  cases hl : largeV c with
  | true =>
    refine stepT' rfl ?_
    rw [ya]
    exact awakeC rfl
  | false =>
    refine stepF' rfl ?_
    obtain ⟨hc, hn60, harm⟩ := largeV_cfg hl
    have h60 : (cB c).length ≤ 60 := by
      unfold largeV at hl
      by_cases c6 : (cntC c : Int) > 60
      · rw [if_pos c6] at hl; cases hl
      · unfold cntC at c6; omega
    have eC := Q_Cycle hc
    extract_lets -merge +onlyGivenNames y3
    have e_y : y3 = _ := (congrArg RS.get eC).trans (get_some _)
    clear_value y3; subst e_y
    refine stepC' eC ?_
    by_cases hr : RingC c
    · refine stepT' (decide_eq_true hr) ?_
      rw [ya]
      exact awakeC rfl
    · refine stepF' (decide_eq_false hr) ?_
      rw [ya]
      extract_lets -merge +onlyGivenNames y5
      refine awakeC ?_
      refine stepF' rfl ?_
      rcases L_BP0 (fun _ => L_z0x_3 FUEL (fun y23 => some (encRes ro_z0x rh_z0x ((y23, ()), ()))) (fun _ => some (encRes ro_z0x rh_z0x ((true, ()), ()))) id c FUEL (0 : Int))
        (fun y24 => some (encRes ro_z0x rh_z0x ((y24, ()), ()))) hc h60 hr id FUEL 0 (by omega) (fuel_big (by omega)) (fun j hj => by omega) with e | e
      · refine Eq.trans e ?_
        rcases L_BP3 (fun y23 => some (encRes ro_z0x rh_z0x ((y23, ()), ()))) (fun _ => some (encRes ro_z0x rh_z0x ((true, ()), ()))) hc hr id FUEL 0 (by omega) (fuel_big (by have := hc.t; omega)) (fun j hj => by omega) with e | e
        · exact e
        · exact e
      · exact e
end Go.AMach

/- Towers. -/
namespace Go.AMach
set_option linter.unusedVariables false
set_option linter.unusedSimpArgs false
set_option linter.unnecessarySimpa false
set_option linter.unusedVariables false
set_option linter.unusedSimpArgs false

abbrev igr (i : Int) : InstrS := ((14 : Int), ((0 : Int), (((0 : Int), ((0 : Int), ())), (((0 : Int), ((0 : Int), ())), (i, ())))))
abbrev blC (i : Int) : BlockS := (i, ([igr i], ()))
abbrev bkC (i : Int) (b : Nat) : List BucketS := List.replicate b ((0 : Int), (i, ()))
abbrev grC (b : Nat) (i : Int) : GroupS := (i, ((1 : Int), ((0 : Int), (bkC (i + 1) b, ()))))
abbrev zsC (l : Nat) : List InstrS := List.replicate l zInstrS
def blsC (h : Nat) : List BlockS := (List.range h).map fun k => blC ((k + 1 : Nat) : Int)
def grsC (b h : Nat) : List GroupS := (List.range h).map fun k => grC b ((k + 1 : Nat) : Int)
def towC (b h l : Nat) : ConfigS := ([], ([], ([((1 : Int), ((0 : Int), ([], ((0 : Int), ((1 : Int), ())))))], ([], (blsC h ++ [(((h + 1 : Nat) : Int), (zsC l, ()))], (grsC b h, ([], ([], ([], ())))))))))

theorem bls_len (h : Nat) : (blsC h).length = h := by simp [blsC]
theorem grs_len (b h : Nat) : (grsC b h).length = h := by simp [grsC]
theorem range_succ_map {α : Type} (f : Nat → α) (h : Nat) : (List.range (h + 1)).map f = (List.range h).map f ++ [f h] := by
  rw [List.range_succ, List.map_append]; rfl

theorem L_tw2 (kt : Nat → List BucketS → Option Res) (b : Nat) (hb : b ≤ 1000) (i : Int) (hi : 0 ≤ i ∧ i ≤ 1000) : ∀ (m j : Nat), j ≤ b → b - j < m →
    L_z0v_2 FUEL kt (b : Int) i m (j : Int) j (bkC (i + 1) j) = kt b (bkC (i + 1) b)
  | 0, j, _, h => by omega
  | m + 1, j, hj, hm => by
    show F_z0v_2 FUEL kt (b : Int) i (L_z0v_2 FUEL kt (b : Int) i m) (j : Int) j (bkC (i + 1) j) = _
    unfold F_z0v_2
    by_cases hlt : j < b
    · refine stepT' (decide_eq_true (by omega)) ?_
      have e : cutL zBucketS (bkC (i + 1) j) 0 j = bkC (i + 1) j := by
        have := cutL_all zBucketS (bkC (i + 1) j)
        rwa [List.length_replicate] at this
      rw [e]
      refine stepT' (decide_eq_true (by rw [List.length_replicate]; omega)) ?_
      rw [List.length_replicate, i64_succ (by omega), i64_id (n := i + 1) (by omega)]
      have e2 : bkC (i + 1) j ++ [((0 : Int), (i + 1, ()))] = bkC (i + 1) (j + 1) := by
        show List.replicate j _ ++ [_] = List.replicate (j + 1) _
        rw [List.replicate_succ']
      rw [e2]
      exact L_tw2 kt b hb i hi m (j + 1) (by omega) (by omega)
    · have : j = b := by omega
      subst this
      exact stepF' (decide_eq_false (by omega)) rfl

theorem L_tw0 (kt : Nat → Nat → List BlockS → List GroupS → Option Res) (b h : Nat) (hb : b ≤ 1000) (hh : h ≤ 900) : ∀ (m i : Nat), i ≤ h → h - i < m →
    L_z0v_0 FUEL kt (b : Int) (h : Int) m ((i + 1 : Nat) : Int) i i (blsC i) (grsC b i) = kt h h (blsC h) (grsC b h)
  | 0, i, _, hm => by omega
  | m + 1, i, hi, hm => by
    show F_z0v_0 FUEL kt (b : Int) (h : Int) (L_z0v_0 FUEL kt (b : Int) (h : Int) m) ((i + 1 : Nat) : Int) i i (blsC i) (grsC b i) = _
    unfold F_z0v_0
    by_cases hlt : i < h
    · refine stepT' (decide_eq_true (by omega)) ?_
      have e1 : cutL zBlockS (blsC i) 0 i = blsC i := by
        have := cutL_all zBlockS (blsC i); rwa [bls_len] at this
      have e2 : cutL zGroupS (grsC b i) 0 i = grsC b i := by
        have := cutL_all zGroupS (grsC b i); rwa [grs_len] at this
      rw [e1, e2, bls_len, grs_len]
      refine stepT' (decide_eq_true (by omega)) ?_
      refine (L_tw2 _ b hb ((i + 1 : Nat) : Int) (by omega) FUEL 0 (Nat.zero_le _) (fuel_big (by omega))).trans ?_
      refine stepT' (decide_eq_true (by omega)) ?_
      have e3 : cutL zBucketS (bkC (((i + 1 : Nat) : Int) + 1) b) 0 b = bkC (((i + 1 : Nat) : Int) + 1) b := by
        have := cutL_all zBucketS (bkC (((i + 1 : Nat) : Int) + 1) b); rwa [List.length_replicate] at this
      rw [e3, i64_succ (by omega)]
      have e4 : blsC i ++ [(((i + 1 : Nat) : Int), ([igr ((i + 1 : Nat) : Int)], ()))] = blsC (i + 1) := (range_succ_map _ i).symm
      have e5 : grsC b i ++ [(((i + 1 : Nat) : Int), ((1 : Int), ((0 : Int), (bkC (((i + 1 : Nat) : Int) + 1) b, ()))))] = grsC b (i + 1) := (range_succ_map _ i).symm
      rw [e4, e5]
      exact L_tw0 kt b h hb hh m (i + 1) (by omega) (by omega)
    · have : i = h := by omega
      subst this
      exact stepF' (decide_eq_false (by omega)) rfl

theorem mkL_const {α : Type} (n : Nat) (z : α) : mkL n (fun _ => z) = List.replicate n z := by
  unfold mkL
  induction n with
  | zero => rfl
  | succ n ih => rw [range_succ_map, ih, List.replicate_succ']

theorem Q_tower (b h l : Nat) (hb : b ≤ 1000) (hh : h ≤ 900) (hl : l ≤ 1000) : Q_z0v (b : Int) (h : Int) (l : Int) = some ((towC b h l, ()), ()) := by
  refine fin ?_
  unfold M_z0v
  refine (L_tw0 _ b h hb hh FUEL 0 (Nat.zero_le _) (fuel_big (by omega))).trans ?_
  refine stepT' (decide_eq_true (by omega)) ?_
  have e1 : cutL zBlockS (blsC h) 0 h = blsC h := by
    have := cutL_all zBlockS (blsC h); rwa [bls_len] at this
  have e2 : cutL zGroupS (grsC b h) 0 h = grsC b h := by
    have := cutL_all zGroupS (grsC b h); rwa [grs_len] at this
  rw [e1, e2, bls_len]
  refine stepT' (decide_eq_true (by omega)) ?_
  rw [toNat_cast, i64_succ (by omega), mkL_const]
  have e3 : cutL zBlockS (blsC h ++ [(((h + 1 : Nat) : Int), (zsC l, ()))]) 0 (h + 1) = blsC h ++ [(((h + 1 : Nat) : Int), (zsC l, ()))] := by
    have := cutL_all zBlockS (blsC h ++ [(((h + 1 : Nat) : Int), (zsC l, ()))])
    rwa [List.length_append, bls_len] at this
  show some (encRes ro_z0v rh_z0v ((([], ([], ([((1 : Int), ((0 : Int), ([], ((0 : Int), ((1 : Int), ())))))], ([], (cutL zBlockS (blsC h ++ [(((h + 1 : Nat) : Int), (zsC l, ()))]) 0 (h + 1), (grsC b h, ([], ([], ([], ()))))))))), ()), ())) = _
  rw [e3]
  rfl

/-! ### What leads to what -/
theorem tow_t (b h l : Nat) (k : Int) : tabsV (towC b h l) k = if k = 1 then some [1] else none := by
  unfold tabsV firstT
  show Option.map _ (List.find? _ [_]) = _
  by_cases e : k = 1
  · subst e; rfl
  · rw [if_neg e, List.find?_cons_of_neg (by simp; omega)]; rfl
theorem find_blk (h l : Nat) (k : Int) : (firstB (blsC h ++ [(((h + 1 : Nat) : Int), (zsC l, ()))]) k) = if 1 ≤ k ∧ k ≤ h then some (blC k) else if k = ((h + 1 : Nat) : Int) then some (((h + 1 : Nat) : Int), (zsC l, ())) else none := by
  have key : ∀ (h : Nat) (k : Int), List.find? (fun t : BlockS => decide (t.1 = k)) (blsC h) = if 1 ≤ k ∧ k ≤ h then some (blC k) else none := by
    intro h k
    induction h with
    | zero => rw [if_neg (by omega)]; rfl
    | succ h ih =>
      unfold blsC at ih ⊢
      rw [range_succ_map, List.find?_append, ih]
      by_cases c : 1 ≤ k ∧ k ≤ (h : Int)
      · rw [if_pos c, if_pos (by omega)]; rfl
      · rw [if_neg c]
        by_cases e : k = ((h + 1 : Nat) : Int)
        · subst e
          rw [if_pos (by omega)]
          simp
        · rw [if_neg (by omega)]
          simp
          omega
  unfold firstB
  rw [List.find?_append, key]
  by_cases c : 1 ≤ k ∧ k ≤ (h : Int)
  · rw [if_pos c, if_pos c]; rfl
  · rw [if_neg c, if_neg c]
    by_cases e : k = ((h + 1 : Nat) : Int)
    · subst e; simp
    · rw [if_neg e]
      simp
      omega
theorem tow_b (b h l : Nat) (k : Int) : blksV (towC b h l) k = if 1 ≤ k ∧ k ≤ h then some [igr k] else if k = ((h + 1 : Nat) : Int) then some (zsC l) else none := by
  unfold blksV
  show Option.map _ (firstB (blsC h ++ [(((h + 1 : Nat) : Int), (zsC l, ()))]) k) = _
  rw [find_blk]
  split
  · rfl
  · split <;> rfl
theorem tow_g (b h l : Nat) (k : Int) : grpsV (towC b h l) k = if 1 ≤ k ∧ k ≤ h then some (grC b k) else none := by
  unfold grpsV firstG
  show List.find? _ (grsC b h) = _
  induction h with
  | zero => rw [if_neg (by omega)]; rfl
  | succ h ih =>
    unfold grsC at ih ⊢
    rw [range_succ_map, List.find?_append, ih]
    by_cases c : 1 ≤ k ∧ k ≤ (h : Int)
    · rw [if_pos c, if_pos (by omega)]; rfl
    · rw [if_neg c]
      by_cases e : k = ((h + 1 : Nat) : Int)
      · subst e
        rw [if_pos (by omega)]
        simp
      · rw [if_neg (by omega)]
        simp
        omega

def muC (h : Nat) (x : ObjS) : Nat := if x.1 = 0 then 2 * h + 5 else if x.1 = 1 then 2 * (h + 1 - x.2.1.toNat) + 1 else 2 * (h + 1 - x.2.1.toNat)
theorem mu_lt (b h l : Nat) : ∀ x, ∀ y ∈ leadsC (towC b h l) x, muC h y < muC h x := by
  intro x y hy
  obtain ⟨k, id, u⟩ := x
  unfold leadsC leadsV at hy
  rw [tow_t, tow_b, tow_g] at hy
  by_cases c0 : k = 0
  · subst c0
    rw [if_pos rfl] at hy
    simp only at hy
    by_cases e : id = 1
    · rw [if_pos e] at hy
      simp at hy
      subst hy
      simp [muC]
      try omega
    · rw [if_neg e] at hy
      simp at hy
  · rw [if_neg c0] at hy
    by_cases c1 : k = 1
    · subst c1
      rw [if_pos rfl] at hy
      simp only at hy
      by_cases e : 1 ≤ id ∧ id ≤ (h : Int)
      · rw [if_pos e] at hy
        simp [leadI] at hy
        subst hy
        simp [muC]
      · rw [if_neg e] at hy
        exfalso
        split at hy
        · obtain ⟨i, hi, hy⟩ := List.mem_flatMap.1 hy
          have : i = zInstrS := List.eq_of_mem_replicate hi
          subst this
          simp [leadI] at hy
        · simp at hy
    · rw [if_neg c1] at hy
      simp only at hy
      by_cases e : 1 ≤ id ∧ id ≤ (h : Int)
      · rw [if_pos e] at hy
        obtain ⟨z, hz, rfl⟩ := List.mem_map.1 hy
        have : z = ((0 : Int), (id + 1, ())) := List.eq_of_mem_replicate hz
        subst this
        unfold muC
        rw [if_neg (by show ¬ ((1 : Int) = 0); omega), if_pos (by show (1 : Int) = 1; rfl), if_neg (by show ¬ k = 0; exact c0), if_neg (by show ¬ k = 1; exact c1)]
        show 2 * (h + 1 - (id + 1).toNat) + 1 < 2 * (h + 1 - id.toNat)
        omega
      · rw [if_neg e] at hy
        simp at hy
theorem tow_noring (b h l : Nat) : ¬ RingC (towC b h l) := by
  rintro ⟨x, hx⟩
  have : ∀ {x y}, Reach (leadsC (towC b h l)) x y → muC h y < muC h x := by
    intro x y h1
    induction h1 with
    | one h1 => exact mu_lt b h l _ _ h1
    | step _ h1 ih => exact Nat.lt_trans (mu_lt b h l _ _ h1) ih
  exact Nat.lt_irrefl _ (this hx)
theorem tow_cfg (b h l : Nat) (hb : b ≤ 1000) (hh : h ≤ 900) (hl : l ≤ 1000) : Cfg (towC b h l) where
  t := by show 1 ≤ 1000; omega
  e := by show 0 ≤ 1000; omega
  b := by show (blsC h ++ [_]).length ≤ 1000; rw [List.length_append, bls_len]; simp; omega
  g := by show (grsC b h).length ≤ 1000; rw [grs_len]; omega
  code := fun x hx => by
    rcases List.mem_append.1 hx with hx | hx
    · obtain ⟨k, _, rfl⟩ := List.mem_map.1 hx; show 1 ≤ 100000; omega
    · rw [List.mem_singleton.1 hx]
      show (zsC l).length ≤ 100000
      rw [List.length_replicate]; omega
  buck := fun x hx => by
    obtain ⟨k, _, rfl⟩ := List.mem_map.1 hx
    show (bkC _ b).length ≤ 100000
    rw [List.length_replicate]; omega

/-! ### How many steps -/
def WC (b l : Nat) : Nat → Int
  | 0 => (l : Int)
  | k + 1 => cut7 (1 + (b : Int) * WC b l k)
theorem cut7_add {x p : Int} (hp : 0 ≤ p) : cut7 (cut7 x + p) = cut7 (x + p) := by
  unfold cut7
  repeat' split
  all_goals omega
theorem cut7_cut (x : Int) : cut7 (cut7 x) = cut7 x := by
  have := cut7_add (x := x) (p := 0) (Int.le_refl _)
  rw [Int.add_zero, Int.add_zero] at this; exact this
theorem foldRep (f : ObjS → Int) (i : Int) (hf : 0 ≤ f (1, (i, ()))) : ∀ (b : Nat) (n : Int), 0 ≤ n → cut7 ((bkC i b).foldl (fun n (b : BucketS) => if (1 : Int) = 1 then cut7 (n + f (1, b.2)) else mx n (f (1, b.2))) n) = cut7 (n + (b : Int) * f (1, (i, ())))
  | 0, n, _ => by simp [bkC]
  | b + 1, n, hn => by
    have hc : 0 ≤ cut7 (n + f (1, (i, ()))) := (cut7_in (by omega)).1
    have := foldRep f i hf b (cut7 (n + f (1, (i, ())))) hc
    show cut7 ((bkC i b).foldl _ (if (1 : Int) = 1 then cut7 (n + f (1, (i, ()))) else _)) = _
    rw [if_pos rfl, this, cut7_add (Int.mul_nonneg (by omega) hf), Int.natCast_succ, Int.add_mul, Int.one_mul]
    congr 1
    omega
theorem codeZ (f : ObjS → Int) : ∀ (n : Nat), n ≤ 65536 → rdd 0 (codeL f (zsC n)) 0 = (n : Int)
  | 0, _ => rfl
  | n + 1, h => by
    show cut7 (1 + nextI f zInstrS (zsC n).length (codeL f (zsC n))) = _
    have e : nextI f zInstrS (zsC n).length (codeL f (zsC n)) = rdd 0 (codeL f (zsC n)) 0 := by
      unfold nextI
      rw [if_neg (by decide), if_neg (by decide), if_neg (by decide), if_neg (by decide), if_neg (by decide)]
    rw [e, codeZ f n (by omega)]
    unfold cut7
    rw [if_pos (by omega)]
    omega
theorem tow_H (b h l : Nat) (hb : b ≤ 1000) (hh : h ≤ 900) (hl : l ≤ 1000) : ∀ k, k ≤ h → HC (towC b h l) (1, (((h + 1 - k : Nat) : Int), ())) = WC b l k
  | 0, _ => by
    have hends := (tow_cfg b h l hb hh hl).sol.ends (tow_noring b h l) (1, (((h + 1 : Nat) : Int), ()))
    refine Eq.trans (H_eq hends) ?_
    unfold stepV
    rw [if_neg (by show ¬ ((1 : Int) = 0); omega), if_pos (by show (1 : Int) = 1; rfl)]
    show cut7 (rdd 0 (codeL _ ((blksV (towC b h l) ((h + 1 : Nat) : Int)).getD [])) 0) = _
    rw [tow_b, if_neg (by omega), if_pos rfl]
    show cut7 (rdd 0 (codeL _ (zsC l)) 0) = _
    rw [codeZ _ l (by omega)]
    show cut7 (l : Int) = (l : Int)
    unfold cut7
    rw [if_pos (by omega)]
  | k + 1, hk => by
    have ih := tow_H b h l hb hh hl k (by omega)
    have hs := (tow_cfg b h l hb hh hl).sol
    have e0 : h + 1 - (k + 1) = h - k := by omega
    have hg : HC (towC b h l) (2, (((h - k : Nat) : Int), ())) = cut7 ((b : Int) * WC b l k) := by
      refine Eq.trans (H_eq (hs.ends (tow_noring b h l) (2, (((h - k : Nat) : Int), ())))) ?_
      unfold stepV
      rw [if_neg (by show ¬ ((2 : Int) = 0); omega), if_neg (by show ¬ ((2 : Int) = 1); omega)]
      show cut7 (foldG _ ((grpsV (towC b h l) ((h - k : Nat) : Int)).getD zGroupS).2.1 ((grpsV (towC b h l) ((h - k : Nat) : Int)).getD zGroupS).2.2.2.1) = _
      rw [tow_g, if_pos (by omega)]
      have e1 : (((h - k : Nat) : Int) + 1) = ((h + 1 - k : Nat) : Int) := by omega
      have := foldRep (HC (towC b h l)) ((h + 1 - k : Nat) : Int) (H_in _ _ _ _).1 b 0 (Int.le_refl _)
      rw [Int.zero_add, ih] at this
      show cut7 (foldG (HC (towC b h l)) 1 (bkC (((h - k : Nat) : Int) + 1) b)) = _
      rw [e1]
      exact this
    rw [e0]
    refine Eq.trans (H_eq (hs.ends (tow_noring b h l) (1, (((h - k : Nat) : Int), ())))) ?_
    unfold stepV
    rw [if_neg (by show ¬ ((1 : Int) = 0); omega), if_pos (by show (1 : Int) = 1; rfl)]
    show cut7 (rdd 0 (codeL _ ((blksV (towC b h l) ((h - k : Nat) : Int)).getD [])) 0) = _
    rw [tow_b, if_pos (by omega)]
    show cut7 (cut7 (1 + nextI (HC (towC b h l)) (igr ((h - k : Nat) : Int)) 0 [0])) = _
    have e2 : nextI (HC (towC b h l)) (igr ((h - k : Nat) : Int)) 0 [0] = HC (towC b h l) (2, (((h - k : Nat) : Int), ())) := by
      unfold nextI
      rw [if_neg (by show ¬ ((14 : Int) = 23); omega), if_neg (by show ¬ ((14 : Int) = 22); omega), if_neg (by show ¬ ((14 : Int) = 13); omega), if_pos (by show (14 : Int) = 14; rfl)]
    rw [e2, hg, cut7_cut]
    show _ = cut7 (1 + (b : Int) * WC b l k)
    rw [Int.add_comm 1, cut7_add (by omega), Int.add_comm]
theorem WC_in (b l : Nat) (hl : l ≤ 1000) : ∀ k, 0 ≤ WC b l k ∧ WC b l k ≤ 65537
  | 0 => by show 0 ≤ (l : Int) ∧ (l : Int) ≤ 65537; omega
  | k + 1 => cut7_in (by have := Int.mul_nonneg (a := (b : Int)) (by omega) (WC_in b l hl k).1; omega)
theorem nodes0 : Nodes [] := by constructor <;> simp
theorem long0 : longV [] = 0 := by
  have h1 := Q_longV (l := []) nodes0
  have h2 : Q_z0q [] = some (((0 : Int), ()), ()) := by kernel_rfl
  rw [h1] at h2
  exact congrArg (fun r => r.1.1) (Option.some.inj h2)
theorem Q_OfT (b h l : Nat) (hb : b ≤ 1000) (hh : h ≤ 900) (hl : l ≤ 1000) : Q_z0r (towC b h l) = some ((cut7 (1 + WC b l h), ((0 : Int), ())), ()) := by
  have hc := tow_cfg b h l hb hh hl
  rw [Q_Of hc nodes0 (fun x hx => by cases hx)]
  have e : OfV (towC b h l) = (cut7 (1 + WC b l h), 0) := by
    unfold OfV
    rw [if_neg (tow_noring b h l)]
    have e1 := tow_H b h l hb hh hl h (Nat.le_refl _)
    rw [show h + 1 - h = 1 by omega] at e1
    have e2 : HC (towC b h l) (0, (1, ())) = cut7 (1 + WC b l h) := by
      refine Eq.trans (H_eq (hc.sol.ends (tow_noring b h l) (0, (1, ())))) ?_
      unfold stepV
      rw [if_pos (by show (0 : Int) = 0; rfl)]
      show cut7 (match tabsV (towC b h l) 1 with | none => 0 | some l => foldT _ l + 1) = _
      rw [tow_t, if_pos rfl]
      show cut7 (mx 0 (HC (towC b h l) (1, (1, ()))) + 1) = _
      have e3 : HC (towC b h l) (1, (1, ())) = WC b l h := e1
      rw [e3]
      have := WC_in b l hl h
      unfold mx
      split
      · rw [Int.add_comm]
      · congr 1; omega
    rw [e2]
    show (cut7 (cut7 (1 + WC b l h) + longV []), (0 : Int)) = _
    rw [long0, Int.add_zero, cut7_cut]
  rw [e]
end Go.AMach

/- BoundTower. -/
namespace Go.AMach
set_option linter.unusedVariables false
set_option linter.unusedSimpArgs false
set_option linter.unnecessarySimpa false
set_option linter.unusedVariables false
set_option linter.unusedSimpArgs false

theorem L_BT0 (kt : Int → Option Res) (b l h : Nat) (hb : b ≤ 1000) (hl : l ≤ 1000) (hh : h ≤ 900) : ∀ (m k : Nat), k ≤ h → h - k < m → L_z0z_0 FUEL kt (b : Int) (h : Int) m (WC b l k) (k : Int) = kt (WC b l h)
  | 0, k, _, hm => by omega
  | m + 1, k, hk, hm => by
    show F_z0z_0 FUEL kt (b : Int) (h : Int) (L_z0z_0 FUEL kt (b : Int) (h : Int) m) (WC b l k) (k : Int) = _
    unfold F_z0z_0
    by_cases hlt : k < h
    · refine stepT' (decide_eq_true (by omega)) ?_
      have hw := WC_in b l hl k
      have hp : 0 ≤ (b : Int) * WC b l k := Int.mul_nonneg (by omega) hw.1
      have hp2 : (b : Int) * WC b l k ≤ 1000 * 65537 := Int.mul_le_mul (by omega) hw.2 hw.1 (by omega)
      have w1 : IntKind.wrap .i64 ((b : Int) * WC b l k) = (b : Int) * WC b l k := i64_id (by omega)
      have w2 : IntKind.wrap .i64 ((1 : Int) + (b : Int) * WC b l k) = 1 + (b : Int) * WC b l k := i64_id (by omega)
      rw [w1, w2, i64_succ (by omega)]
      exact L_BT0 kt b l h hb hl hh m (k + 1) (by omega) (by omega)
    · have : k = h := by omega
      subst this
      exact stepF' (decide_eq_false (by omega)) rfl

theorem u8_rng {x : Int} (h : (Ty.int .u8).good x) : 0 ≤ x ∧ x ≤ 255 := by
  have h1 : (Lit.int .u8 x).wf = true := h
  simp only [Lit.wf, IntKind.min, IntKind.max, IntKind.signed, IntKind.bits, Bool.and_eq_true, decide_eq_true_eq] at h1
  simp at h1
  omega
theorem tmod_nat {x n : Int} (hx : 0 ≤ x) (hn : 0 < n) (hn2 : n ≤ 100) : ∃ k : Nat, IntKind.wrap .i64 (Int.tmod x n) = (k : Int) ∧ k < n := by
  have h1 := Int.tmod_nonneg n hx
  have h2 := Int.tmod_lt_of_pos x hn
  exact ⟨(Int.tmod x n).toNat, by rw [i64_id (by omega)]; omega, by omega⟩

theorem Pure.BoundTower (x : Int) (hx : (Ty.int .u8).good x) (y : Int) (hy : (Ty.int .u8).good y) (z : Int) (hz : (Ty.int .u8).good z) : Q_z0z x y z = some ((true, ()), ()) := by
  refine fin ?_
  unfold M_z0z
  obtain ⟨b, eb, hb⟩ := tmod_nat (n := 17) (u8_rng hx).1 (by omega) (by omega)
  obtain ⟨h, eh, hh⟩ := tmod_nat (n := 33) (u8_rng hy).1 (by omega) (by omega)
  obtain ⟨l, el, hl⟩ := tmod_nat (n := 33) (u8_rng hz).1 (by omega) (by omega)
  rw [eb, eh, el]
  have e1 := Q_tower b h l (by omega) (by omega) (by omega)
  have e2 := Q_OfT b h l (by omega) (by omega) (by omega)
  refine stepT' rfl (stepT' rfl (stepT' rfl ?_))
  extract_lets -merge +onlyGivenNames y1
  have e_y : y1 = _ := (congrArg RS.get e1).trans (get_some _)
  clear_value y1; subst e_y
  refine stepC' e1 ?_
  extract_lets -merge +onlyGivenNames y2
  have e_y : y2 = _ := (congrArg RS.get e2).trans (get_some _)
  clear_value y2; subst e_y
  refine stepC' e2 ?_
  refine (L_BT0 _ b l h (by omega) (by omega) (by omega) FUEL 0 (Nat.zero_le _) (fuel_big (by omega))).trans ?_
  refine stepT' rfl ?_
  have hw := WC_in b l (by omega) h
  have w1 : IntKind.wrap .i64 ((1 : Int) + WC b l h) = 1 + WC b l h := i64_id (by omega)
  rw [w1]
  extract_lets -merge +onlyGivenNames y5
  refine stepT' (beqT' (by show cut7 (1 + WC b l h) = y5; rfl)) ?_
  have ya : q_z0s = ((true, ()), ()) := (congrArg RS.get awake24).trans (get_some _)
  extract_lets -merge +onlyGivenNames y6
  have e_y : y6 = _ := ya
  clear_value y6; subst e_y
  exact stepC' (o := Q_z0s) awake24 rfl
end Go.AMach
