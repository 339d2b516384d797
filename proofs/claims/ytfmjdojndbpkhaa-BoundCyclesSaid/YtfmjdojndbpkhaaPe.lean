/- Parts of the proof. -/
import Derived.Test.YtfmjdojndbpkhaaPc
import Derived.Test.YtfmjdojndbpkhaaPd
import Derived.KernelRfl
/- Layer 24: the bound. -/
namespace Go.AMach
set_option linter.unusedVariables false
set_option linter.unusedSimpArgs false
set_option linter.unnecessarySimpa false
open Go
set_option linter.unusedVariables false

open Classical in
noncomputable def longV (l : List NodeS) : Int := if h : mayP l then (h.2.2.2.choose) 1 else 0
theorem Q_longV {l : List NodeS} (hl : Nodes l) : Q_z0q l = some ((longV l, ()), ()) := by
  unfold longV
  by_cases h : mayP l
  · rw [dif_pos h]
    exact Q_Longest l hl h (h.2.2.2.choose_spec)
  · rw [dif_neg h]
    exact Q_Longest_no l hl h
theorem longV_in {l : List NodeS} (ha : ∀ x ∈ l, (nArms x).length < 100000) : 0 ≤ longV l ∧ longV l ≤ 32 := by
  unfold longV
  by_cases h : mayP l
  · rw [dif_pos h]
    have h2 := h.2.1
    exact ⟨(h.2.2.2.choose_spec).nonneg 1, by have := (h.2.2.2.choose_spec).le h2 ha 1; omega⟩
  · rw [dif_neg h]; omega

open Classical in
noncomputable def OfV (c : ConfigS) : Int × Int := if RingC c then (0, 10) else (cut7 (HC c (0, (1, ())) + longV c.1), 0)
open Classical in
theorem Q_Of {c : ConfigS} (h : Cfg c) (hl : Nodes c.1) (ha : ∀ x ∈ c.1, (nArms x).length < 100000) : Q_z0r c = some (((OfV c).1, ((OfV c).2, ())), ()) := by
  have e1 := Q_Table h 1
  refine fin ?_
  unfold M_z0r
  extract_lets -merge +onlyGivenNames y1
  have e_y1 : y1 = _ := (congrArg RS.get e1).trans (get_some _)
  clear_value y1; subst e_y1
  refine stepC' e1 ?_
  unfold ofV OfV
  by_cases hr : RingC c
  · rw [if_pos hr, if_pos hr]
    refine stepT' rfl ?_
    rfl
  · rw [if_neg hr, if_neg hr]
    refine stepF' rfl ?_
    have e2 := Q_longV hl
    extract_lets -merge +onlyGivenNames y2
    have e_y2 : y2 = _ := (congrArg RS.get e2).trans (get_some _)
    clear_value y2; subst e_y2
    refine stepC' e2 ?_
    have h1 : InR (HC c (0, (1, ()))) := H_in (tabsV c) (blksV c) (grpsV c) (0, (1, ()))
    have h2 := longV_in ha
    have w : IntKind.wrap .i64 (HC c (0, (1, ())) + longV c.1) = HC c (0, (1, ())) + longV c.1 := i64_id (by unfold InR at h1; omega)
    extract_lets -merge +onlyGivenNames y3
    have ey : y3 = cut7 (HC c (0, (1, ())) + longV c.1) := by
      show (if IntKind.wrap .i64 (HC c (0, (1, ())) + longV c.1) < 65537 then IntKind.wrap .i64 (HC c (0, (1, ())) + longV c.1) else 65537) = _
      rw [w]; rfl
    rw [ey]
end Go.AMach

/- Layer 24: BoundCycles. -/
namespace Go.AMach
set_option linter.unusedVariables false
set_option linter.unusedSimpArgs false
set_option linter.unnecessarySimpa false
open Go
set_option linter.unusedVariables false

theorem cut_app {α : Type} (z : α) (a b : List α) : cutL z (cutL z a 0 (0 + a.length) ++ b) 0 ((cutL z a 0 (0 + a.length)).length + b.length) = a ++ b := by
  have e : cutL z a 0 (0 + a.length) = a := by rw [Nat.zero_add]; exact cutL_all z a
  rw [e, ← List.length_append]
  exact cutL_all z _
theorem len_cut0 {α : Type} (z : α) (a : List α) : (cutL z a 0 (0 + a.length)).length = a.length := by rw [Nat.zero_add, cutL_all]
theorem firstG_at {z : GroupS} {k : Int} : ∀ {l : List GroupS} {i : Nat}, (∀ j, j < i → (rdd z l j).1 ≠ k) → i < l.length → (rdd z l i).1 = k → firstG l k = some (rdd z l i)
  | [], i, _, h, _ => by simp at h
  | x :: r, 0, _, _, h => by
    have : (rdd z (x :: r) 0) = x := rfl
    rw [this] at h ⊢
    simp [firstG, List.find?_cons, h]
  | x :: r, i + 1, hj, hl, h => by
    have h0 : x.1 ≠ k := hj 0 (by omega)
    have e : rdd z (x :: r) (i + 1) = rdd z r i := by
      have hl' : i < r.length := by simpa using hl
      rw [rdd_lt hl', rdd_lt hl]; rfl
    rw [e] at h ⊢
    have ih := firstG_at (z := z) (k := k) (l := r) (i := i) (fun j hj' => by
      have := hj (j + 1) (by omega)
      have e2 : rdd z (x :: r) (j + 1) = rdd z r j := by
        have hl' : j < r.length := by simp at hl; omega
        rw [rdd_lt hl', rdd_lt (by simp; omega)]; rfl
      rwa [e2] at this) (by simpa using hl) h
    rw [← ih]
    simp [firstG, List.find?_cons, h0]
theorem foldG_ge {f : ObjS → Int} (hf : ∀ y, InR (f y)) (k : Int) (l : List BucketS) : ∀ b ∈ l, f (1, b.2) ≤ foldG f k l := by
  have mono : ∀ (l : List BucketS) (n : Int), InR n → n ≤ l.foldl (fun n (b : BucketS) => if k = 1 then cut7 (n + f (1, b.2)) else mx n (f (1, b.2))) n ∧ ∀ b ∈ l, f (1, b.2) ≤ l.foldl (fun n (b : BucketS) => if k = 1 then cut7 (n + f (1, b.2)) else mx n (f (1, b.2))) n := by
    intro l
    induction l with
    | nil => intro n _; exact ⟨Int.le_refl _, fun b hb => by cases hb⟩
    | cons x r ih =>
      intro n hn
      have hx := hf (1, x.2)
      have step : InR (if k = 1 then cut7 (n + f (1, x.2)) else mx n (f (1, x.2))) ∧ n ≤ (if k = 1 then cut7 (n + f (1, x.2)) else mx n (f (1, x.2))) ∧ f (1, x.2) ≤ (if k = 1 then cut7 (n + f (1, x.2)) else mx n (f (1, x.2))) := by
        unfold InR at hn hx ⊢
        by_cases c : k = 1
        · rw [if_pos c]; unfold cut7; split <;> omega
        · rw [if_neg c]; unfold mx; split <;> omega
      obtain ⟨i1, i2⟩ := ih _ step.1
      refine ⟨Int.le_trans step.2.1 i1, fun b hb => ?_⟩
      rcases List.mem_cons.1 hb with rfl | hb
      · exact Int.le_trans step.2.2 i1
      · exact i2 b hb
  exact (mono l 0 ⟨by omega, by omega⟩).2

/-! ### More objects behind -/
abbrev joinC (c m : ConfigS) : ConfigS := ([], ([], (cT c ++ cT m, (cE c ++ cE m, (cB c ++ cB m, (cG c ++ cG m, ([], ([], ([], ())))))))))
theorem join_leads (c m : ConfigS) (x : ObjS) : ∀ y ∈ leadsC c x, y ∈ leadsC (joinC c m) x := by
  intro y hy
  unfold leadsC leadsV at hy ⊢
  by_cases c0 : x.1 = 0
  · rw [if_pos c0] at hy ⊢
    obtain ⟨k, hk, rfl⟩ := List.mem_map.1 hy
    refine List.mem_map.2 ⟨k, ?_, rfl⟩
    unfold tabsV at hk ⊢
    cases hf : firstT (cT c) x.2.1 with
    | none => rw [hf] at hk; simp at hk
    | some t =>
      have hf2 : firstT (cT (joinC c m)) x.2.1 = some t := by
        unfold firstT at hf ⊢
        show (cT c ++ cT m).find? _ = _
        rw [List.find?_append, hf]; rfl
      rw [hf] at hk
      rw [hf2]
      simp only [Option.map_some, Option.getD_some, List.mem_cons, List.mem_map, List.mem_filter] at hk ⊢
      rcases hk with h | ⟨a, ⟨ha, hb⟩, hc⟩
      · exact .inl h
      · exact .inr ⟨a, ⟨List.mem_append_left _ ha, hb⟩, hc⟩
  · rw [if_neg c0] at hy ⊢
    by_cases c1 : x.1 = 1
    · rw [if_pos c1] at hy ⊢
      unfold blksV at hy ⊢
      cases hf : firstB (cB c) x.2.1 with
      | none => rw [hf] at hy; simp at hy
      | some t =>
        have hf2 : firstB (cB (joinC c m)) x.2.1 = some t := by
          unfold firstB at hf ⊢
          show (cB c ++ cB m).find? _ = _
          rw [List.find?_append, hf]; rfl
        rw [hf] at hy
        rw [hf2]
        exact hy
    · rw [if_neg c1] at hy ⊢
      unfold grpsV at hy ⊢
      cases hf : firstG (cG c) x.2.1 with
      | none => rw [hf] at hy; exact absurd hy (by simp [zGroupS])
      | some t =>
        have hf2 : firstG (cG (joinC c m)) x.2.1 = some t := by
          unfold firstG at hf ⊢
          show (cG c ++ cG m).find? _ = _
          rw [List.find?_append, hf]; rfl
        rw [hf] at hy
        rw [hf2]
        exact hy
theorem Reach.mono {N N' : ObjS → List ObjS} (h : ∀ x, ∀ y ∈ N x, y ∈ N' x) {x y : ObjS} (k : Reach N x y) : Reach N' x y := by
  induction k with
  | one h1 => exact .one (h _ _ h1)
  | step _ h1 ih => exact .step ih (h _ _ h1)
theorem join_ring {c m : ConfigS} (h : RingC c) : RingC (joinC c m) := by
  obtain ⟨z, hz⟩ := h
  exact ⟨z, hz.mono (join_leads c m)⟩
theorem join_cfg {c m : ConfigS} (h : largeV c = false) (k : largeV m = false) : Cfg (joinC c m) := by
  have h1 := largeV_cfg h; have h2 := largeV_cfg k
  have b1 : (cntC c : Int) ≤ 60 := by
    unfold largeV at h
    by_cases c6 : (cntC c : Int) > 60
    · rw [if_pos c6] at h; cases h
    · omega
  have b2 : (cntC m : Int) ≤ 60 := by
    unfold largeV at k
    by_cases c6 : (cntC m : Int) > 60
    · rw [if_pos c6] at k; cases k
    · omega
  unfold cntC at b1 b2
  refine ⟨?_, ?_, ?_, ?_, fun x hx => ?_, fun x hx => ?_⟩
  · show (cT c ++ cT m).length ≤ 1000; rw [List.length_append]; omega
  · show (cE c ++ cE m).length ≤ 1000; rw [List.length_append]; omega
  · show (cB c ++ cB m).length ≤ 1000; rw [List.length_append]; omega
  · show (cG c ++ cG m).length ≤ 1000; rw [List.length_append]; omega
  · rcases List.mem_append.1 hx with hx | hx
    · exact h1.1.code x hx
    · exact h2.1.code x hx
  · rcases List.mem_append.1 hx with hx | hx
    · exact h1.1.buck x hx
    · exact h2.1.buck x hx

/-! ### The loops -/
theorem L_BC2 (kr : Bool → Option Res) (kt : Unit → Option Res) {c : ConfigS} (h : Cfg c) (hn : ¬ RingC c) (i : Nat) (hi : i < (cG c).length) (n : Int) (hb : ∀ b ∈ (rdd zGroupS (cG c) i).2.2.2.1, HC c (1, b.2) ≤ n) :
    ∀ (m j : Nat), j ≤ (rdd zGroupS (cG c) i).2.2.2.1.length → (rdd zGroupS (cG c) i).2.2.2.1.length - j < m → L_z0v_2 FUEL kr kt (i : Int) n c m (j : Int) = kt ()
  | 0, _, _, h => by omega
  | m + 1, j, hj, hm => by
    have hlb := h.buck _ (rdd_mem (d := zGroupS) hi)
    show F_z0v_2 FUEL kr kt (i : Int) n c (L_z0v_2 FUEL kr kt (i : Int) n c m) (j : Int) = _
    unfold F_z0v_2
    refine stepT' (decide_eq_true (by show (0 : Int) ≤ (i : Int) ∧ (i : Int) < ((cG c).length : Int); omega)) ?_
    rw [toNat_cast]
    by_cases hlt : j < (rdd zGroupS (cG c) i).2.2.2.1.length
    · refine stepT' (decide_eq_true (by show (j : Int) < ((rdd zGroupS (cG c) i).2.2.2.1.length : Int); omega)) ?_
      refine stepT' (decide_eq_true (by show (0 : Int) ≤ (i : Int) ∧ (i : Int) < ((cG c).length : Int); omega)) ?_
      refine stepT' (decide_eq_true (by show (0 : Int) ≤ (j : Int) ∧ (j : Int) < ((rdd zGroupS (cG c) i).2.2.2.1.length : Int); omega)) ?_
      rw [toNat_cast]
      have e1 := Q_Block h (rdd zBucketS (rdd zGroupS (cG c) i).2.2.2.1 j).2.1
      have eo : ofV c (1, ((rdd zBucketS (rdd zGroupS (cG c) i).2.2.2.1 j).2.1, ())) = (HC c (1, (rdd zBucketS (rdd zGroupS (cG c) i).2.2.2.1 j).2), 0) := by unfold ofV; rw [if_neg hn]
      rw [eo] at e1
      have hle := hb _ (rdd_mem (d := zBucketS) hlt)
      extract_lets -merge +onlyGivenNames y10
      extract_lets -merge +onlyGivenNames y11
      have e_y : y11 = _ := (congrArg RS.get e1).trans (get_some _)
      clear_value y11; subst e_y
      refine stepC' e1 ?_
      refine stepF' rfl ?_
      refine stepF' (decide_eq_false (by show ¬ (HC c (1, (rdd zBucketS (rdd zGroupS (cG c) i).2.2.2.1 j).2) > n); omega)) ?_
      rw [i64_succ (by omega)]
      exact L_BC2 kr kt h hn i hi n hb m (j + 1) (by omega) (by omega)
    · refine stepF' (decide_eq_false (by show ¬ (j : Int) < ((rdd zGroupS (cG c) i).2.2.2.1.length : Int); omega)) ?_
      rfl
theorem L_BC0 (kr : Bool → Option Res) (kt : Unit → Option Res) {c : ConfigS} (h : Cfg c) (hn : ¬ RingC c) (id : Int) :
    ∀ (m i : Nat), i ≤ (cG c).length → (cG c).length - i < m → (∀ j, j < i → (rdd zGroupS (cG c) j).1 ≠ id) → L_z0v_0 FUEL kr kt id c m (i : Int) = kt ()
  | 0, _, _, h, _ => by omega
  | m + 1, i, hi, hm, hj => by
    have hlg := h.g
    show F_z0v_0 FUEL kr kt id c (L_z0v_0 FUEL kr kt id c m) (i : Int) = _
    unfold F_z0v_0
    by_cases hlt : i < (cG c).length
    · refine stepT' (decide_eq_true (by show (i : Int) < ((cG c).length : Int); omega)) ?_
      refine stepT' (decide_eq_true (by show (0 : Int) ≤ (i : Int) ∧ (i : Int) < ((cG c).length : Int); omega)) ?_
      rw [toNat_cast]
      by_cases he : (rdd zGroupS (cG c) i).1 = id
      · refine stepF' (by show ((rdd zGroupS (cG c) i).1 != id) = false; rw [int_bne, decide_eq_true he]; rfl) ?_
        have e1 := Q_Group h id
        have eo : ofV c (2, (id, ())) = (HC c (2, (id, ())), 0) := by unfold ofV; rw [if_neg hn]
        rw [eo] at e1
        have hf := firstG_at hj hlt he
        have hv : HC c (2, (id, ())) = cut7 (foldG (HC c) (rdd zGroupS (cG c) i).2.1 (rdd zGroupS (cG c) i).2.2.2.1) := by
          refine Eq.trans (H_eq (h.sol.ends hn (2, (id, ())))) ?_
          unfold stepV
          rw [if_neg (by show ¬ ((2 : Int) = 0); omega), if_neg (by show ¬ ((2 : Int) = 1); omega)]
          have : grpsV c id = some (rdd zGroupS (cG c) i) := hf
          show cut7 (foldG _ ((grpsV c id).getD zGroupS).2.1 ((grpsV c id).getD zGroupS).2.2.2.1) = _
          rw [this]; rfl
        extract_lets -merge +onlyGivenNames y9
        have e_y : y9 = _ := (congrArg RS.get e1).trans (get_some _)
        clear_value y9; subst e_y
        refine stepC' e1 ?_
        refine L_BC2 _ _ h hn i hlt _ (fun b hb => ?_) FUEL 0 (by omega) (by have := h.buck _ (rdd_mem (d := zGroupS) hlt); exact fuel_big (by omega))
        have g1 := foldG_ge (H_in (tabsV c) (blksV c) (grpsV c)) (rdd zGroupS (cG c) i).2.1 (rdd zGroupS (cG c) i).2.2.2.1 b hb
        have g2 : InR (HC c (1, b.2)) := H_in _ _ _ _
        show HC c (1, b.2) ≤ HC c (2, (id, ()))
        rw [hv]
        unfold cut7
        unfold InR at g2
        split <;> omega
      · refine stepT' (by show ((rdd zGroupS (cG c) i).1 != id) = true; rw [int_bne, decide_eq_false he]; rfl) ?_
        rw [i64_succ (by omega)]
        refine L_BC0 kr kt h hn id m (i + 1) (by omega) (by omega) fun j hj' => ?_
        by_cases e : j = i
        · rw [e]; exact he
        · exact hj j (by omega)
    · refine stepF' (decide_eq_false (by show ¬ (i : Int) < ((cG c).length : Int); omega)) ?_
      rfl
theorem joinQ {c m : ConfigS} : ([], ([], ((cutL zTableS ((cutL zTableS c.2.2.1 0 (0 + (List.length c.2.2.1))) ++ m.2.2.1) 0 ((List.length (cutL zTableS c.2.2.1 0 (0 + (List.length c.2.2.1)))) + (List.length m.2.2.1))),
    ((cutL zEntryS ((cutL zEntryS c.2.2.2.1 0 (0 + (List.length c.2.2.2.1))) ++ m.2.2.2.1) 0 ((List.length (cutL zEntryS c.2.2.2.1 0 (0 + (List.length c.2.2.2.1)))) + (List.length m.2.2.2.1))),
    ((cutL zBlockS ((cutL zBlockS c.2.2.2.2.1 0 (0 + (List.length c.2.2.2.2.1))) ++ m.2.2.2.2.1) 0 ((List.length (cutL zBlockS c.2.2.2.2.1 0 (0 + (List.length c.2.2.2.2.1)))) + (List.length m.2.2.2.2.1))),
    ((cutL zGroupS ((cutL zGroupS c.2.2.2.2.2.1 0 (0 + (List.length c.2.2.2.2.2.1))) ++ m.2.2.2.2.2.1) 0 ((List.length (cutL zGroupS c.2.2.2.2.2.1 0 (0 + (List.length c.2.2.2.2.2.1)))) + (List.length m.2.2.2.2.2.1))), ([], ([], ([], ()))))))))) = joinC c m := by
  rw [cut_app, cut_app, cut_app, cut_app]
theorem awakeC : ∀ {A B X : Option Res}, A = X → cond ok_z0s A B = X := fun h => stepC' (o := Q_z0s) awake24 h
open Classical in
theorem Pure.BoundCycles (c : ConfigS) (hg : ConfigT.good c) (m : ConfigS) (hm : ConfigT.good m) (id : Int) (hid : (Ty.int .i64).good id) : Q_z0v c m id = some ((true, ()), ()) := by
  refine fin ?_
  unfold M_z0v
  have el := Q_large (cfg_len hg)
  have ek := Q_large (cfg_len hm)
  have ya : q_z0s = ((true, ()), ()) := (congrArg RS.get awake24).trans (get_some _)
  extract_lets -merge +onlyGivenNames y1
  have e_y : y1 = _ := (congrArg RS.get el).trans (get_some _)
  clear_value y1; subst e_y
  refine stepC' el ?_
  cases hl : largeV c with
  | true =>
    refine stepT' rfl ?_
    rw [ya]
    exact awakeC rfl
  | false =>
    refine stepF' rfl ?_
    extract_lets -merge +onlyGivenNames y3
    have e_y : y3 = _ := (congrArg RS.get ek).trans (get_some _)
    clear_value y3; subst e_y
    refine stepC' ek ?_
    cases hk : largeV m with
    | true =>
      refine stepT' rfl ?_
      rw [ya]
      exact awakeC rfl
    | false =>
      refine stepF' rfl ?_
      obtain ⟨hc, hn60, harm⟩ := largeV_cfg hl
      obtain ⟨hc2, _, _⟩ := largeV_cfg hk
      have hj := join_cfg hl hk
      have t1 := hc.t; have t2 := hc.e; have t3 := hc.b; have t4 := hc.g
      have s1 := hc2.t; have s2 := hc2.e; have s3 := hc2.b; have s4 := hc2.g
      have sz : ∀ {n k : Nat}, n ≤ 1000 → k ≤ 120 → n * k ≤ 2 ^ 46 ∧ n ≤ 2 ^ 46 := fun {n k} h1 h2 => by
        have := Nat.mul_le_mul h1 h2
        exact ⟨by omega, by omega⟩
      have sz2 : ∀ {n p k : Nat}, n ≤ 1000 → p ≤ 1000 → k ≤ 120 → (n + p) * k ≤ 2 ^ 46 ∧ n + p ≤ 2 ^ 46 := fun {n p k} h1 h2 h3 => by
        have := Nat.mul_le_mul (show n + p ≤ 2000 by omega) h3
        exact ⟨by omega, by omega⟩
      rw [ya]
      extract_lets -merge +onlyGivenNames y5
      refine awakeC ?_
      refine stepF' rfl ?_
      rw [joinQ, len_cut0, len_cut0, len_cut0, len_cut0, Nat.zero_add, Nat.zero_add, Nat.zero_add, Nat.zero_add]
      refine stepT' (decide_eq_true (sz t1 (by decide))) ?_
      refine stepT' (decide_eq_true (sz2 t1 s1 (by decide))) ?_
      refine stepT' (decide_eq_true (sz t2 (by decide))) ?_
      refine stepT' (decide_eq_true (sz2 t2 s2 (by decide))) ?_
      refine stepT' (decide_eq_true (sz t3 (by decide))) ?_
      refine stepT' (decide_eq_true (sz2 t3 s3 (by decide))) ?_
      refine stepT' (decide_eq_true (sz t4 (by decide))) ?_
      refine stepT' (decide_eq_true (sz2 t4 s4 (by decide))) ?_
      have eC := Q_Cycle hc
      extract_lets -merge +onlyGivenNames y7
      have e_y : y7 = _ := (congrArg RS.get eC).trans (get_some _)
      clear_value y7; subst e_y
      refine stepC' eC ?_
      by_cases hr : RingC c
      · refine stepT' (decide_eq_true hr) ?_
        have eD := Q_Cycle hj
        extract_lets -merge +onlyGivenNames y8
        have e_y : y8 = _ := (congrArg RS.get eD).trans (get_some _)
        clear_value y8; subst e_y
        refine stepC' eD ?_
        show some (encRes ro_z0v rh_z0v ((decide (RingC (joinC c m)), ()), ())) = _
        rw [decide_eq_true (join_ring hr)]
      · refine stepF' (decide_eq_false hr) ?_
        refine Eq.trans (L_BC0 _ _ hc hr id FUEL 0 (by omega) (fuel_big (by omega)) (fun j hj => by omega)) ?_
        have hN : Nodes c.1 := ⟨by omega, fun x hx => Nat.lt_of_lt_of_le (harm x hx) (by decide), fun x hx => good_node (hg.1.2 x hx)⟩
        have eO := Q_Of hc hN hN.arms
        have eV : OfV c = (cut7 (HC c (0, (1, ())) + longV c.1), 0) := by unfold OfV; rw [if_neg hr]
        rw [eV] at eO
        have h1 : InR (HC c (0, (1, ()))) := H_in _ _ _ _
        have h2 := longV_in hN.arms
        have h3 : InR (cut7 (HC c (0, (1, ())) + longV c.1)) := cut7_in (by unfold InR at h1; omega)
        extract_lets -merge +onlyGivenNames y14
        have e_y : y14 = _ := (congrArg RS.get eO).trans (get_some _)
        clear_value y14; subst e_y
        refine stepC' eO ?_
        refine stepT' rfl ?_
        refine stepT' (decide_eq_true h3.1) ?_
        show some (encRes ro_z0v rh_z0v ((decide (cut7 (HC c (0, (1, ())) + longV c.1) ≤ 65537), ()), ())) = _
        rw [decide_eq_true h3.2]

end Go.AMach
