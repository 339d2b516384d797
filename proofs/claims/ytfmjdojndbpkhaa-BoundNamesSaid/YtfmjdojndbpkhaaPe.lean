/- Parts of the proof. -/
import Derived.Test.YtfmjdojndbpkhaaPc
import Derived.Test.YtfmjdojndbpkhaaPd
import Derived.KernelRfl
/- Layer 24: the bound. -/
namespace Go.AMach
set_option linter.unusedVariables false
set_option linter.unusedSimpArgs false
set_option linter.unnecessarySimpa false
open Go
set_option linter.unusedVariables false

open Classical in
noncomputable def longV (l : List NodeS) : Int := if h : mayP l then (h.2.2.2.choose) 1 else 0
theorem Q_longV {l : List NodeS} (hl : Nodes l) : Q_z0q l = some ((longV l, ()), ()) := by
  unfold longV
  by_cases h : mayP l
  · rw [dif_pos h]
    exact Q_Longest l hl h (h.2.2.2.choose_spec)
  · rw [dif_neg h]
    exact Q_Longest_no l hl h
theorem longV_in {l : List NodeS} (ha : ∀ x ∈ l, (nArms x).length < 100000) : 0 ≤ longV l ∧ longV l ≤ 32 := by
  unfold longV
  by_cases h : mayP l
  · rw [dif_pos h]
    have h2 := h.2.1
    exact ⟨(h.2.2.2.choose_spec).nonneg 1, by have := (h.2.2.2.choose_spec).le h2 ha 1; omega⟩
  · rw [dif_neg h]; omega

open Classical in
noncomputable def OfV (c : ConfigS) : Int × Int := if RingC c then (0, 10) else (cut7 (HC c (0, (1, ())) + longV c.1), 0)
open Classical in
theorem Q_Of {c : ConfigS} (h : Cfg c) (hl : Nodes c.1) (ha : ∀ x ∈ c.1, (nArms x).length < 100000) : Q_z0r c = some (((OfV c).1, ((OfV c).2, ())), ()) := by
  have e1 := Q_Table h 1
  refine fin ?_
  unfold M_z0r
  extract_lets -merge +onlyGivenNames y1
  have e_y1 : y1 = _ := (congrArg RS.get e1).trans (get_some _)
  clear_value y1; subst e_y1
  refine stepC' e1 ?_
  unfold ofV OfV
  by_cases hr : RingC c
  · rw [if_pos hr, if_pos hr]
    refine stepT' rfl ?_
    rfl
  · rw [if_neg hr, if_neg hr]
    refine stepF' rfl ?_
    have e2 := Q_longV hl
    extract_lets -merge +onlyGivenNames y2
    have e_y2 : y2 = _ := (congrArg RS.get e2).trans (get_some _)
    clear_value y2; subst e_y2
    refine stepC' e2 ?_
    have h1 : InR (HC c (0, (1, ()))) := H_in (tabsV c) (blksV c) (grpsV c) (0, (1, ()))
    have h2 := longV_in ha
    have w : IntKind.wrap .i64 (HC c (0, (1, ())) + longV c.1) = HC c (0, (1, ())) + longV c.1 := i64_id (by unfold InR at h1; omega)
    extract_lets -merge +onlyGivenNames y3
    have ey : y3 = cut7 (HC c (0, (1, ())) + longV c.1) := by
      show (if IntKind.wrap .i64 (HC c (0, (1, ())) + longV c.1) < 65537 then IntKind.wrap .i64 (HC c (0, (1, ())) + longV c.1) else 65537) = _
      rw [w]; rfl
    rw [ey]
end Go.AMach

/- Layer 24: BoundCycles. -/
namespace Go.AMach
set_option linter.unusedVariables false
set_option linter.unusedSimpArgs false
set_option linter.unnecessarySimpa false
open Go
set_option linter.unusedVariables false

theorem cut_app {α : Type} (z : α) (a b : List α) : cutL z (cutL z a 0 (0 + a.length) ++ b) 0 ((cutL z a 0 (0 + a.length)).length + b.length) = a ++ b := by
  have e : cutL z a 0 (0 + a.length) = a := by rw [Nat.zero_add]; exact cutL_all z a
  rw [e, ← List.length_append]
  exact cutL_all z _
theorem len_cut0 {α : Type} (z : α) (a : List α) : (cutL z a 0 (0 + a.length)).length = a.length := by rw [Nat.zero_add, cutL_all]
theorem firstG_at {z : GroupS} {k : Int} : ∀ {l : List GroupS} {i : Nat}, (∀ j, j < i → (rdd z l j).1 ≠ k) → i < l.length → (rdd z l i).1 = k → firstG l k = some (rdd z l i)
  | [], i, _, h, _ => by simp at h
  | x :: r, 0, _, _, h => by
    have : (rdd z (x :: r) 0) = x := rfl
    rw [this] at h ⊢
    simp [firstG, List.find?_cons, h]
  | x :: r, i + 1, hj, hl, h => by
    have h0 : x.1 ≠ k := hj 0 (by omega)
    have e : rdd z (x :: r) (i + 1) = rdd z r i := by
      have hl' : i < r.length := by simpa using hl
      rw [rdd_lt hl', rdd_lt hl]; rfl
    rw [e] at h ⊢
    have ih := firstG_at (z := z) (k := k) (l := r) (i := i) (fun j hj' => by
      have := hj (j + 1) (by omega)
      have e2 : rdd z (x :: r) (j + 1) = rdd z r j := by
        have hl' : j < r.length := by simp at hl; omega
        rw [rdd_lt hl', rdd_lt (by simp; omega)]; rfl
      rwa [e2] at this) (by simpa using hl) h
    rw [← ih]
    simp [firstG, List.find?_cons, h0]
theorem foldG_ge {f : ObjS → Int} (hf : ∀ y, InR (f y)) (k : Int) (l : List BucketS) : ∀ b ∈ l, f (1, b.2) ≤ foldG f k l := by
  have mono : ∀ (l : List BucketS) (n : Int), InR n → n ≤ l.foldl (fun n (b : BucketS) => if k = 1 then cut7 (n + f (1, b.2)) else mx n (f (1, b.2))) n ∧ ∀ b ∈ l, f (1, b.2) ≤ l.foldl (fun n (b : BucketS) => if k = 1 then cut7 (n + f (1, b.2)) else mx n (f (1, b.2))) n := by
    intro l
    induction l with
    | nil => intro n _; exact ⟨Int.le_refl _, fun b hb => by cases hb⟩
    | cons x r ih =>
      intro n hn
      have hx := hf (1, x.2)
      have step : InR (if k = 1 then cut7 (n + f (1, x.2)) else mx n (f (1, x.2))) ∧ n ≤ (if k = 1 then cut7 (n + f (1, x.2)) else mx n (f (1, x.2))) ∧ f (1, x.2) ≤ (if k = 1 then cut7 (n + f (1, x.2)) else mx n (f (1, x.2))) := by
        unfold InR at hn hx ⊢
        by_cases c : k = 1
        · rw [if_pos c]; unfold cut7; split <;> omega
        · rw [if_neg c]; unfold mx; split <;> omega
      obtain ⟨i1, i2⟩ := ih _ step.1
      refine ⟨Int.le_trans step.2.1 i1, fun b hb => ?_⟩
      rcases List.mem_cons.1 hb with rfl | hb
      · exact Int.le_trans step.2.2 i1
      · exact i2 b hb
  exact (mono l 0 ⟨by omega, by omega⟩).2

/-! ### More objects behind -/
abbrev joinC (c m : ConfigS) : ConfigS := ([], ([], (cT c ++ cT m, (cE c ++ cE m, (cB c ++ cB m, (cG c ++ cG m, ([], ([], ([], ())))))))))
theorem join_leads (c m : ConfigS) (x : ObjS) : ∀ y ∈ leadsC c x, y ∈ leadsC (joinC c m) x := by
  intro y hy
  unfold leadsC leadsV at hy ⊢
  by_cases c0 : x.1 = 0
  · rw [if_pos c0] at hy ⊢
    obtain ⟨k, hk, rfl⟩ := List.mem_map.1 hy
    refine List.mem_map.2 ⟨k, ?_, rfl⟩
    unfold tabsV at hk ⊢
    cases hf : firstT (cT c) x.2.1 with
    | none => rw [hf] at hk; simp at hk
    | some t =>
      have hf2 : firstT (cT (joinC c m)) x.2.1 = some t := by
        unfold firstT at hf ⊢
        show (cT c ++ cT m).find? _ = _
        rw [List.find?_append, hf]; rfl
      rw [hf] at hk
      rw [hf2]
      simp only [Option.map_some, Option.getD_some, List.mem_cons, List.mem_map, List.mem_filter] at hk ⊢
      rcases hk with h | ⟨a, ⟨ha, hb⟩, hc⟩
      · exact .inl h
      · exact .inr ⟨a, ⟨List.mem_append_left _ ha, hb⟩, hc⟩
  · rw [if_neg c0] at hy ⊢
    by_cases c1 : x.1 = 1
    · rw [if_pos c1] at hy ⊢
      unfold blksV at hy ⊢
      cases hf : firstB (cB c) x.2.1 with
      | none => rw [hf] at hy; simp at hy
      | some t =>
        have hf2 : firstB (cB (joinC c m)) x.2.1 = some t := by
          unfold firstB at hf ⊢
          show (cB c ++ cB m).find? _ = _
          rw [List.find?_append, hf]; rfl
        rw [hf] at hy
        rw [hf2]
        exact hy
    · rw [if_neg c1] at hy ⊢
      unfold grpsV at hy ⊢
      cases hf : firstG (cG c) x.2.1 with
      | none => rw [hf] at hy; exact absurd hy (by simp [zGroupS])
      | some t =>
        have hf2 : firstG (cG (joinC c m)) x.2.1 = some t := by
          unfold firstG at hf ⊢
          show (cG c ++ cG m).find? _ = _
          rw [List.find?_append, hf]; rfl
        rw [hf] at hy
        rw [hf2]
        exact hy
theorem Reach.mono {N N' : ObjS → List ObjS} (h : ∀ x, ∀ y ∈ N x, y ∈ N' x) {x y : ObjS} (k : Reach N x y) : Reach N' x y := by
  induction k with
  | one h1 => exact .one (h _ _ h1)
  | step _ h1 ih => exact .step ih (h _ _ h1)
theorem join_ring {c m : ConfigS} (h : RingC c) : RingC (joinC c m) := by
  obtain ⟨z, hz⟩ := h
  exact ⟨z, hz.mono (join_leads c m)⟩
theorem join_cfg {c m : ConfigS} (h : largeV c = false) (k : largeV m = false) : Cfg (joinC c m) := by
  have h1 := largeV_cfg h; have h2 := largeV_cfg k
  have b1 : (cntC c : Int) ≤ 60 := by
    unfold largeV at h
    by_cases c6 : (cntC c : Int) > 60
    · rw [if_pos c6] at h; cases h
    · omega
  have b2 : (cntC m : Int) ≤ 60 := by
    unfold largeV at k
    by_cases c6 : (cntC m : Int) > 60
    · rw [if_pos c6] at k; cases k
    · omega
  unfold cntC at b1 b2
  refine ⟨?_, ?_, ?_, ?_, fun x hx => ?_, fun x hx => ?_⟩
  · show (cT c ++ cT m).length ≤ 1000; rw [List.length_append]; omega
  · show (cE c ++ cE m).length ≤ 1000; rw [List.length_append]; omega
  · show (cB c ++ cB m).length ≤ 1000; rw [List.length_append]; omega
  · show (cG c ++ cG m).length ≤ 1000; rw [List.length_append]; omega
  · rcases List.mem_append.1 hx with hx | hx
    · exact h1.1.code x hx
    · exact h2.1.code x hx
  · rcases List.mem_append.1 hx with hx | hx
    · exact h1.1.buck x hx
    · exact h2.1.buck x hx

/-! ### The loops -/
theorem L_BC2 (kr : Bool → Option Res) (kt : Unit → Option Res) {c : ConfigS} (h : Cfg c) (hn : ¬ RingC c) (i : Nat) (hi : i < (cG c).length) (n : Int) (hb : ∀ b ∈ (rdd zGroupS (cG c) i).2.2.2.1, HC c (1, b.2) ≤ n) :
    ∀ (m j : Nat), j ≤ (rdd zGroupS (cG c) i).2.2.2.1.length → (rdd zGroupS (cG c) i).2.2.2.1.length - j < m → L_z0y_2 FUEL kr kt (i : Int) n c m (j : Int) = kt ()
  | 0, _, _, h => by omega
  | m + 1, j, hj, hm => by
    have hlb := h.buck _ (rdd_mem (d := zGroupS) hi)
    show F_z0y_2 FUEL kr kt (i : Int) n c (L_z0y_2 FUEL kr kt (i : Int) n c m) (j : Int) = _
    unfold F_z0y_2
    refine stepT' (decide_eq_true (by show (0 : Int) ≤ (i : Int) ∧ (i : Int) < ((cG c).length : Int); omega)) ?_
    rw [toNat_cast]
    by_cases hlt : j < (rdd zGroupS (cG c) i).2.2.2.1.length
    · refine stepT' (decide_eq_true (by show (j : Int) < ((rdd zGroupS (cG c) i).2.2.2.1.length : Int); omega)) ?_
      refine stepT' (decide_eq_true (by show (0 : Int) ≤ (i : Int) ∧ (i : Int) < ((cG c).length : Int); omega)) ?_
      refine stepT' (decide_eq_true (by show (0 : Int) ≤ (j : Int) ∧ (j : Int) < ((rdd zGroupS (cG c) i).2.2.2.1.length : Int); omega)) ?_
      rw [toNat_cast]
      have e1 := Q_Block h (rdd zBucketS (rdd zGroupS (cG c) i).2.2.2.1 j).2.1
      have eo : ofV c (1, ((rdd zBucketS (rdd zGroupS (cG c) i).2.2.2.1 j).2.1, ())) = (HC c (1, (rdd zBucketS (rdd zGroupS (cG c) i).2.2.2.1 j).2), 0) := by unfold ofV; rw [if_neg hn]
      rw [eo] at e1
      have hle := hb _ (rdd_mem (d := zBucketS) hlt)
      extract_lets -merge +onlyGivenNames y10
      extract_lets -merge +onlyGivenNames y11
      have e_y : y11 = _ := (congrArg RS.get e1).trans (get_some _)
      clear_value y11; subst e_y
      refine stepC' e1 ?_
      refine stepF' rfl ?_
      refine stepF' (decide_eq_false (by show ¬ (HC c (1, (rdd zBucketS (rdd zGroupS (cG c) i).2.2.2.1 j).2) > n); omega)) ?_
      rw [i64_succ (by omega)]
      exact L_BC2 kr kt h hn i hi n hb m (j + 1) (by omega) (by omega)
    · refine stepF' (decide_eq_false (by show ¬ (j : Int) < ((rdd zGroupS (cG c) i).2.2.2.1.length : Int); omega)) ?_
      rfl
theorem L_BC0 (kr : Bool → Option Res) (kt : Unit → Option Res) {c : ConfigS} (h : Cfg c) (hn : ¬ RingC c) (id : Int) :
    ∀ (m i : Nat), i ≤ (cG c).length → (cG c).length - i < m → (∀ j, j < i → (rdd zGroupS (cG c) j).1 ≠ id) → L_z0y_0 FUEL kr kt id c m (i : Int) = kt ()
  | 0, _, _, h, _ => by omega
  | m + 1, i, hi, hm, hj => by
    have hlg := h.g
    show F_z0y_0 FUEL kr kt id c (L_z0y_0 FUEL kr kt id c m) (i : Int) = _
    unfold F_z0y_0
    by_cases hlt : i < (cG c).length
    · refine stepT' (decide_eq_true (by show (i : Int) < ((cG c).length : Int); omega)) ?_
      refine stepT' (decide_eq_true (by show (0 : Int) ≤ (i : Int) ∧ (i : Int) < ((cG c).length : Int); omega)) ?_
      rw [toNat_cast]
      by_cases he : (rdd zGroupS (cG c) i).1 = id
      · refine stepF' (by show ((rdd zGroupS (cG c) i).1 != id) = false; rw [int_bne, decide_eq_true he]; rfl) ?_
        have e1 := Q_Group h id
        have eo : ofV c (2, (id, ())) = (HC c (2, (id, ())), 0) := by unfold ofV; rw [if_neg hn]
        rw [eo] at e1
        have hf := firstG_at hj hlt he
        have hv : HC c (2, (id, ())) = cut7 (foldG (HC c) (rdd zGroupS (cG c) i).2.1 (rdd zGroupS (cG c) i).2.2.2.1) := by
          refine Eq.trans (H_eq (h.sol.ends hn (2, (id, ())))) ?_
          unfold stepV
          rw [if_neg (by show ¬ ((2 : Int) = 0); omega), if_neg (by show ¬ ((2 : Int) = 1); omega)]
          have : grpsV c id = some (rdd zGroupS (cG c) i) := hf
          show cut7 (foldG _ ((grpsV c id).getD zGroupS).2.1 ((grpsV c id).getD zGroupS).2.2.2.1) = _
          rw [this]; rfl
        extract_lets -merge +onlyGivenNames y9
        have e_y : y9 = _ := (congrArg RS.get e1).trans (get_some _)
        clear_value y9; subst e_y
        refine stepC' e1 ?_
        refine L_BC2 _ _ h hn i hlt _ (fun b hb => ?_) FUEL 0 (by omega) (by have := h.buck _ (rdd_mem (d := zGroupS) hlt); exact fuel_big (by omega))
        have g1 := foldG_ge (H_in (tabsV c) (blksV c) (grpsV c)) (rdd zGroupS (cG c) i).2.1 (rdd zGroupS (cG c) i).2.2.2.1 b hb
        have g2 : InR (HC c (1, b.2)) := H_in _ _ _ _
        show HC c (1, b.2) ≤ HC c (2, (id, ()))
        rw [hv]
        unfold cut7
        unfold InR at g2
        split <;> omega
      · refine stepT' (by show ((rdd zGroupS (cG c) i).1 != id) = true; rw [int_bne, decide_eq_false he]; rfl) ?_
        rw [i64_succ (by omega)]
        refine L_BC0 kr kt h hn id m (i + 1) (by omega) (by omega) fun j hj' => ?_
        by_cases e : j = i
        · rw [e]; exact he
        · exact hj j (by omega)
    · refine stepF' (decide_eq_false (by show ¬ (i : Int) < ((cG c).length : Int); omega)) ?_
      rfl
theorem joinQ {c m : ConfigS} : ([], ([], ((cutL zTableS ((cutL zTableS c.2.2.1 0 (0 + (List.length c.2.2.1))) ++ m.2.2.1) 0 ((List.length (cutL zTableS c.2.2.1 0 (0 + (List.length c.2.2.1)))) + (List.length m.2.2.1))),
    ((cutL zEntryS ((cutL zEntryS c.2.2.2.1 0 (0 + (List.length c.2.2.2.1))) ++ m.2.2.2.1) 0 ((List.length (cutL zEntryS c.2.2.2.1 0 (0 + (List.length c.2.2.2.1)))) + (List.length m.2.2.2.1))),
    ((cutL zBlockS ((cutL zBlockS c.2.2.2.2.1 0 (0 + (List.length c.2.2.2.2.1))) ++ m.2.2.2.2.1) 0 ((List.length (cutL zBlockS c.2.2.2.2.1 0 (0 + (List.length c.2.2.2.2.1)))) + (List.length m.2.2.2.2.1))),
    ((cutL zGroupS ((cutL zGroupS c.2.2.2.2.2.1 0 (0 + (List.length c.2.2.2.2.2.1))) ++ m.2.2.2.2.2.1) 0 ((List.length (cutL zGroupS c.2.2.2.2.2.1 0 (0 + (List.length c.2.2.2.2.2.1)))) + (List.length m.2.2.2.2.2.1))), ([], ([], ([], ()))))))))) = joinC c m := by
  rw [cut_app, cut_app, cut_app, cut_app]
theorem awakeC : ∀ {A B X : Option Res}, A = X → cond ok_z0s A B = X := fun h => stepC' (o := Q_z0s) awake24 h
open Classical in
theorem Pure.BoundCycles (c : ConfigS) (hg : ConfigT.good c) (m : ConfigS) (hm : ConfigT.good m) (id : Int) (hid : (Ty.int .i64).good id) : Q_z0y c m id = some ((true, ()), ()) := by
  refine fin ?_
  unfold M_z0y
  have el := Q_large (cfg_len hg)
  have ek := Q_large (cfg_len hm)
  have ya : q_z0s = ((true, ()), ()) := (congrArg RS.get awake24).trans (get_some _)
  extract_lets -merge +onlyGivenNames y1
  have e_y : y1 = _ := (congrArg RS.get el).trans (get_some _)
  clear_value y1; subst e_y
  refine stepC' el ?_
  cases hl : largeV c with
  | true =>
    refine stepT' rfl ?_
    rw [ya]
    exact awakeC rfl
  | false =>
    refine stepF' rfl ?_
    extract_lets -merge +onlyGivenNames y3
    have e_y : y3 = _ := (congrArg RS.get ek).trans (get_some _)
    clear_value y3; subst e_y
    refine stepC' ek ?_
    cases hk : largeV m with
    | true =>
      refine stepT' rfl ?_
      rw [ya]
      exact awakeC rfl
    | false =>
      refine stepF' rfl ?_
      obtain ⟨hc, hn60, harm⟩ := largeV_cfg hl
      obtain ⟨hc2, _, _⟩ := largeV_cfg hk
      have hj := join_cfg hl hk
      have t1 := hc.t; have t2 := hc.e; have t3 := hc.b; have t4 := hc.g
      have s1 := hc2.t; have s2 := hc2.e; have s3 := hc2.b; have s4 := hc2.g
      have sz : ∀ {n k : Nat}, n ≤ 1000 → k ≤ 120 → n * k ≤ 2 ^ 46 ∧ n ≤ 2 ^ 46 := fun {n k} h1 h2 => by
        have := Nat.mul_le_mul h1 h2
        exact ⟨by omega, by omega⟩
      have sz2 : ∀ {n p k : Nat}, n ≤ 1000 → p ≤ 1000 → k ≤ 120 → (n + p) * k ≤ 2 ^ 46 ∧ n + p ≤ 2 ^ 46 := fun {n p k} h1 h2 h3 => by
        have := Nat.mul_le_mul (show n + p ≤ 2000 by omega) h3
        exact ⟨by omega, by omega⟩
      rw [ya]
      extract_lets -merge +onlyGivenNames y5
      refine awakeC ?_
      refine stepF' rfl ?_
      rw [joinQ, len_cut0, len_cut0, len_cut0, len_cut0, Nat.zero_add, Nat.zero_add, Nat.zero_add, Nat.zero_add]
      refine stepT' (decide_eq_true (sz t1 (by decide))) ?_
      refine stepT' (decide_eq_true (sz2 t1 s1 (by decide))) ?_
      refine stepT' (decide_eq_true (sz t2 (by decide))) ?_
      refine stepT' (decide_eq_true (sz2 t2 s2 (by decide))) ?_
      refine stepT' (decide_eq_true (sz t3 (by decide))) ?_
      refine stepT' (decide_eq_true (sz2 t3 s3 (by decide))) ?_
      refine stepT' (decide_eq_true (sz t4 (by decide))) ?_
      refine stepT' (decide_eq_true (sz2 t4 s4 (by decide))) ?_
      have eC := Q_Cycle hc
      extract_lets -merge +onlyGivenNames y7
      have e_y : y7 = _ := (congrArg RS.get eC).trans (get_some _)
      clear_value y7; subst e_y
      refine stepC' eC ?_
      by_cases hr : RingC c
      · refine stepT' (decide_eq_true hr) ?_
        have eD := Q_Cycle hj
        extract_lets -merge +onlyGivenNames y8
        have e_y : y8 = _ := (congrArg RS.get eD).trans (get_some _)
        clear_value y8; subst e_y
        refine stepC' eD ?_
        show some (encRes ro_z0y rh_z0y ((decide (RingC (joinC c m)), ()), ())) = _
        rw [decide_eq_true (join_ring hr)]
      · refine stepF' (decide_eq_false hr) ?_
        refine Eq.trans (L_BC0 _ _ hc hr id FUEL 0 (by omega) (fuel_big (by omega)) (fun j hj => by omega)) ?_
        have hN : Nodes c.1 := ⟨by omega, fun x hx => Nat.lt_of_lt_of_le (harm x hx) (by decide), fun x hx => good_node (hg.1.2 x hx)⟩
        have eO := Q_Of hc hN hN.arms
        have eV : OfV c = (cut7 (HC c (0, (1, ())) + longV c.1), 0) := by unfold OfV; rw [if_neg hr]
        rw [eV] at eO
        have h1 : InR (HC c (0, (1, ()))) := H_in _ _ _ _
        have h2 := longV_in hN.arms
        have h3 : InR (cut7 (HC c (0, (1, ())) + longV c.1)) := cut7_in (by unfold InR at h1; omega)
        extract_lets -merge +onlyGivenNames y14
        have e_y : y14 = _ := (congrArg RS.get eO).trans (get_some _)
        clear_value y14; subst e_y
        refine stepC' eO ?_
        refine stepT' rfl ?_
        refine stepT' (decide_eq_true h3.1) ?_
        show some (encRes ro_z0y rh_z0y ((decide (cut7 (HC c (0, (1, ())) + longV c.1) ≤ 65537), ()), ())) = _
        rw [decide_eq_true h3.2]

end Go.AMach

/- Layer 24: less leads to less. -/
namespace Go.AMach
set_option linter.unusedVariables false
set_option linter.unusedSimpArgs false
set_option linter.unnecessarySimpa false
open Go
set_option linter.unusedVariables false

theorem cut7_mono {a b : Int} (h : a ≤ b) : cut7 a ≤ cut7 b := by unfold cut7; split <;> split <;> omega
theorem mx_mono {a b c d : Int} (h : a ≤ c) (k : b ≤ d) : mx a b ≤ mx c d := by unfold mx; split <;> split <;> omega
theorem foldT_ge {f : ObjS → Int} (l : List Int) : 0 ≤ foldT f l ∧ ∀ a ∈ l, f (1, (a, ())) ≤ foldT f l := by
  have : ∀ (l : List Int) (n : Int), n ≤ l.foldl (fun n b => mx n (f (1, (b, ())))) n ∧ ∀ a ∈ l, f (1, (a, ())) ≤ l.foldl (fun n b => mx n (f (1, (b, ())))) n := by
    intro l
    induction l with
    | nil => intro n; exact ⟨Int.le_refl _, fun a ha => by cases ha⟩
    | cons x r ih =>
      intro n
      obtain ⟨i1, i2⟩ := ih (mx n (f (1, (x, ()))))
      have h1 : n ≤ mx n (f (1, (x, ()))) := by unfold mx; split <;> omega
      have h2 : f (1, (x, ())) ≤ mx n (f (1, (x, ()))) := by unfold mx; split <;> omega
      refine ⟨Int.le_trans h1 i1, fun a ha => ?_⟩
      rcases List.mem_cons.1 ha with rfl | ha
      · exact Int.le_trans h2 i1
      · exact i2 a ha
  exact this l 0
theorem foldT_le {f : ObjS → Int} {M : Int} (l : List Int) (h0 : 0 ≤ M) (h : ∀ a ∈ l, f (1, (a, ())) ≤ M) : foldT f l ≤ M := by
  have : ∀ (l : List Int) (n : Int), n ≤ M → (∀ a ∈ l, f (1, (a, ())) ≤ M) → l.foldl (fun n b => mx n (f (1, (b, ())))) n ≤ M := by
    intro l
    induction l with
    | nil => intro n h _; exact h
    | cons x r ih =>
      intro n h hh
      refine ih _ ?_ fun a ha => hh a (List.mem_cons_of_mem _ ha)
      have := hh x List.mem_cons_self
      show mx n (f (1, (x, ()))) ≤ M
      unfold mx; split <;> omega
  exact this l 0 h0 h
theorem foldG_mono {f f' : ObjS → Int} (h : ∀ y, f' y ≤ f y) (k : Int) (l : List BucketS) : foldG f' k l ≤ foldG f k l := by
  have : ∀ (l : List BucketS) (n n' : Int), n' ≤ n → l.foldl (fun n (b : BucketS) => if k = 1 then cut7 (n + f' (1, b.2)) else mx n (f' (1, b.2))) n' ≤ l.foldl (fun n (b : BucketS) => if k = 1 then cut7 (n + f (1, b.2)) else mx n (f (1, b.2))) n := by
    intro l
    induction l with
    | nil => intro n n' h; exact h
    | cons x r ih =>
      intro n n' hn
      refine ih _ _ ?_
      have hx := h (1, x.2)
      show (if k = 1 then cut7 (n' + f' (1, x.2)) else mx n' (f' (1, x.2))) ≤ (if k = 1 then cut7 (n + f (1, x.2)) else mx n (f (1, x.2)))
      by_cases c : k = 1
      · rw [if_pos c, if_pos c]; exact cut7_mono (by omega)
      · rw [if_neg c, if_neg c]; exact mx_mono hn hx
  exact this l 0 0 (Int.le_refl _)
theorem codeL_mono {f f' : ObjS → Int} (h : ∀ y, f' y ≤ f y) : ∀ (l : List InstrS) (i : Nat), rdd 0 (codeL f' l) i ≤ rdd 0 (codeL f l) i
  | [], i => Int.le_refl _
  | x :: r, 0 => by
    show cut7 (1 + nextI f' x r.length (codeL f' r)) ≤ cut7 (1 + nextI f x r.length (codeL f r))
    refine cut7_mono ?_
    have ih := codeL_mono h r
    have : nextI f' x r.length (codeL f' r) ≤ nextI f x r.length (codeL f r) := by
      unfold nextI
      by_cases c1 : x.1 = 23
      · rw [if_pos c1, if_pos c1]; exact Int.le_refl _
      rw [if_neg c1, if_neg c1]
      by_cases c2 : x.1 = 22
      · rw [if_pos c2, if_pos c2]; exact Int.le_refl _
      rw [if_neg c2, if_neg c2]
      by_cases c3 : x.1 = 13
      · rw [if_pos c3, if_pos c3]; exact h _
      rw [if_neg c3, if_neg c3]
      by_cases c4 : x.1 = 14
      · rw [if_pos c4, if_pos c4]; exact h _
      rw [if_neg c4, if_neg c4]
      by_cases c5 : x.1 = 12
      · rw [if_pos c5, if_pos c5]
        split
        · exact mx_mono (ih _) (ih _)
        · exact ih _
      · rw [if_neg c5, if_neg c5]; exact ih _
    omega
  | x :: r, i + 1 => by
    have e : ∀ g : ObjS → Int, rdd 0 (codeL g (x :: r)) (i + 1) = rdd 0 (codeL g r) i := fun g => by
      by_cases c : i < (codeL g r).length
      · rw [rdd_lt c, rdd_lt (l := codeL g (x :: r)) (by show i + 1 < (codeL g r).length + 1; omega)]; rfl
      · rw [rdd_ge (l := codeL g r) (by omega), rdd_ge (l := codeL g (x :: r)) (by show (codeL g r).length + 1 ≤ i + 1; omega)]
    rw [e, e]
    exact codeL_mono h r i

/-- One configuration has, of another one, only less. -/
structure Less (t' t : TabM) (b' b : BlkM) (g' g : GrpM) : Prop where
  t : ∀ k, (t' k = none ∧ t k = none) ∨ ∃ l' l, t' k = some l' ∧ t k = some l ∧ ∀ a ∈ l', a ∈ l
  b : ∀ k, b' k = b k ∨ (b' k).getD [] = []
  g : ∀ k, g' k = g k
theorem Less.leads {t' t : TabM} {b' b : BlkM} {g' g : GrpM} (h : Less t' t b' b g' g) (x : ObjS) : ∀ y ∈ leadsV t' b' g' x, y ∈ leadsV t b g x := by
  intro y hy
  unfold leadsV at hy ⊢
  by_cases c0 : x.1 = 0
  · rw [if_pos c0] at hy ⊢
    rcases h.t x.2.1 with ⟨h1, h2⟩ | ⟨l', l, h1, h2, h3⟩
    · rw [h1] at hy; cases hy
    · rw [h1] at hy
      rw [h2]
      obtain ⟨a, ha, rfl⟩ := List.mem_map.1 hy
      exact List.mem_map.2 ⟨a, h3 a ha, rfl⟩
  · rw [if_neg c0] at hy ⊢
    by_cases c1 : x.1 = 1
    · rw [if_pos c1] at hy ⊢
      rcases h.b x.2.1 with e | e
      · rw [e] at hy; exact hy
      · rw [e] at hy; cases hy
    · rw [if_neg c1] at hy ⊢
      rw [h.g] at hy; exact hy
theorem Less.step {t' t : TabM} {b' b : BlkM} {g' g : GrpM} (h : Less t' t b' b g' g) {f f' : ObjS → Int} (hr : ∀ y, InR (f y)) (hf : ∀ y, f' y ≤ f y) (x : ObjS) : stepV t' b' g' f' x ≤ stepV t b g f x := by
  unfold stepV
  by_cases c0 : x.1 = 0
  · rw [if_pos c0, if_pos c0]
    rcases h.t x.2.1 with ⟨h1, h2⟩ | ⟨l', l, h1, h2, h3⟩
    · rw [h1, h2]; exact Int.le_refl _
    · rw [h1, h2]
      refine cut7_mono ?_
      show foldT f' l' + 1 ≤ foldT f l + 1
      have hg := foldT_ge (f := f) l
      have := foldT_le (f := f') (M := foldT f l) l' hg.1 fun a ha => Int.le_trans (hf _) (hg.2 a (h3 a ha))
      omega
  · rw [if_neg c0, if_neg c0]
    by_cases c1 : x.1 = 1
    · rw [if_pos c1, if_pos c1]
      refine cut7_mono ?_
      rcases h.b x.2.1 with e | e
      · rw [e]; exact codeL_mono hf _ 0
      · rw [e]
        exact (rdd_in (codeL_in hr _) 0).1
    · rw [if_neg c1, if_neg c1, h.g]
      exact cut7_mono (foldG_mono hf _ _)
theorem Less.ring {t' t : TabM} {b' b : BlkM} {g' g : GrpM} (h : Less t' t b' b g' g) (k : Ring (leadsV t' b' g')) : Ring (leadsV t b g) := by
  obtain ⟨z, hz⟩ := k
  exact ⟨z, hz.mono h.leads⟩
theorem Less.ends {t' t : TabM} {b' b : BlkM} {g' g : GrpM} (h : Less t' t b' b g' g) {x : ObjS} (k : Ends (leadsV t b g) x) : Ends (leadsV t' b' g') x := by
  induction k with
  | intro x _ ih => exact Acc.intro _ fun y hy => ih y (h.leads x y hy)
open Classical in
theorem Less.H {t' t : TabM} {b' b : BlkM} {g' g : GrpM} (h : Less t' t b' b g' g) {x : ObjS} (k : Ends (leadsV t b g) x) : H t' b' g' x ≤ H t b g x := by
  induction k with
  | intro x hx ih =>
    rw [H_eq (h.ends (Acc.intro x hx)), H_eq (Acc.intro x hx)]
    rw [stepV_congr (f := AMach.H t' b' g') (f' := fun y => if y ∈ leadsV t b g x then AMach.H t' b' g' y else 0) (fun y hy => (if_pos (h.leads x y hy)).symm),
      stepV_congr (f := AMach.H t b g) (f' := fun y => if y ∈ leadsV t b g x then AMach.H t b g y else 0) (fun y hy => (if_pos hy).symm)]
    refine h.step (fun y => ?_) (fun y => ?_) x
    · show InR (if y ∈ leadsV t b g x then AMach.H t b g y else 0)
      split
      · exact H_in t b g y
      · exact ⟨by omega, by omega⟩
    · show (if y ∈ leadsV t b g x then AMach.H t' b' g' y else 0) ≤ (if y ∈ leadsV t b g x then AMach.H t b g y else 0)
      by_cases c : y ∈ leadsV t b g x
      · rw [if_pos c, if_pos c]; exact ih y c
      · rw [if_neg c, if_neg c]; exact Int.le_refl _

/-! ### Of configurations -/
abbrev LessC (d c : ConfigS) : Prop := Less (tabsV d) (tabsV c) (blksV d) (blksV c) (grpsV d) (grpsV c)
theorem lessC_of {d c : ConfigS} (ht : cT d = cT c) (he : ∀ x ∈ cE d, x ∈ cE c) (hb : ∀ k, blksV d k = blksV c k ∨ (blksV d k).getD [] = []) (hg : cG d = cG c) : LessC d c where
  t := fun k => by
    unfold tabsV
    rw [ht]
    cases firstT (cT c) k with
    | none => exact .inl ⟨rfl, rfl⟩
    | some t =>
      refine .inr ⟨_, _, rfl, rfl, fun a ha => ?_⟩
      simp only [List.mem_cons, List.mem_map, List.mem_filter] at ha ⊢
      rcases ha with rfl | ⟨x, ⟨hx, hy⟩, hz⟩
      · exact .inl rfl
      · exact .inr ⟨x, ⟨he x hx, hy⟩, hz⟩
  b := hb
  g := fun k => by unfold grpsV; rw [hg]
/-- With one block emptied. -/
theorem blks_set (l : List BlockS) (i : Nat) (hi : i < l.length) (k : Int) :
    ((firstB (l.set i ((rdd zBlockS l i).1, ([], ()))) k).map fun x => x.2.1) = ((firstB l k).map fun x => x.2.1) ∨ (((firstB (l.set i ((rdd zBlockS l i).1, ([], ()))) k).map fun x => x.2.1)).getD [] = [] := by
  induction l generalizing i with
  | nil => simp at hi
  | cons x r ih =>
    cases i with
    | zero =>
      show ((firstB ((x.1, ([], ())) :: r) k).map fun x => x.2.1) = _ ∨ ((firstB ((x.1, ([], ())) :: r) k).map fun x => x.2.1).getD [] = []
      by_cases c : x.1 = k
      · right; simp [firstB, List.find?_cons, c]
      · left; simp [firstB, List.find?_cons, c]
    | succ i =>
      have hi' : i < r.length := by simpa using hi
      have e : rdd zBlockS (x :: r) (i + 1) = rdd zBlockS r i := by rw [rdd_lt hi', rdd_lt hi]; rfl
      rw [e]
      show ((firstB (x :: r.set i _) k).map fun x => x.2.1) = _ ∨ ((firstB (x :: r.set i _) k).map fun x => x.2.1).getD [] = []
      by_cases c : x.1 = k
      · left; simp [firstB, List.find?_cons, c]
      · have := ih i hi'
        simp only [firstB, List.find?_cons, c, decide_false] at this ⊢
        exact this
theorem ofV_less {d c : ConfigS} (h : LessC d c) (hc : Cfg c) (hn : ¬ RingC c) (x : ObjS) : HC d x ≤ HC c x ∧ ¬ RingC d :=
  ⟨h.H (hc.sol.ends hn x), fun k => hn (h.ring k)⟩
end Go.AMach

/- Layer 24: BoundParts: what a block and a table come to. -/
namespace Go.AMach
set_option linter.unusedVariables false
set_option linter.unusedSimpArgs false
set_option linter.unnecessarySimpa false
open Go
set_option linter.unusedVariables false

theorem cut7_id {x : Int} (h : InR x) : cut7 x = x := by unfold InR at h; unfold cut7; split <;> omega
theorem firstB_at {z : BlockS} {k : Int} : ∀ {l : List BlockS} {i : Nat}, (∀ j, j < i → (rdd z l j).1 ≠ k) → i < l.length → (rdd z l i).1 = k → firstB l k = some (rdd z l i)
  | [], i, _, h, _ => by simp at h
  | x :: r, 0, _, _, h => by
    have : (rdd z (x :: r) 0) = x := rfl
    rw [this] at h ⊢
    simp [firstB, List.find?_cons, h]
  | x :: r, i + 1, hj, hl, h => by
    have h0 : x.1 ≠ k := hj 0 (by omega)
    have e : rdd z (x :: r) (i + 1) = rdd z r i := by
      have hl' : i < r.length := by simpa using hl
      rw [rdd_lt hl', rdd_lt hl]; rfl
    rw [e] at h ⊢
    have ih := firstB_at (z := z) (k := k) (l := r) (i := i) (fun j hj' => by
      have := hj (j + 1) (by omega)
      have e2 : rdd z (x :: r) (j + 1) = rdd z r j := by
        have hl' : j < r.length := by simp at hl; omega
        rw [rdd_lt hl', rdd_lt (by simp; omega)]; rfl
      rwa [e2] at this) (by simpa using hl) h
    rw [← ih]
    simp [firstB, List.find?_cons, h0]
theorem firstT_at {z : TableS} {k : Int} : ∀ {l : List TableS} {i : Nat}, (∀ j, j < i → (rdd z l j).1 ≠ k) → i < l.length → (rdd z l i).1 = k → firstT l k = some (rdd z l i)
  | [], i, _, h, _ => by simp at h
  | x :: r, 0, _, _, h => by
    have : (rdd z (x :: r) 0) = x := rfl
    rw [this] at h ⊢
    simp [firstT, List.find?_cons, h]
  | x :: r, i + 1, hj, hl, h => by
    have h0 : x.1 ≠ k := hj 0 (by omega)
    have e : rdd z (x :: r) (i + 1) = rdd z r i := by
      have hl' : i < r.length := by simpa using hl
      rw [rdd_lt hl', rdd_lt hl]; rfl
    rw [e] at h ⊢
    have ih := firstT_at (z := z) (k := k) (l := r) (i := i) (fun j hj' => by
      have := hj (j + 1) (by omega)
      have e2 : rdd z (x :: r) (j + 1) = rdd z r j := by
        have hl' : j < r.length := by simp at hl; omega
        rw [rdd_lt hl', rdd_lt (by simp; omega)]; rfl
      rwa [e2] at this) (by simpa using hl) h
    rw [← ih]
    simp [firstT, List.find?_cons, h0]

/-- A block's number, by its first instruction. -/
theorem H_block {c : ConfigS} (hc : Cfg c) (hn : ¬ RingC c) {id : Int} {x : BlockS} (hf : firstB (cB c) id = some x) {i : InstrS} {r : List InstrS} (hx : x.2.1 = i :: r) :
    HC c (1, (id, ())) = cut7 (1 + nextI (HC c) i r.length (codeL (HC c) r)) := by
  refine Eq.trans (H_eq (hc.sol.ends hn (1, (id, ())))) ?_
  unfold stepV
  rw [if_neg (by show ¬ ((1 : Int) = 0); omega), if_pos rfl]
  have : blksV c id = some (i :: r) := by unfold blksV; rw [hf, ← hx]; rfl
  show cut7 (rdd 0 (codeL (HC c) ((blksV c id).getD [])) 0) = _
  rw [this]
  have hi : InR (nextI (HC c) i r.length (codeL (HC c) r)) := nextI_in (H_in (tabsV c) (blksV c) (grpsV c)) i r.length (codeL_in (H_in (tabsV c) (blksV c) (grpsV c)) r)
  exact cut7_id (cut7_in (by have := hi.1; show 0 ≤ 1 + _; omega))
/-- With the rest of a block's code in its place. -/
abbrev restC (c : ConfigS) (id : Int) (r : List InstrS) : ConfigS := (c.1, (c.2.1, (c.2.2.1, (c.2.2.2.1, ((id, (r, ())) :: c.2.2.2.2.1, c.2.2.2.2.2)))))
theorem rest_blks (c : ConfigS) (id : Int) (r : List InstrS) (k : Int) : blksV (restC c id r) k = if k = id then some r else blksV c k := by
  unfold blksV firstB
  show (((id, (r, ())) :: cB c).find? _).map _ = _
  rw [List.find?_cons]
  by_cases h : k = id
  · rw [if_pos h]; simp [h]
  · rw [if_neg h]
    have : ¬ id = k := fun e => h e.symm
    simp [this]
theorem rest_leads {c : ConfigS} {id : Int} {x : BlockS} (hf : firstB (cB c) id = some x) {i : InstrS} {r : List InstrS} (hx : x.2.1 = i :: r) (z : ObjS) : ∀ y ∈ leadsC (restC c id r) z, y ∈ leadsC c z := by
  intro y hy
  unfold leadsC leadsV at hy ⊢
  by_cases c0 : z.1 = 0
  · rw [if_pos c0] at hy ⊢; exact hy
  · rw [if_neg c0] at hy ⊢
    by_cases c1 : z.1 = 1
    · rw [if_pos c1] at hy ⊢
      rw [rest_blks] at hy
      by_cases h : z.2.1 = id
      · rw [if_pos h] at hy
        have : blksV c z.2.1 = some (i :: r) := by unfold blksV; rw [h, hf, ← hx]; rfl
        rw [this]
        obtain ⟨j, hj, hjy⟩ := List.mem_flatMap.1 hy
        exact List.mem_flatMap.2 ⟨j, List.mem_cons_of_mem _ hj, hjy⟩
      · rw [if_neg h] at hy; exact hy
    · rw [if_neg c1] at hy ⊢; exact hy
theorem Ends.mono {N N' : ObjS → List ObjS} (h : ∀ x, ∀ y ∈ N' x, y ∈ N x) {x : ObjS} (k : Ends N x) : Ends N' x := by
  induction k with
  | intro x _ ih => exact Acc.intro _ fun y hy => ih y (h x y hy)
theorem rest_ring {c : ConfigS} {id : Int} {x : BlockS} (hf : firstB (cB c) id = some x) {i : InstrS} {r : List InstrS} (hx : x.2.1 = i :: r) (hn : ¬ RingC c) : ¬ RingC (restC c id r) :=
  fun ⟨z, hz⟩ => hn ⟨z, hz.mono (rest_leads hf hx)⟩
theorem rest_H {c : ConfigS} {id : Int} {x : BlockS} (hf : firstB (cB c) id = some x) {i : InstrS} {r : List InstrS} (hx : x.2.1 = i :: r) {z : ObjS} (hz : Ends (leadsC c) z) :
    (∀ w, (w = z ∨ Reach (leadsC c) z w) → w ≠ (1, (id, ()))) → HC (restC c id r) z = HC c z := by
  induction hz with
  | intro z hh ih =>
    intro hw
    have h1 := H_eq (Acc.intro z hh : Ends (leadsC c) z)
    have h2 := H_eq (Ends.mono (rest_leads hf hx) (Acc.intro z hh : Ends (leadsC c) z))
    refine Eq.trans h2 (Eq.trans ?_ h1.symm)
    have e1 : stepV (tabsV (restC c id r)) (blksV (restC c id r)) (grpsV (restC c id r)) (HC (restC c id r)) z = stepV (tabsV c) (blksV c) (grpsV c) (HC (restC c id r)) z := by
      unfold stepV
      by_cases c0 : z.1 = 0
      · rw [if_pos c0, if_pos c0]; rfl
      · rw [if_neg c0, if_neg c0]
        by_cases c1 : z.1 = 1
        · rw [if_pos c1, if_pos c1, rest_blks]
          have : ¬ z.2.1 = id := fun e => hw z (.inl rfl) (by
            obtain ⟨a, b, u⟩ := z
            simp only at c1 e
            subst c1; subst e; rfl)
          rw [if_neg this]
        · rw [if_neg c1, if_neg c1]; rfl
    refine Eq.trans e1 (stepV_congr fun y hy => ih y hy fun w h => hw w ?_)
    rcases h with rfl | h
    · exact .inr (.one hy)
    · exact .inr ((Reach.one hy).trans h)
theorem H_rest {c : ConfigS} (hc : Cfg c) (hn : ¬ RingC c) {id : Int} {x : BlockS} (hf : firstB (cB c) id = some x) {i : InstrS} {r : List InstrS} (hx : x.2.1 = i :: r) (hd : Cfg (restC c id r)) :
    HC (restC c id r) (1, (id, ())) = rdd 0 (codeL (HC c) r) 0 := by
  have hnd := rest_ring hf hx hn
  refine Eq.trans (H_eq (hd.sol.ends hnd (1, (id, ())))) ?_
  unfold stepV
  rw [if_neg (by show ¬ ((1 : Int) = 0); omega), if_pos rfl, rest_blks, if_pos rfl]
  show cut7 (rdd 0 (codeL (HC (restC c id r)) r) 0) = _
  have e : codeL (HC (restC c id r)) r = codeL (HC c) r := codeL_congr fun j hj y hy => by
    have hy1 : y ∈ leadsC c (1, (id, ())) := by
      unfold leadsC leadsV
      rw [if_neg (by show ¬ ((1 : Int) = 0); omega), if_pos rfl]
      have : blksV c id = some (i :: r) := by unfold blksV; rw [hf, ← hx]; rfl
      show y ∈ ((blksV c id).getD []).flatMap leadI
      rw [this]
      exact List.mem_flatMap.2 ⟨j, List.mem_cons_of_mem _ hj, hy⟩
    refine rest_H hf hx (hc.sol.ends hn y) fun w h e => hn ⟨(1, (id, ())), ?_⟩
    subst e
    rcases h with h | h
    · exact .one (by rw [← h] at hy1; exact hy1)
    · exact (Reach.one hy1).trans h
  rw [e]
  exact cut7_id (rdd_in (codeL_in (H_in _ _ _) r) 0)
/-- A table's number. -/
theorem H_table {c : ConfigS} (hc : Cfg c) (hn : ¬ RingC c) {id : Int} {t : TableS} (hf : firstT (cT c) id = some t) :
    HC c (0, (id, ())) = cut7 (1 + ((cE c).filter fun x => decide (x.1 = id)).foldl (fun n x => mx n (HC c (1, (eB x, ())))) (HC c (1, (tM t, ())))) := by
  refine Eq.trans (H_eq (hc.sol.ends hn (0, (id, ())))) ?_
  unfold stepV
  rw [if_pos rfl]
  have : tabsV c id = some (tM t :: ((cE c).filter fun x => decide (x.1 = id)).map eB) := by unfold tabsV; rw [hf]; rfl
  show cut7 (match tabsV c id with | none => 0 | some l => foldT (HC c) l + 1) = _
  rw [this]
  show cut7 (foldT (HC c) (tM t :: ((cE c).filter fun x => decide (x.1 = id)).map eB) + 1) = _
  unfold foldT
  rw [List.foldl_cons, List.foldl_map, Int.add_comm]
  have h0 : mx 0 (HC c (1, (tM t, ()))) = HC c (1, (tM t, ())) := by
    have : InR (HC c (1, (tM t, ()))) := H_in _ _ _ _
    unfold InR at this; unfold mx; split <;> omega
  rw [h0]
end Go.AMach
