/- Layer 24: BoundLess, the law. -/
import Derived.Test.YtfmjdojndbpkhaaPe
import Derived.KernelRfl
namespace Go.AMach
set_option linter.unusedVariables false
set_option linter.unusedSimpArgs false
set_option linter.unnecessarySimpa false
open Go
set_option linter.unusedVariables false

theorem u64_pos {n : Nat} (hn : 0 < n) (hb : n ≤ 1000) : ((IntKind.wrap .u64 ((n : Nat) : Int)) != 0) = true := by
  rw [u64_in _ (by omega), int_bne, decide_eq_false (by omega)]; rfl
open Classical in
theorem Pure.BoundLess (c : ConfigS) (hg : ConfigT.good c) (a1 : Int) (h1 : (Ty.int .i64).good a1) (a2 : Int) (h2 : (Ty.int .i64).good a2) (id : Int) (hid : (Ty.int .i64).good id) : Q_z0v c a1 a2 id = some ((true, ()), ()) := by
  refine fin ?_
  unfold M_z0v
  have el := Q_large (cfg_len hg)
  have ya : q_z0s = ((true, ()), ()) := (congrArg RS.get awake24).trans (get_some _)
  extract_lets -merge +onlyGivenNames y1
  have e_y : y1 = _ := (congrArg RS.get el).trans (get_some _)
  clear_value y1; subst e_y
  refine stepC' el ?_
  cases hl : largeV c with
  | true =>
    refine stepT' rfl ?_
    rw [ya]
    exact awakeC rfl
  | false =>
    refine stepF' rfl ?_
    obtain ⟨hc, hn60, harm⟩ := largeV_cfg hl
    have hN : Nodes c.1 := ⟨by omega, fun x hx => Nat.lt_of_lt_of_le (harm x hx) (by decide), fun x hx => good_node (hg.1.2 x hx)⟩
    have eC := Q_Cycle hc
    extract_lets -merge +onlyGivenNames y3
    have e_y : y3 = _ := (congrArg RS.get eC).trans (get_some _)
    clear_value y3; subst e_y
    refine stepC' eC ?_
    by_cases hr : RingC c
    · refine stepT' (decide_eq_true hr) ?_
      rw [ya]
      exact awakeC rfl
    · refine stepF' (decide_eq_false hr) ?_
      rw [ya]
      extract_lets -merge +onlyGivenNames y5
      refine awakeC ?_
      refine stepF' rfl ?_
      have t2 := hc.e; have t3 := hc.b
      have sz : ∀ {n k : Nat}, n ≤ 2000 → k ≤ 120 → n * k ≤ 2 ^ 46 ∧ n ≤ 2 ^ 46 := fun {n k} h1 h2 => by
        have := Nat.mul_le_mul h1 h2
        exact ⟨by omega, by omega⟩
      by_cases hE0 : 0 < (cE c).length
      · refine stepT' (decide_eq_true (by show ((cE c).length : Int) > 0; omega)) ?_
        refine stepT' (u64_pos hE0 t2) ?_
        obtain ⟨k, hk, hkw⟩ := tmodK a1 hE0 t2
        have hk1 : IntKind.wrap .i64 ((k : Int) + 1) = ((k + 1 : Nat) : Int) := i64_succ (by omega)
        extract_lets -merge +onlyGivenNames y7
        have e7 : IntKind.wrap .i64 y7 = (k : Int) := hkw
        clear_value y7
        rw [e7, hk1, cutE1 zEntryS c.2.2.2.1 (Nat.le_of_lt hk), cutE2 zEntryS c.2.2.2.1 hk]
        rw [cut_app]
        have lt : (List.take k (cE c)).length ≤ 1000 := by rw [List.length_take]; omega
        have ld : (List.drop (k + 1) (cE c)).length ≤ 1000 := by rw [List.length_drop]; omega
        have hE : ∀ x ∈ List.take k (cE c) ++ List.drop (k + 1) (cE c), x ∈ cE c := fun x hx => by
          rcases List.mem_append.1 hx with h | h
          · exact List.mem_of_mem_take h
          · exact List.mem_of_mem_drop h
        have hEl : (List.take k (cE c) ++ List.drop (k + 1) (cE c)).length ≤ (cE c).length := by
          rw [List.length_append, List.length_take, List.length_drop]; omega
        refine stepT' (decide_eq_true (by show (0 : Int) ≤ 0 ∧ (0 : Int) ≤ (k : Int) ∧ (k : Int) ≤ ((cE c).length : Int) ∧ ((cE c).length : Int) ≤ ((cE c).length : Int); omega)) ?_
        refine stepT' (decide_eq_true (sz (by rw [Nat.zero_add]; exact Nat.le_trans lt (by decide)) (by decide))) ?_
        refine stepT' (decide_eq_true (by show (0 : Int) ≤ ((k + 1 : Nat) : Int) ∧ ((k + 1 : Nat) : Int) ≤ ((cE c).length : Int) ∧ ((cE c).length : Int) ≤ ((cE c).length : Int) ∧ ((cE c).length : Int) ≤ ((cE c).length : Int); omega)) ?_
        refine stepT' (decide_eq_true (sz (by rw [len_cut0]; have : (List.take k (cE c)).length + (List.drop (k + 1) (cE c)).length ≤ 2000 := by omega
                                              exact this) (by decide))) ?_
        by_cases hB0 : 0 < (cB c).length
        · refine stepT' (decide_eq_true (by show ((cB c).length : Int) > 0; omega)) ?_
          refine stepT' (u64_pos hB0 t3) ?_
          obtain ⟨j, hj, hjw⟩ := tmodK a2 hB0 t3
          extract_lets -merge +onlyGivenNames y8
          have e8 : IntKind.wrap .i64 y8 = (j : Int) := hjw
          clear_value y8
          rw [e8, setB c.2.2.2.2.1 hj]
          refine stepT' (decide_eq_true (sz (by rw [Nat.zero_add]; exact Nat.le_trans t3 (by decide)) (by decide))) ?_
          refine stepT' (decide_eq_true (by show (0 : Int) ≤ (j : Int) ∧ (j : Int) < ((cB c).length : Int); omega)) ?_
          refine stepT' (decide_eq_true (by show (0 : Int) ≤ (j : Int) ∧ (j : Int) < ((0 + (cB c).length : Nat) : Int); omega)) ?_
          exact leafLess hc (less_ok hc hE hEl (.inr ⟨j, hj, rfl⟩)).1 hN rfl (less_ok hc hE hEl (.inr ⟨j, hj, rfl⟩)).2 hr id
        · refine stepF' (decide_eq_false (by show ¬ ((cB c).length : Int) > 0; omega)) ?_
          exact leafLess hc (less_ok hc hE hEl (.inl rfl)).1 hN rfl (less_ok hc hE hEl (.inl rfl)).2 hr id
      · refine stepF' (decide_eq_false (by show ¬ ((cE c).length : Int) > 0; omega)) ?_
        by_cases hB0 : 0 < (cB c).length
        · refine stepT' (decide_eq_true (by show ((cB c).length : Int) > 0; omega)) ?_
          refine stepT' (u64_pos hB0 t3) ?_
          obtain ⟨j, hj, hjw⟩ := tmodK a2 hB0 t3
          extract_lets -merge +onlyGivenNames y17
          have e8 : IntKind.wrap .i64 y17 = (j : Int) := hjw
          clear_value y17
          rw [e8, setB c.2.2.2.2.1 hj]
          refine stepT' (decide_eq_true (sz (by rw [Nat.zero_add]; exact Nat.le_trans t3 (by decide)) (by decide))) ?_
          refine stepT' (decide_eq_true (by show (0 : Int) ≤ (j : Int) ∧ (j : Int) < ((cB c).length : Int); omega)) ?_
          refine stepT' (decide_eq_true (by show (0 : Int) ≤ (j : Int) ∧ (j : Int) < ((0 + (cB c).length : Nat) : Int); omega)) ?_
          exact leafLess hc (less_ok hc (E := cE c) (fun x h => h) (Nat.le_refl _) (.inr ⟨j, hj, rfl⟩)).1 hN rfl (less_ok hc (E := cE c) (fun x h => h) (Nat.le_refl _) (.inr ⟨j, hj, rfl⟩)).2 hr id
        · refine stepF' (decide_eq_false (by show ¬ ((cB c).length : Int) > 0; omega)) ?_
          exact leafLess hc (less_ok hc (E := cE c) (fun x h => h) (Nat.le_refl _) (.inl rfl)).1 hN rfl (less_ok hc (E := cE c) (fun x h => h) (Nat.le_refl _) (.inl rfl)).2 hr id
end Go.AMach
