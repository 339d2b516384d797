/- law19: InstrElse: what is named. -/
import Derived.Test.YtbkbifpjckippaaPb
namespace Go.AMach
set_option linter.unusedVariables false
set_option linter.unusedSimpArgs false
set_option linter.unnecessarySimpa false
open Go
set_option linter.unusedVariables false
set_option linter.unusedSimpArgs false
namespace N19
set_option linter.unusedVariables false
set_option linter.unusedSimpArgs false
set_option linter.unnecessarySimpa false
open W19
theorem may_ids {i : InstrS} (h : mayB i = true) : (toOf i.1 = true → 1 ≤ i.2.1 ∧ i.2.1 ≤ 65534) ∧ (0 < nmOf i.1 → 1 ≤ i.2.2.2.2.1 ∧ i.2.2.2.2.1 ≤ 65534) := by
  obtain ⟨o, t, a, b, n, u⟩ := i
  unfold mayB shB at h
  unfold toOf nmOf
  rcases op_cases o with h' | h' | h' | h' | h' | h' | h' | h' | h' | h' | h' | h' | h' | h' | h' | h' | h' | h' | h' | h' | h' | h' | h' | h'
  · rw [decide_eq_true h'] at h; cases h
  all_goals
    subst h'
    simp [tgtV, idV, numV] at h ⊢
    try (refine ⟨?_, ?_⟩ <;> omega)
    try omega
theorem nm_range (o : Int) : nmOf o ≤ 6 ∧ nmOf o ≠ 1 := by unfold nmOf; repeat' split <;> first | omega | exact ⟨by decide, by decide⟩
/-- A name that is told at place k of n. -/
structure NameG (i : InstrS) (x : NameS) (last : Prop) : Prop where
  id : 1 ≤ x.2.1 ∧ x.2.1 ≤ 65534
  kind : 1 ≤ x.1 ∧ x.1 ≤ 6
  other : x.1 ≠ 1 → x.2.1 = i.2.2.2.2.1 ∧ last
  fld : x.1 = 1 → x.2.1 = i.2.1 ∨ IntKind.wrap .u64 x.2.1 = i.2.2.1.2.1 ∨ IntKind.wrap .u64 x.2.1 = i.2.2.2.1.2.1
theorem arg_good {i : InstrS} {a : ArgS} (ha : a = i.2.2.1 ∨ a = i.2.2.2.1) {L : Prop} : ∀ x ∈ argL a, NameG i x L := fun x hx => by
  unfold argL at hx
  cases hf : fldB a with
  | false => rw [hf] at hx; cases hx
  | true =>
    rw [hf] at hx
    simp only [cond_true, List.mem_singleton] at hx
    subst hx
    have hr : 1 ≤ a.2.1 ∧ a.2.1 ≤ 65534 := by
      unfold fldB at hf
      simp only [cond_dec, int_beq] at hf
      by_cases h2 : a.1 = 2
      · simp [h2] at hf; exact hf
      · simp [h2] at hf
    have e : IntKind.wrap .i64 a.2.1 = a.2.1 := i64_id (by omega)
    refine ⟨by show 1 ≤ IntKind.wrap .i64 a.2.1 ∧ _; rw [e]; exact hr, ⟨Int.le_refl _, show (1 : Int) ≤ 6 by decide⟩, fun h => absurd rfl h, fun _ => ?_⟩
    show _ ∨ IntKind.wrap .u64 (IntKind.wrap .i64 a.2.1) = _ ∨ IntKind.wrap .u64 (IntKind.wrap .i64 a.2.1) = _
    rw [e, u64_in _ (by omega)]
    rcases ha with rfl | rfl
    · exact .inr (.inl rfl)
    · exact .inr (.inr rfl)
theorem names_good {i : InstrS} (h : mayB i = true) : ∀ k, k < (namesL i).length → NameG i (rdd zNameS (namesL i) k) (k + 1 = (namesL i).length) := by
  intro k hk
  have hids := may_ids h
  unfold namesL at hk ⊢
  rw [h] at hk ⊢
  simp only [cond_true] at hk ⊢
  generalize hA : (cond (toOf i.1) [(1, (i.2.1, ()))] [] ++ argL i.2.2.1) ++ argL i.2.2.2.1 = l at *
  have hl : ∀ x ∈ l, NameG i x (k + 1 = (l ++ cond (decide (0 < nmOf i.1)) [(nmOf i.1, (i.2.2.2.2.1, ()))] []).length) := by
    intro x hx
    rw [← hA] at hx
    rcases List.mem_append.1 hx with hx | hx
    · rcases List.mem_append.1 hx with hx | hx
      · cases ht : toOf i.1 with
        | false => rw [ht] at hx; cases hx
        | true =>
          rw [ht] at hx
          simp only [cond_true, List.mem_singleton] at hx
          subst hx
          exact ⟨hids.1 ht, ⟨Int.le_refl _, show (1 : Int) ≤ 6 by decide⟩, fun h => absurd rfl h, fun _ => .inl rfl⟩
      · exact arg_good (.inl rfl) x hx
    · exact arg_good (.inr rfl) x hx
  by_cases hd : 0 < nmOf i.1
  · rw [decide_eq_true hd] at hk hl ⊢
    simp only [cond_true] at hk hl ⊢
    by_cases hk' : k < l.length
    · have e : rdd zNameS (l ++ [(nmOf i.1, (i.2.2.2.2.1, ()))]) k = rdd zNameS l k := by
        rw [rdd_lt (by simp; omega), rdd_lt hk', List.getElem_append_left hk']
      rw [e]
      exact hl _ (rdd_mem hk')
    · simp at hk
      have hke : k = l.length := by omega
      subst hke
      have e : rdd zNameS (l ++ [(nmOf i.1, (i.2.2.2.2.1, ()))]) l.length = (nmOf i.1, (i.2.2.2.2.1, ())) := by
        rw [rdd_lt (by simp)]; simp
      rw [e]
      have hr := nm_range i.1
      exact ⟨hids.2 hd, ⟨by show 1 ≤ nmOf i.1; omega, hr.1⟩, fun _ => ⟨rfl, by simp⟩, fun h => absurd h hr.2⟩
  · rw [decide_eq_false hd] at hk hl ⊢
    simp only [cond_false, List.append_nil] at hk hl ⊢
    exact hl _ (rdd_mem hk)
theorem L_Else3 (kr : Bool → Option Res) (kt : Int → Option Res) (i : InstrS) (l : List NameS) (hl : l.length ≤ 4) (hg : ∀ k, k < l.length → NameG i (rdd zNameS l k) (k + 1 = l.length)) : ∀ (m k : Nat) (c : Int), k ≤ l.length → l.length - k < m → (c = 0 ∨ c = 1 ∧ k = l.length) →
    ∃ c', c' ≤ 1 ∧ L_z0n_3 FUEL kr kt l.length i l m c (k : Int) = kt c'
  | 0, _, _, _, h, _ => by omega
  | m + 1, k, c, hk, hm, hc => by
    by_cases h : k < l.length
    case neg =>
      refine ⟨c, by omega, ?_⟩
      show F_z0n_3 FUEL kr kt l.length i l (L_z0n_3 FUEL kr kt l.length i l m) c (k : Int) = _
      unfold F_z0n_3
      exact stepF (decide_eq_false (by omega)) rfl
    obtain ⟨h1, h2, h3, h4⟩ := hg k h
    have hc0 : c = 0 := by omega
    subst hc0
    have hb : decide ((0 : Int) ≤ (k : Int) ∧ (k : Int) < ((l.length : Nat) : Int)) = true := decide_eq_true (by omega)
    have go : ∀ X, F_z0n_3 FUEL kr kt l.length i l (L_z0n_3 FUEL kr kt l.length i l m) 0 (k : Int) = X → L_z0n_3 FUEL kr kt l.length i l (m + 1) 0 (k : Int) = X := fun X h => h
    by_cases hx : (rdd zNameS l k).1 = 1
    · obtain ⟨c', a, b⟩ := L_Else3 kr kt i l hl hg m (k + 1) 0 (by omega) (by omega) (.inl rfl)
      refine ⟨c', a, go _ ?_⟩
      rw [← b]
      unfold F_z0n_3
      simp only [hb, cond_true, toNat_cast]
      refine stepT (decide_eq_true (by omega)) ?_
      refine stepF (decide_eq_false (by omega)) ?_
      refine stepF (decide_eq_false (by omega)) ?_
      refine stepF (decide_eq_false (by omega)) ?_
      refine stepF (decide_eq_false (by omega)) ?_
      refine stepF (bneF hx) ?_
      rw [i64_succ (by omega)]
      rcases h4 hx with e | e | e
      · exact stepF (bneF e) rfl
      · rw [bneF e]
        cases ((rdd zNameS l k).2.1 != i.2.1) <;> rfl
      · rw [bneF e]
        cases ((rdd zNameS l k).2.1 != i.2.1) <;> cases (IntKind.wrap .u64 (rdd zNameS l k).2.1 != i.2.2.1.2.1) <;> rfl
    · obtain ⟨hN, hlast⟩ := h3 hx
      obtain ⟨c', a, b⟩ := L_Else3 kr kt i l hl hg m (k + 1) 1 (by omega) (by omega) (.inr ⟨rfl, by omega⟩)
      refine ⟨c', a, go _ ?_⟩
      rw [← b]
      unfold F_z0n_3
      simp only [hb, cond_true, toNat_cast]
      refine stepT (decide_eq_true (by omega)) ?_
      refine stepF (decide_eq_false (by omega)) ?_
      refine stepF (decide_eq_false (by omega)) ?_
      refine stepF (decide_eq_false (by omega)) ?_
      refine stepF (decide_eq_false (by omega)) ?_
      refine stepT (bneT hx) ?_
      refine stepF (bneF hN) ?_
      refine stepF (bneF ?_) ?_
      · rw [i64_id (by omega)]; omega
      rw [i64_succ (by omega)]
      rfl
end N19
open N19 W19
theorem Pure.InstrElse (i : InstrS) (hi : InstrT.good i) (k : InstrS) (hk : InstrT.good k) : Q_z0n i k = some ((true, ()), ()) := by
  refine fin ?_
  unfold M_z0n
  simp only [ok_awake, q_awake, ok_May, q_May, (q_Names _).1, (q_Names _).2, cond_true, Bool.not_true, cond_false]
  cases hm : mayB i with
  | false => rfl
  | true =>
    refine stepF rfl ?_
    refine (L_Else0 _ _ i k hm).trans ?_
    have hl := namesL_len i
    obtain ⟨c', a, b⟩ := L_Else3 (fun y27 => some (encRes ro_z0n rh_z0n ((y27, ()), ())))
      (fun y28 => some (encRes ro_z0n rh_z0n (((decide (y28 ≤ (1 : Int))), ()), ()))) i (namesL i) hl (names_good hm) FUEL 0 0 (by omega) (fuel_big (by omega)) (.inl rfl)
    refine Eq.trans b ?_
    show some (encRes ro_z0n rh_z0n (((decide (c' ≤ (1 : Int))), ()), ())) = _
    rw [decide_eq_true a]
end Go.AMach
