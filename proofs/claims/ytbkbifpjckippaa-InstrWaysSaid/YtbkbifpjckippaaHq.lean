/- law19: the reference's with and Both. -/
import Derived.Test.YtbkbifpjckippaaPa
namespace Go.AMach
set_option linter.unusedVariables false
set_option linter.unusedSimpArgs false
set_option linter.unnecessarySimpa false
open Go
set_option linter.unusedVariables false
set_option linter.unusedSimpArgs false
namespace N19
set_option linter.unusedVariables false
set_option linter.unusedSimpArgs false
set_option linter.unnecessarySimpa false
open W19
def outW (w : WayS) (d : Bool) (l : List WayS) : List WayS := cond d l (withL w l)
theorem with_done (k : Nat → Bool → List WayS → Option Res) (l : List WayS) (w : WayS) (hl : l.length ≤ 1000) : ∀ (m i : Nat) (out : List WayS), i ≤ l.length → out.length ≤ 2 * i + 1 → l.length - i < m → (∀ x ∈ l.drop i, ¬ (x.1 = w.1 ∧ x.2.1 = w.2.1)) →
    L_z0q_0 FUEL k l w m out.length true (i : Int) out = k (out ++ l.drop i).length true (out ++ l.drop i)
  | 0, _, _, _, _, h, _ => by omega
  | m + 1, i, out, hi, ho, hm, hd => by
    show F_z0q_0 FUEL k l w (L_z0q_0 FUEL k l w m) out.length true (i : Int) out = _
    unfold F_z0q_0
    by_cases h : i < l.length
    · have hx := hd (rdd zWayS l i) (by rw [drop_rdd zWayS h]; exact List.mem_cons_self)
      have ih := with_done k l w hl m (i + 1) (out ++ [rdd zWayS l i]) (by omega) (by simp; omega) (by omega) fun x hx => hd x (by rw [drop_rdd zWayS h]; exact List.mem_cons_of_mem _ hx)
      rw [List.length_append] at ih
      have hg : decide ((out.length + 1) * 24 ≤ 2 ^ 46 ∧ out.length + 1 ≤ 2 ^ 46) = true := decide_eq_true (by omega)
      simp only [toNat_cast, cutL_all, hg, cond_true, Bool.not_true, cond_false]
      rw [i64_succ (by omega)]
      refine stepT (decide_eq_true (by omega)) ?_
      refine stepT (decide_eq_true (by omega)) ?_
      have fin : L_z0q_0 FUEL k l w m (out.length + 1) true ((i + 1 : Nat) : Int) (out ++ [rdd zWayS l i]) = k (out ++ l.drop i).length true (out ++ l.drop i) := by
        refine Eq.trans ih ?_
        rw [drop_rdd zWayS h, List.append_assoc]; rfl
      by_cases h1 : (rdd zWayS l i).1 = w.1
      · refine stepT (beqT h1) ?_
        exact stepF (beqF fun e => hx ⟨h1, e⟩) fin
      · exact stepF (beqF h1) fin
    · refine stepF (decide_eq_false (by omega)) ?_
      rw [List.drop_of_length_le (by omega), List.append_nil]
theorem with_open (k : Nat → Bool → List WayS → Option Res) (l : List WayS) (w : WayS) (hs : l.Pairwise wlt) (hl : l.length ≤ 1000) : ∀ (m i : Nat) (out : List WayS), i ≤ l.length → out.length ≤ i → l.length - i < m →
    ∃ d o, L_z0q_0 FUEL k l w m out.length false (i : Int) out = k o.length d o ∧ cond d o (o ++ [w]) = out ++ withL w (l.drop i) ∧ o.length ≤ 2 * l.length + 1
  | 0, _, _, _, _, h => by omega
  | m + 1, i, out, hi, ho, hm => by
    by_cases h : i < l.length
    case neg =>
      refine ⟨false, out, ?_, ?_, by omega⟩
      · show F_z0q_0 FUEL k l w (L_z0q_0 FUEL k l w m) out.length false (i : Int) out = _
        unfold F_z0q_0
        exact stepF (decide_eq_false (by omega)) rfl
      · rw [List.drop_of_length_le (by omega)]; rfl
    have hd := drop_rdd zWayS h
    have hp : (l.drop i).Pairwise wlt := hs.sublist (List.drop_sublist i l)
    rw [hd] at hp
    obtain ⟨hp1, hp2⟩ := List.pairwise_cons.1 hp
    have hg : decide ((out.length + 1) * 24 ≤ 2 ^ 46 ∧ out.length + 1 ≤ 2 ^ 46) = true := decide_eq_true (by omega)
    have hg2 : ∀ x : WayS, decide (((out ++ [x]).length + 1) * 24 ≤ 2 ^ 46 ∧ (out ++ [x]).length + 1 ≤ 2 ^ 46) = true := fun x => decide_eq_true (by simp; omega)
    have hcw : cutL zWayS (out ++ [w]) 0 (out.length + 1) = out ++ [w] := by
      have := cutL_all zWayS (out ++ [w]); rwa [List.length_append] at this
    have op : ∀ X, F_z0q_0 FUEL k l w (L_z0q_0 FUEL k l w m) out.length false (i : Int) out = X → L_z0q_0 FUEL k l w (m + 1) out.length false (i : Int) out = X := fun X h => h
    rw [hd]
    unfold withL
    by_cases hk : (rdd zWayS l i).1 = w.1 ∧ (rdd zWayS l i).2.1 = w.2.1
    · -- the same end
      rw [if_pos hk]
      have hr := with_done k l w hl m (i + 1) (out ++ [wy (rdd zWayS l i).1 (rdd zWayS l i).2.1 (max (rdd zWayS l i).2.2.1 w.2.2.1)]) (by omega) (by simp; omega) (by omega) fun x hx e => by
        have := hp1 x hx; unfold wlt at this; omega
      rw [List.length_append] at hr
      refine ⟨true, _, op _ (Eq.trans ?_ hr), by simp, by simp; omega⟩
      unfold F_z0q_0
      simp only [toNat_cast, cutL_all, hg, cond_true, cond_false]
      rw [i64_succ (by omega)]
      refine stepT (decide_eq_true (by omega)) ?_
      refine stepT (decide_eq_true (by omega)) ?_
      refine stepT (beqT hk.1) ?_
      refine stepT (beqT hk.2) ?_
      have e : (if w.2.2.1 > (rdd zWayS l i).2.2.1 then w.2.2.1 else (rdd zWayS l i).2.2.1) = max (rdd zWayS l i).2.2.1 w.2.2.1 := by split <;> omega
      rw [e]; rfl
    rw [if_neg hk]
    by_cases hw : wlt w (rdd zWayS l i)
    · rw [if_pos hw]
      have hr := with_done k l w hl m (i + 1) ((out ++ [w]) ++ [rdd zWayS l i]) (by omega) (by simp; omega) (by omega) fun x hx e => by
        have := hp1 x hx; unfold wlt at this hw; omega
      rw [List.length_append] at hr
      refine ⟨true, _, op _ (Eq.trans ?_ hr), by simp, by simp; omega⟩
      unfold F_z0q_0
      simp only [toNat_cast, cutL_all, hg, hcw, hg2, cond_true, cond_false, Bool.not_false]
      rw [i64_succ (by omega)]
      refine stepT (decide_eq_true (by omega)) ?_
      refine stepT (decide_eq_true (by omega)) ?_
      unfold wlt at hw
      by_cases h1 : (rdd zWayS l i).1 = w.1
      · refine stepT (beqT h1) ?_
        refine stepF (beqF fun e => hk ⟨h1, e⟩) ?_
        refine stepF (decide_eq_false (by omega)) ?_
        refine stepT (beqT h1) ?_
        exact stepT (decide_eq_true (by omega)) rfl
      · refine stepF (beqF h1) ?_
        exact stepT (decide_eq_true (by omega)) rfl
    · rw [if_neg hw]
      obtain ⟨d, o, e1, e2, e3⟩ := with_open k l w hs hl m (i + 1) (out ++ [rdd zWayS l i]) (by omega) (by simp; omega) (by omega)
      rw [List.length_append] at e1
      refine ⟨d, o, op _ (Eq.trans ?_ e1), by rw [e2]; simp, e3⟩
      unfold F_z0q_0
      simp only [toNat_cast, cutL_all, hg, cond_true, cond_false, Bool.not_false]
      rw [i64_succ (by omega)]
      refine stepT (decide_eq_true (by omega)) ?_
      refine stepT (decide_eq_true (by omega)) ?_
      unfold wlt at hw
      by_cases h1 : (rdd zWayS l i).1 = w.1
      · refine stepT (beqT h1) ?_
        refine stepF (beqF fun e => hk ⟨h1, e⟩) ?_
        refine stepF (decide_eq_false (by omega)) ?_
        refine stepT (beqT h1) ?_
        exact stepF (decide_eq_false (by omega)) rfl
      · refine stepF (beqF h1) ?_
        refine stepF (decide_eq_false (by omega)) ?_
        exact stepF (beqF h1) rfl
theorem Q_with (l : List WayS) (w : WayS) (hs : l.Pairwise wlt) (hl : l.length ≤ 1000) : Q_z0q l w = some (((withL w l).length, ()), (withL w l, ())) := by
  refine fin ?_
  obtain ⟨d, o, e1, e2, e3⟩ := with_open (fun y2 y3 y4 => cond (!y3)
     (cond (decide (((List.length (cutL zWayS y4 0 y2)) + 1) * 24 ≤ 2 ^ 46 ∧ ((List.length (cutL zWayS y4 0 y2)) + 1) ≤ 2 ^ 46))
     (some (encRes ro_z0q rh_z0q ((((List.length (cutL zWayS y4 0 y2)) + 1), ()), (((cutL zWayS y4 0 y2) ++ [w]), ()))))
     (none))
     (some (encRes ro_z0q rh_z0q ((y2, ()), (y4, ()))))) l w hs hl FUEL 0 [] (by omega) (by simp) (fuel_big (by omega))
  refine Eq.trans e1 ?_
  rw [List.drop_zero, List.nil_append] at e2
  rw [← e2]
  cases d with
  | true => rfl
  | false =>
    simp only [Bool.not_false, cond_true, cutL_all, cond_false]
    refine stepT (decide_eq_true (by omega)) ?_
    rw [List.length_append]; rfl
theorem withL_srt {l : List WayS} (w : WayS) (h : l.Pairwise wlt) : (withL w l).Pairwise wlt :=
  (withL_ways (w := w) (P := fun o n s => wy o n s ∈ l) ⟨h, fun x hx => hx, fun o n s hp => ⟨s, Int.le_refl _, hp⟩⟩).srt
theorem withL_len (w : WayS) : ∀ l : List WayS, (withL w l).length ≤ l.length + 1
  | [] => by simp [withL]
  | x :: l => by
    unfold withL
    split
    · simp
    · split
      · simp
      · have := withL_len w l; simp; omega
theorem L_Both (k : List WayS → Option Res) (b : List WayS) (hb : b.length ≤ 400) : ∀ (m i : Nat) (a : List WayS), i ≤ b.length → b.length - i < m → a.Pairwise wlt → a.length ≤ 400 + i →
    L_z0r_0 FUEL k b m a (i : Int) = k (bothL a (b.drop i))
  | 0, _, _, _, h, _, _ => by omega
  | m + 1, i, a, hi, hm, ha, hal => by
    show F_z0r_0 FUEL k b (L_z0r_0 FUEL k b m) a (i : Int) = _
    unfold F_z0r_0
    by_cases h : i < b.length
    · have e := Q_with a (rdd zWayS b i) ha (by omega)
      have eq : q_z0q a (rdd zWayS b i) = _ := (congrArg RS.get e).trans (get_some _)
      refine stepT (decide_eq_true (by omega)) ?_
      refine stepT (decide_eq_true (by omega)) ?_
      rw [toNat_cast]
      refine stepC e ?_
      rw [eq, i64_succ (by omega)]
      simp only [cutL_all]
      have := withL_len (rdd zWayS b i) a
      rw [L_Both k b hb m (i + 1) _ (by omega) (by omega) (withL_srt _ ha) (by omega), drop_rdd zWayS h]
      rfl
    · refine stepF (decide_eq_false (by omega)) ?_
      rw [List.drop_of_length_le (by omega)]; rfl
theorem Q_Both (a b : List WayS) (ha : a.Pairwise wlt) (hal : a.length ≤ 400) (hb : b.length ≤ 400) : Q_z0r a b = some ((bothL a b, ()), ()) := by
  refine fin ?_
  refine (L_Both _ b hb FUEL 0 a (by omega) (fuel_big (by omega)) ha (by omega)).trans ?_
  rw [List.drop_zero]
end N19
end Go.AMach
