/- Layer 15: ways; GraphEnds; GraphRing. -/
import Derived.Test.YtcakaagbhngkhaaPd

namespace Go.AMach
set_option linter.unusedVariables false
set_option linter.unusedSimpArgs false
set_option linter.unnecessarySimpa false
set_option linter.unusedVariables false
set_option linter.unusedSimpArgs false

theorem find_lt {l : List NodeS} (hm : mayP l) {h : Int → Int} (H : Hgt l h) {k : Int} {x : NodeS} (hf : findP l k = some x) {t : Int} (ht : t ∈ goesP x) : h t < h k ∧ (findP l t ≠ none ∨ t = 0 ∨ t = 65535) := by
  refine ⟨H.lt hf ht, ?_⟩
  have := hm.2.2.1 x (findP_some hf).1 t ht
  unfold refOk at this
  simp only [Bool.or_eq_true, decide_eq_true_eq] at this
  rcases this with (h | h) | h
  · left; intro e; rw [e] at h; cases h
  · exact .inr (.inl h)
  · exact .inr (.inr h)
theorem formsOk_mem : ∀ {p : Int} {l : List NodeS}, formsOk p l → ∀ x ∈ l, formP x ∧ p < x.1
  | p, y :: r, h, x, hx => by
    obtain ⟨h1, h2, h3⟩ := h
    rcases List.mem_cons.1 hx with rfl | hx
    · exact ⟨h1, h2⟩
    · have := formsOk_mem h3 x hx
      exact ⟨this.1, by omega⟩
theorem id_range {l : List NodeS} (hm : formsOk 0 l) {k : Int} {x : NodeS} (hf : findP l k = some x) : 1 ≤ k ∧ k ≤ 65534 := by
  obtain ⟨hx, rfl⟩ := findP_some hf
  have := (formsOk_mem hm x hx).1.1
  unfold formL at this
  exact ⟨this.1, this.2.1⟩

/-! ### Next -/
theorem L_Next (kr : Int → Option Res) (kt : Unit → Option Res) (v : Int) (l : List ArmS) (z : NodeS) (hl : l.length < 9223372036854775807) : ∀ (m i : Nat), i ≤ l.length → l.length - i < m →
    (∃ a ∈ l, L_graph_Next_0 FUEL kr kt v l (l.length : Int) z m (i : Int) = kr a.2.1) ∨ L_graph_Next_0 FUEL kr kt v l (l.length : Int) z m (i : Int) = kt ()
  | 0, _, _, h => by omega
  | m + 1, i, hi, hm => by
    show (∃ a ∈ l, F_graph_Next_0 FUEL kr kt v l (l.length : Int) z (L_graph_Next_0 FUEL kr kt v l (l.length : Int) z m) (i : Int) = kr a.2.1) ∨ F_graph_Next_0 FUEL kr kt v l (l.length : Int) z (L_graph_Next_0 FUEL kr kt v l (l.length : Int) z m) (i : Int) = kt ()
    unfold F_graph_Next_0
    simp only [cond_dec, int_beq, toNat_cast]
    by_cases h : i < l.length
    · rw [if_pos (by omega), if_pos (by omega), i64_succ (by omega)]
      by_cases he : (rdd zArmS l i).1 = v
      · rw [if_pos he]; exact .inl ⟨_, rdd_mem h, rfl⟩
      · rw [if_neg he]; exact L_Next kr kt v l z hl m (i + 1) (by omega) (by omega)
    · rw [if_neg (by omega)]; exact .inr rfl

theorem Q_Next (l : List NodeS) (hl : Nodes l) {id : Int} {x : NodeS} (hf : findP l id = some x) (v : Int) : ∃ t ∈ goesP x, Q_graph_Next l id v = some ((t, ()), ()) := by
  have hlen := hl.len
  have harm := hl.arms x (findP_some hf).1
  unfold Q_graph_Next M_graph_Next
  simp only [ok_graph_Find, q_graph_Find, Q_Find l id (by omega), RS.get, Option.getD_some, Option.isSome_some, cond_true, hf, findV]
  rcases L_Next (fun y2 => some (encRes ro_graph_Next rh_graph_Next ((y2, ()), ()))) (fun _ => some (encRes ro_graph_Next rh_graph_Next ((x.2.2.2.2.2.2.2.2.1, ()), ()))) v (nArms x) x (by omega) FUEL 0 (by omega) (by unfold FUEL; omega) with ⟨a, ha, h⟩ | h
  · exact ⟨a.2.1, List.mem_cons_of_mem _ (List.mem_map.2 ⟨a, ha, rfl⟩), fin h⟩
  · exact ⟨nOther x, List.mem_cons_self, fin h⟩

/-! ### Ways -/
/-! ### What comes in -/
theorem good_len {l : List NodeS} (h : (Ty.slice NodeT).good l) : l.length < 9223372036854775807 := by
  have h1 := h.1
  have : NodeT.minb = 88 := rfl
  rw [this] at h1
  omega
/-! ### GraphEnds -/
end Go.AMach
