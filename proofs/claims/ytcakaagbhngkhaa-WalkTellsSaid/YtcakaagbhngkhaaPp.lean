/- Layer 16: the document's ranks; May. -/
import Derived.Test.YtcakaagbhngkhaaPo
namespace Go.AMach
set_option linter.unusedVariables false
set_option linter.unusedSimpArgs false
set_option linter.unnecessarySimpa false
open Go
set_option linter.unusedVariables false

theorem set_self {l : List Int} {i : Nat} (h : i < l.length) : l.set i (rdd 0 l i) = l := by
  rw [rdd_lt h]; exact List.set_getElem_self h
theorem rdd_set {l : List Int} {i : Nat} {v : Int} (h : i < l.length) : rdd 0 (l.set i v) i = v := by
  rw [rdd_lt (by simpa using h)]; simp
theorem rdd_map {α : Type} {d : α} {l : List α} {f : α → Int} {i : Nat} (h : i < l.length) : rdd 0 (l.map f) i = f (rdd d l i) := by
  rw [rdd_lt (by simpa using h), rdd_lt h]; simp

theorem L_r6 (kt : List Int → Option Res) (l : List NodeS) (hl : l.length ≤ 32) (r : Nat) (most rd : Int) (i : Nat) (hi : i < l.length) (to : List Int) (k : Nat) (hk : k < to.length) (t : Int) (ht : rdd 0 to k = t) : ∀ (m n : Nat) (now : List Int), now.length = l.length → n ≤ l.length → l.length - n < m →
    L_turnoutref15_ranks_6 FUEL kt l most l.length rd l.length (i : Int) to.length (k : Int) (l.map fun x => rk l r x.1) to m (n : Int) now = kt (now.set i (if (∃ y ∈ l.drop n, y.1 = t) ∧ rk l r t > rdd 0 now i then rk l r t else rdd 0 now i))
  | 0, _, _, _, _, h => by omega
  | m + 1, n, now, hnow, hn, hm => by
    show F_turnoutref15_ranks_6 FUEL kt l most l.length rd l.length (i : Int) to.length (k : Int) (l.map fun x => rk l r x.1) to (L_turnoutref15_ranks_6 FUEL kt l most l.length rd l.length (i : Int) to.length (k : Int) (l.map fun x => rk l r x.1) to m) (n : Int) now = _
    unfold F_turnoutref15_ranks_6
    simp only [cond_dec, int_beq, toNat_cast, ht]
    by_cases h : n < l.length
    · rw [if_pos (by omega), if_pos (by omega), if_pos (by omega), drop_rdd zNodeS h]
      by_cases he : (rdd zNodeS l n).1 = t
      · rw [if_pos he, if_pos (by omega), if_pos (by omega), if_pos (by omega), rdd_map (d := zNodeS) h, he, i64_succ (by omega)]
        rw [L_r6 kt l hl r most rd i hi to k hk t ht m (n + 1) _ (by simpa using hnow) (by omega) (by omega)]
        rw [rdd_set (by omega)]
        congr 1
        rw [List.set_set]
        congr 1
        have ex : ∃ y ∈ rdd zNodeS l n :: l.drop (n + 1), y.1 = t := ⟨_, List.mem_cons_self, he⟩
        have e1 : (if rk l r t > rdd 0 now i then rk l r t else rdd 0 now i) ≥ rk l r t := by clear ex; split <;> omega
        generalize hV : (if rk l r t > rdd 0 now i then rk l r t else rdd 0 now i) = V at e1 ⊢
        rw [if_neg (fun k => absurd k.2 (by clear ex; omega)), ← hV]
        by_cases hgt : rk l r t > rdd 0 now i
        · rw [if_pos hgt, if_pos ⟨ex, hgt⟩]
        · rw [if_neg hgt, if_neg (fun k => hgt k.2)]
      · rw [if_neg he, i64_succ (by omega), L_r6 kt l hl r most rd i hi to k hk t ht m (n + 1) now hnow (by omega) (by omega)]
        congr 2
        have : (∃ y ∈ rdd zNodeS l n :: l.drop (n + 1), y.1 = t) ↔ (∃ y ∈ l.drop (n + 1), y.1 = t) := by
          constructor
          · rintro ⟨y, hy, e⟩
            rcases List.mem_cons.1 hy with rfl | hy
            · exact absurd e he
            · exact ⟨y, hy, e⟩
          · rintro ⟨y, hy, e⟩; exact ⟨y, List.mem_cons_of_mem _ hy, e⟩
        simp only [this]
    · rw [if_neg (by omega), List.drop_of_length_le (by omega)]
      simp only [List.not_mem_nil, false_and, exists_false, if_false]
      rw [set_self (by omega)]

theorem rk_none {l : List NodeS} {t : Int} (h : ¬ ∃ y ∈ l, y.1 = t) : ∀ r, rk l r t = 0
  | 0 => rfl
  | r + 1 => by
    simp only [rk]
    cases hf : findP l t with
    | none => rfl
    | some x => exact absurd ⟨x, (findP_some hf).1, (findP_some hf).2⟩ h

theorem L_r4 (kt : List Int → Option Res) (l : List NodeS) (hl : l.length ≤ 32) (r : Nat) (most rd : Int) (i : Nat) (hi : i < l.length) (to : List Int) (hto : to.length < 1000000) : ∀ (m k : Nat) (now : List Int), now.length = l.length → 0 ≤ rdd 0 now i → k ≤ to.length → to.length - k < m →
    L_turnoutref15_ranks_4 FUEL kt l most l.length rd l.length (i : Int) to.length (l.map fun x => rk l r x.1) to m (k : Int) now = kt (now.set i (hmax (rk l r) (to.drop k) (rdd 0 now i)))
  | 0, _, _, _, _, _, h => by omega
  | m + 1, k, now, hnow, h0, hk, hm => by
    show F_turnoutref15_ranks_4 FUEL kt l most l.length rd l.length (i : Int) to.length (l.map fun x => rk l r x.1) to (L_turnoutref15_ranks_4 FUEL kt l most l.length rd l.length (i : Int) to.length (l.map fun x => rk l r x.1) to m) (k : Int) now = _
    unfold F_turnoutref15_ranks_4
    simp only [cond_dec]
    by_cases h : k < to.length
    · rw [if_pos (by omega)]
      refine Eq.trans (L_r6 _ l hl r most rd i hi to k h (rdd 0 to k) rfl FUEL 0 now hnow (by omega) (by unfold FUEL; omega)) ?_
      rw [List.drop_zero, i64_succ (by omega), drop_rdd (0 : Int) h, hmax_cons]
      have e : (if (∃ y ∈ l, y.1 = rdd 0 to k) ∧ rk l r (rdd 0 to k) > rdd 0 now i then rk l r (rdd 0 to k) else rdd 0 now i) = (if rk l r (rdd 0 to k) > rdd 0 now i then rk l r (rdd 0 to k) else rdd 0 now i) := by
        by_cases hex : ∃ y ∈ l, y.1 = rdd 0 to k
        · simp only [hex, true_and]
        · rw [if_neg (fun k => hex k.1), rk_none hex, if_neg (by omega)]
      rw [e]
      clear e
      generalize hv : (if rk l r (rdd 0 to k) > rdd 0 now i then rk l r (rdd 0 to k) else rdd 0 now i) = v
      have hv0 : 0 ≤ v := by rw [← hv]; split <;> omega
      rw [L_r4 kt l hl r most rd i hi to hto m (k + 1) _ (by simpa using hnow) (by rw [rdd_set (by omega)]; exact hv0) (by omega) (by omega)]
      rw [rdd_set (by omega), List.set_set]
    · rw [if_neg (by omega), List.drop_of_length_le (by omega)]
      show kt now = kt (now.set i (rdd 0 now i))
      rw [set_self (by omega)]

theorem L_r2 (kt : List Int → Option Res) (l : List NodeS) (hl : l.length ≤ 32) (ha : ∀ x ∈ l, (nArms x).length < 100000) (hu : ∀ x ∈ l, findP l x.1 = some x) (r : Nat) (hr : r ≤ 100) (most rd : Int) : ∀ (m i : Nat), i ≤ l.length → l.length - i < m →
    L_turnoutref15_ranks_2 FUEL kt l most l.length rd l.length (l.map fun x => rk l r x.1) m (i : Int) (((l.take i).map fun x => rk l (r + 1) x.1) ++ List.replicate (l.length - i) 0) = kt (l.map fun x => rk l (r + 1) x.1)
  | 0, _, _, h => by omega
  | m + 1, i, hi, hm => by
    show F_turnoutref15_ranks_2 FUEL kt l most l.length rd l.length (l.map fun x => rk l r x.1) (L_turnoutref15_ranks_2 FUEL kt l most l.length rd l.length (l.map fun x => rk l r x.1) m) (i : Int) _ = _
    unfold F_turnoutref15_ranks_2
    simp only [cond_dec, toNat_cast]
    by_cases h : i < l.length
    · have hx := ha _ (rdd_mem (d := zNodeS) h)
      have hfx := hu _ (rdd_mem (d := zNodeS) h)
      have hrep : List.replicate (l.length - i) (0 : Int) = 0 :: List.replicate (l.length - (i + 1)) 0 := by
        rw [show l.length - i = (l.length - (i + 1)) + 1 by omega]; rfl
      have htl : ((l.take i).map fun x => rk l (r + 1) x.1).length = i := by simp; omega
      rw [if_pos (by omega), if_pos (by omega), hrep]
      simp only [ok_turnoutref15_Goes, q_turnoutref15_Goes, Q_refGoes _ hx, RS.get, Option.getD_some, Option.isSome_some, cond_true]
      have hgl : (goesR (rdd zNodeS l i)).length < 1000000 := by unfold goesR; simp; omega
      have hr0 : rdd 0 (((l.take i).map fun x => rk l (r + 1) x.1) ++ 0 :: List.replicate (l.length - (i + 1)) 0) i = 0 := by
        have := rdd_mid (d := (0 : Int)) ((l.take i).map fun x => rk l (r + 1) x.1) 0 (List.replicate (l.length - (i + 1)) 0)
        rw [htl] at this; exact this
      refine Eq.trans (L_r4 _ l hl r most rd i h (goesR (rdd zNodeS l i)) hgl FUEL 0 _ (by simp; omega) (by rw [hr0]; exact Int.le_refl _) (by omega) (by unfold FUEL; omega)) ?_
      rw [hr0, List.drop_zero, hmaxR, set_mid _ _ _ htl]
      have hb : hmax (rk l r) (goesP (rdd zNodeS l i)) 0 ≤ r := hmax_le _ _ (by omega) fun t _ => rk_le l r t
      have hb0 := hmax_ge0 (rk l r) (goesP (rdd zNodeS l i)) 0
      have hr1 : rdd 0 (((l.take i).map fun x => rk l (r + 1) x.1) ++ hmax (rk l r) (goesP (rdd zNodeS l i)) 0 :: List.replicate (l.length - (i + 1)) 0) i = hmax (rk l r) (goesP (rdd zNodeS l i)) 0 := by
        have := rdd_mid (d := (0 : Int)) ((l.take i).map fun x => rk l (r + 1) x.1) (hmax (rk l r) (goesP (rdd zNodeS l i)) 0) (List.replicate (l.length - (i + 1)) 0)
        rw [htl] at this; exact this
      rw [if_pos (by omega), if_pos (by omega), hr1, set_mid _ _ _ htl, i64_succ (by omega), IntWalk.i64_in _ (by omega)]
      have e : (((l.take i).map fun x => rk l (r + 1) x.1) ++ (hmax (rk l r) (goesP (rdd zNodeS l i)) 0 + 1) :: List.replicate (l.length - (i + 1)) 0) = ((l.take (i + 1)).map fun x => rk l (r + 1) x.1) ++ List.replicate (l.length - (i + 1)) 0 := by
        rw [take_rdd zNodeS h, List.map_append, List.append_assoc]
        congr 1
        have : rk l (r + 1) (rdd zNodeS l i).1 = 1 + hmax (rk l r) (goesP (rdd zNodeS l i)) 0 := by simp only [rk]; rw [hfx]
        simp only [List.map_cons, List.map_nil, this, List.singleton_append]
        rw [Int.add_comm]
      rw [e]
      exact L_r2 kt l hl ha hu r hr most rd m (i + 1) (by omega) (by omega)
    · rw [if_neg (by omega)]
      have : i = l.length := by omega
      subst this
      rw [List.take_of_length_le (Nat.le_refl _), Nat.sub_self]
      simp

theorem L_r0 (kt : Nat → List Int → Option Res) (l : List NodeS) (hl : l.length ≤ 32) (ha : ∀ x ∈ l, (nArms x).length < 100000) (hu : ∀ x ∈ l, findP l x.1 = some x) (most : Nat) (hmo : most ≤ 100) : ∀ (m r : Nat), r ≤ most → most - r < m →
    L_turnoutref15_ranks_0 FUEL kt l (most : Int) m l.length (r : Int) (l.map fun x => rk l r x.1) = kt l.length (l.map fun x => rk l most x.1)
  | 0, _, _, h => by omega
  | m + 1, r, hr, hm => by
    show F_turnoutref15_ranks_0 FUEL kt l (most : Int) (L_turnoutref15_ranks_0 FUEL kt l (most : Int) m) l.length (r : Int) (l.map fun x => rk l r x.1) = _
    unfold F_turnoutref15_ranks_0
    simp only [cond_dec, toNat_cast]
    by_cases h : r < most
    · rw [if_pos (by omega), if_pos (by omega)]
      have := L_r2 (fun y5 => L_turnoutref15_ranks_0 FUEL kt l (most : Int) m l.length (IntKind.wrap .i64 ((r : Int) + 1)) y5) l hl ha hu r (by omega) (most : Int) (r : Int) FUEL 0 (by omega) (by unfold FUEL; omega)
      simp only [List.take_zero, List.map_nil, List.nil_append, Nat.sub_zero] at this
      refine Eq.trans this ?_
      rw [i64_succ (by omega)]
      exact L_r0 kt l hl ha hu most hmo m (r + 1) (by omega) (by omega)
    · rw [if_neg (by omega)]
      have : r = most := by omega
      subst this; rfl

theorem Q_ranks (l : List NodeS) (hl : l.length ≤ 32) (ha : ∀ x ∈ l, (nArms x).length < 100000) (hu : ∀ x ∈ l, findP l x.1 = some x) (most : Nat) (hmo : most ≤ 100) :
    Q_turnoutref15_ranks l (most : Int) = some ((l.length, ()), (l.map (fun x => rk l most x.1), ())) := by
  refine fin ?_
  unfold M_turnoutref15_ranks
  simp only [cond_dec, toNat_cast]
  rw [if_pos (by omega)]
  have e : List.replicate l.length (0 : Int) = l.map fun x => rk l 0 x.1 := by
    exact (List.eq_replicate_iff.2 ⟨by simp, fun b hb => by simp [rk] at hb; exact hb.2.symm⟩).symm
  rw [e]
  exact L_r0 _ l hl ha hu most hmo FUEL 0 (by omega) (by unfold FUEL; omega)
end Go.AMach
