/- The plain theory of graphs and walks, at this seat. -/
import Derived.Test.YtphmidhlgkclgaaGc
import Derived.Test.YtphmidhlgkclgaaAm23

namespace Go.AMach
set_option linter.unusedVariables false
set_option linter.unusedSimpArgs false
set_option linter.unnecessarySimpa false
open Go
set_option linter.unusedVariables false

/-! -: Ranks -/
def rk (l : List NodeS) : Nat → Int → Int
  | 0, _ => 0
  | r + 1, k => match findP l k with
    | none => 0
    | some x => 1 + hmax (rk l r) (goesP x) 0

theorem hmax_le {f : Int → Int} {B : Int} : ∀ (g : List Int) (m0 : Int), m0 ≤ B → (∀ t ∈ g, f t ≤ B) → hmax f g m0 ≤ B := fun g m0 h0 h => by
  rcases hmax_mem f g m0 with e | ⟨t, ht, e⟩
  · rw [e]; exact h0
  · rw [e]; exact h t ht
theorem rk_nonneg (l : List NodeS) : ∀ r k, 0 ≤ rk l r k
  | 0, k => Int.le_refl _
  | r + 1, k => by
    simp only [rk]
    split
    · exact Int.le_refl _
    · rename_i x _
      have := hmax_ge0 (rk l r) (goesP x) 0
      omega
theorem rk_le (l : List NodeS) : ∀ (r : Nat) k, rk l r k ≤ r
  | 0, k => Int.le_refl _
  | r + 1, k => by
    simp only [rk]
    split
    · omega
    · rename_i x _
      have := hmax_le (f := rk l r) (B := r) (goesP x) 0 (by omega) fun t _ => rk_le l r t
      omega
theorem rk_mono (l : List NodeS) : ∀ (r : Nat) k, rk l r k ≤ rk l (r + 1) k
  | 0, k => rk_nonneg l 1 k
  | r + 1, k => by
    cases hf : findP l k with
    | none => simp [rk, hf]
    | some x =>
      have e1 : rk l (r + 1) k = 1 + hmax (rk l r) (goesP x) 0 := by simp [rk, hf]
      have e2 : rk l (r + 1 + 1) k = 1 + hmax (rk l (r + 1)) (goesP x) 0 := by
        show (match findP l k with | none => 0 | some x => 1 + hmax (rk l (r + 1)) (goesP x) 0) = _
        rw [hf]
      rw [e1, e2]
      have := hmax_le (f := rk l r) (B := hmax (rk l (r + 1)) (goesP x) 0) (goesP x) 0 (hmax_ge0 _ _ _) fun t ht =>
        Int.le_trans (rk_mono l r t) (hmax_ge _ _ _ t ht)
      omega
/-- Where a round tells more, it tells as many as there were rounds. -/
theorem rk_jump (l : List NodeS) : ∀ (r : Nat) k, rk l r k < rk l (r + 1) k → rk l (r + 1) k = r + 1
  | 0, k, h => by
    have h1 := rk_le l 1 k
    have h0 : rk l 0 k = 0 := rfl
    have h : rk l 0 k < rk l 1 k := h
    show rk l 1 k = ((0 : Nat) : Int) + 1
    omega
  | r + 1, k, h => by
    cases hf : findP l k with
    | none => simp [rk, hf] at h
    | some x =>
      have e1 : rk l (r + 1) k = 1 + hmax (rk l r) (goesP x) 0 := by simp [rk, hf]
      have e2 : rk l (r + 1 + 1) k = 1 + hmax (rk l (r + 1)) (goesP x) 0 := by
        show (match findP l k with | none => 0 | some x => 1 + hmax (rk l (r + 1)) (goesP x) 0) = _
        rw [hf]
      rw [e1, e2] at h
      rw [e2]
      rcases hmax_mem (rk l (r + 1)) (goesP x) 0 with e | ⟨t, ht, e⟩
      · have := hmax_ge0 (rk l r) (goesP x) 0; omega
      · have h1 := hmax_ge (rk l r) (goesP x) 0 t ht
        have := rk_jump l r t (by omega)
        omega
theorem rk_hgt {l : List NodeS} {h : Int → Int} (H : Hgt l h) : ∀ (r : Nat) k, rk l r k ≤ h k
  | 0, k => H.nonneg k
  | r + 1, k => by
    simp only [rk]
    cases hf : findP l k with
    | none => exact H.nonneg k
    | some x =>
      rw [H.is k x hf]
      have := hmax_le (f := rk l r) (B := hmax h (goesP x) 0) (goesP x) 0 (hmax_ge0 _ _ _) fun t ht => Int.le_trans (rk_hgt H r t) (hmax_ge _ _ _ t ht)
      simp only []
      omega
theorem hgt_rk {l : List NodeS} {r : Nat} (h : ∀ x ∈ l, rk l (r + 1) x.1 ≤ r) : Hgt l (rk l r) := by
  have same : ∀ k, rk l (r + 1) k = rk l r k := fun k => by
    have hm := rk_mono l r k
    rcases Int.lt_or_eq_of_le hm with hlt | e
    · have hj := rk_jump l r k hlt
      cases hf : findP l k with
      | none => simp [rk, hf] at hj; omega
      | some x =>
        obtain ⟨hx, hk⟩ := findP_some hf
        have := h x hx
        rw [hk] at this; omega
    · exact e.symm
  refine ⟨fun k hf => ?_, fun k x hf => ?_⟩
  · rw [← same k]; simp [rk, hf]
  · rw [← same k]; simp [rk, hf]
theorem hmaxR (f : Int → Int) (x : NodeS) : hmax f (goesR x) 0 = hmax f (goesP x) 0 := by
  apply Int.le_antisymm
  · exact hmax_le _ _ (hmax_ge0 _ _ _) fun t ht => hmax_ge _ _ _ t (mem_goesR.1 ht)
  · exact hmax_le _ _ (hmax_ge0 _ _ _) fun t ht => hmax_ge _ _ _ t (mem_goesR.2 ht)

theorem set_self {l : List Int} {i : Nat} (h : i < l.length) : l.set i (rdd 0 l i) = l := by
  rw [rdd_lt h]; exact List.set_getElem_self h
theorem rdd_set {l : List Int} {i : Nat} {v : Int} (h : i < l.length) : rdd 0 (l.set i v) i = v := by
  rw [rdd_lt (by simpa using h)]; simp
theorem rdd_map {α : Type} {d : α} {l : List α} {f : α → Int} {i : Nat} (h : i < l.length) : rdd 0 (l.map f) i = f (rdd d l i) := by
  rw [rdd_lt (by simpa using h), rdd_lt h]; simp

theorem L_r6 (kt : List Int → Option Res) (l : List NodeS) (hl : l.length ≤ 32) (r : Nat) (most rd : Int) (i : Nat) (hi : i < l.length) (to : List Int) (k : Nat) (hk : k < to.length) (t : Int) (ht : rdd 0 to k = t) : ∀ (m n : Nat) (now : List Int), now.length = l.length → n ≤ l.length → l.length - n < m →
    L_z1q_6 FUEL kt l most l.length rd l.length (i : Int) to.length (k : Int) (l.map fun x => rk l r x.1) to m (n : Int) now = kt (now.set i (if (∃ y ∈ l.drop n, y.1 = t) ∧ rk l r t > rdd 0 now i then rk l r t else rdd 0 now i))
  | 0, _, _, _, _, h => by omega
  | m + 1, n, now, hnow, hn, hm => by
    show F_z1q_6 FUEL kt l most l.length rd l.length (i : Int) to.length (k : Int) (l.map fun x => rk l r x.1) to (L_z1q_6 FUEL kt l most l.length rd l.length (i : Int) to.length (k : Int) (l.map fun x => rk l r x.1) to m) (n : Int) now = _
    unfold F_z1q_6
    simp only [cond_dec, int_beq, toNat_cast, ht]
    by_cases h : n < l.length
    · rw [if_pos (by omega), if_pos (by omega), if_pos (by omega), drop_rdd zNodeS h]
      by_cases he : (rdd zNodeS l n).1 = t
      · rw [if_pos he, if_pos (by omega), if_pos (by omega), if_pos (by omega), rdd_map (d := zNodeS) h, he, i64_succ (by omega)]
        rw [L_r6 kt l hl r most rd i hi to k hk t ht m (n + 1) _ (by simpa using hnow) (by omega) (by omega)]
        rw [rdd_set (by omega)]
        congr 1
        rw [List.set_set]
        congr 1
        have ex : ∃ y ∈ rdd zNodeS l n :: l.drop (n + 1), y.1 = t := ⟨_, List.mem_cons_self, he⟩
        have e1 : (if rk l r t > rdd 0 now i then rk l r t else rdd 0 now i) ≥ rk l r t := by clear ex; split <;> omega
        generalize hV : (if rk l r t > rdd 0 now i then rk l r t else rdd 0 now i) = V at e1 ⊢
        rw [if_neg (fun k => absurd k.2 (by clear ex; omega)), ← hV]
        by_cases hgt : rk l r t > rdd 0 now i
        · rw [if_pos hgt, if_pos ⟨ex, hgt⟩]
        · rw [if_neg hgt, if_neg (fun k => hgt k.2)]
      · rw [if_neg he, i64_succ (by omega), L_r6 kt l hl r most rd i hi to k hk t ht m (n + 1) now hnow (by omega) (by omega)]
        congr 2
        have : (∃ y ∈ rdd zNodeS l n :: l.drop (n + 1), y.1 = t) ↔ (∃ y ∈ l.drop (n + 1), y.1 = t) := by
          constructor
          · rintro ⟨y, hy, e⟩
            rcases List.mem_cons.1 hy with rfl | hy
            · exact absurd e he
            · exact ⟨y, hy, e⟩
          · rintro ⟨y, hy, e⟩; exact ⟨y, List.mem_cons_of_mem _ hy, e⟩
        simp only [this]
    · rw [if_neg (by omega), List.drop_of_length_le (by omega)]
      simp only [List.not_mem_nil, false_and, exists_false, if_false]
      rw [set_self (by omega)]

theorem rk_none {l : List NodeS} {t : Int} (h : ¬ ∃ y ∈ l, y.1 = t) : ∀ r, rk l r t = 0
  | 0 => rfl
  | r + 1 => by
    simp only [rk]
    cases hf : findP l t with
    | none => rfl
    | some x => exact absurd ⟨x, (findP_some hf).1, (findP_some hf).2⟩ h

theorem L_r4 (kt : List Int → Option Res) (l : List NodeS) (hl : l.length ≤ 32) (r : Nat) (most rd : Int) (i : Nat) (hi : i < l.length) (to : List Int) (hto : to.length < 1000000) : ∀ (m k : Nat) (now : List Int), now.length = l.length → 0 ≤ rdd 0 now i → k ≤ to.length → to.length - k < m →
    L_z1q_4 FUEL kt l most l.length rd l.length (i : Int) to.length (l.map fun x => rk l r x.1) to m (k : Int) now = kt (now.set i (hmax (rk l r) (to.drop k) (rdd 0 now i)))
  | 0, _, _, _, _, _, h => by omega
  | m + 1, k, now, hnow, h0, hk, hm => by
    show F_z1q_4 FUEL kt l most l.length rd l.length (i : Int) to.length (l.map fun x => rk l r x.1) to (L_z1q_4 FUEL kt l most l.length rd l.length (i : Int) to.length (l.map fun x => rk l r x.1) to m) (k : Int) now = _
    unfold F_z1q_4
    simp only [cond_dec]
    by_cases h : k < to.length
    · rw [if_pos (by omega)]
      refine Eq.trans (L_r6 _ l hl r most rd i hi to k h (rdd 0 to k) rfl FUEL 0 now hnow (by omega) (by unfold FUEL; omega)) ?_
      rw [List.drop_zero, i64_succ (by omega), drop_rdd (0 : Int) h, hmax_cons]
      have e : (if (∃ y ∈ l, y.1 = rdd 0 to k) ∧ rk l r (rdd 0 to k) > rdd 0 now i then rk l r (rdd 0 to k) else rdd 0 now i) = (if rk l r (rdd 0 to k) > rdd 0 now i then rk l r (rdd 0 to k) else rdd 0 now i) := by
        by_cases hex : ∃ y ∈ l, y.1 = rdd 0 to k
        · simp only [hex, true_and]
        · rw [if_neg (fun k => hex k.1), rk_none hex, if_neg (by omega)]
      rw [e]
      clear e
      generalize hv : (if rk l r (rdd 0 to k) > rdd 0 now i then rk l r (rdd 0 to k) else rdd 0 now i) = v
      have hv0 : 0 ≤ v := by rw [← hv]; split <;> omega
      rw [L_r4 kt l hl r most rd i hi to hto m (k + 1) _ (by simpa using hnow) (by rw [rdd_set (by omega)]; exact hv0) (by omega) (by omega)]
      rw [rdd_set (by omega), List.set_set]
    · rw [if_neg (by omega), List.drop_of_length_le (by omega)]
      show kt now = kt (now.set i (rdd 0 now i))
      rw [set_self (by omega)]

theorem L_r2 (kt : List Int → Option Res) (l : List NodeS) (hl : l.length ≤ 32) (ha : ∀ x ∈ l, (nArms x).length < 100000) (hu : ∀ x ∈ l, findP l x.1 = some x) (r : Nat) (hr : r ≤ 100) (most rd : Int) : ∀ (m i : Nat), i ≤ l.length → l.length - i < m →
    L_z1q_2 FUEL kt l most l.length rd l.length (l.map fun x => rk l r x.1) m (i : Int) (((l.take i).map fun x => rk l (r + 1) x.1) ++ List.replicate (l.length - i) 0) = kt (l.map fun x => rk l (r + 1) x.1)
  | 0, _, _, h => by omega
  | m + 1, i, hi, hm => by
    show F_z1q_2 FUEL kt l most l.length rd l.length (l.map fun x => rk l r x.1) (L_z1q_2 FUEL kt l most l.length rd l.length (l.map fun x => rk l r x.1) m) (i : Int) _ = _
    unfold F_z1q_2
    simp only [cond_dec, toNat_cast]
    by_cases h : i < l.length
    · have hx := ha _ (rdd_mem (d := zNodeS) h)
      have hfx := hu _ (rdd_mem (d := zNodeS) h)
      have hrep : List.replicate (l.length - i) (0 : Int) = 0 :: List.replicate (l.length - (i + 1)) 0 := by
        rw [show l.length - i = (l.length - (i + 1)) + 1 by omega]; rfl
      have htl : ((l.take i).map fun x => rk l (r + 1) x.1).length = i := by simp; omega
      rw [if_pos (by omega), if_pos (by omega), hrep]
      simp only [ok_z1o, q_z1o, Q_refGoes _ hx, RS.get, Option.getD_some, Option.isSome_some, cond_true]
      have hgl : (goesR (rdd zNodeS l i)).length < 1000000 := by unfold goesR; simp; omega
      have hr0 : rdd 0 (((l.take i).map fun x => rk l (r + 1) x.1) ++ 0 :: List.replicate (l.length - (i + 1)) 0) i = 0 := by
        have := rdd_mid (d := (0 : Int)) ((l.take i).map fun x => rk l (r + 1) x.1) 0 (List.replicate (l.length - (i + 1)) 0)
        rw [htl] at this; exact this
      refine Eq.trans (L_r4 _ l hl r most rd i h (goesR (rdd zNodeS l i)) hgl FUEL 0 _ (by simp; omega) (by rw [hr0]; exact Int.le_refl _) (by omega) (by unfold FUEL; omega)) ?_
      rw [hr0, List.drop_zero, hmaxR, set_mid _ _ _ htl]
      have hb : hmax (rk l r) (goesP (rdd zNodeS l i)) 0 ≤ r := hmax_le _ _ (by omega) fun t _ => rk_le l r t
      have hb0 := hmax_ge0 (rk l r) (goesP (rdd zNodeS l i)) 0
      have hr1 : rdd 0 (((l.take i).map fun x => rk l (r + 1) x.1) ++ hmax (rk l r) (goesP (rdd zNodeS l i)) 0 :: List.replicate (l.length - (i + 1)) 0) i = hmax (rk l r) (goesP (rdd zNodeS l i)) 0 := by
        have := rdd_mid (d := (0 : Int)) ((l.take i).map fun x => rk l (r + 1) x.1) (hmax (rk l r) (goesP (rdd zNodeS l i)) 0) (List.replicate (l.length - (i + 1)) 0)
        rw [htl] at this; exact this
      rw [if_pos (by omega), if_pos (by omega), hr1, set_mid _ _ _ htl, i64_succ (by omega), IntWalk.i64_in _ (by omega)]
      have e : (((l.take i).map fun x => rk l (r + 1) x.1) ++ (hmax (rk l r) (goesP (rdd zNodeS l i)) 0 + 1) :: List.replicate (l.length - (i + 1)) 0) = ((l.take (i + 1)).map fun x => rk l (r + 1) x.1) ++ List.replicate (l.length - (i + 1)) 0 := by
        rw [take_rdd zNodeS h, List.map_append, List.append_assoc]
        congr 1
        have : rk l (r + 1) (rdd zNodeS l i).1 = 1 + hmax (rk l r) (goesP (rdd zNodeS l i)) 0 := by simp only [rk]; rw [hfx]
        simp only [List.map_cons, List.map_nil, this, List.singleton_append]
        rw [Int.add_comm]
      rw [e]
      exact L_r2 kt l hl ha hu r hr most rd m (i + 1) (by omega) (by omega)
    · rw [if_neg (by omega)]
      have : i = l.length := by omega
      subst this
      rw [List.take_of_length_le (Nat.le_refl _), Nat.sub_self]
      simp

theorem L_r0 (kt : Nat → List Int → Option Res) (l : List NodeS) (hl : l.length ≤ 32) (ha : ∀ x ∈ l, (nArms x).length < 100000) (hu : ∀ x ∈ l, findP l x.1 = some x) (most : Nat) (hmo : most ≤ 100) : ∀ (m r : Nat), r ≤ most → most - r < m →
    L_z1q_0 FUEL kt l (most : Int) m l.length (r : Int) (l.map fun x => rk l r x.1) = kt l.length (l.map fun x => rk l most x.1)
  | 0, _, _, h => by omega
  | m + 1, r, hr, hm => by
    show F_z1q_0 FUEL kt l (most : Int) (L_z1q_0 FUEL kt l (most : Int) m) l.length (r : Int) (l.map fun x => rk l r x.1) = _
    unfold F_z1q_0
    simp only [cond_dec, toNat_cast]
    by_cases h : r < most
    · rw [if_pos (by omega), if_pos (by omega)]
      have := L_r2 (fun y5 => L_z1q_0 FUEL kt l (most : Int) m l.length (IntKind.wrap .i64 ((r : Int) + 1)) y5) l hl ha hu r (by omega) (most : Int) (r : Int) FUEL 0 (by omega) (by unfold FUEL; omega)
      simp only [List.take_zero, List.map_nil, List.nil_append, Nat.sub_zero] at this
      refine Eq.trans this ?_
      rw [i64_succ (by omega)]
      exact L_r0 kt l hl ha hu most hmo m (r + 1) (by omega) (by omega)
    · rw [if_neg (by omega)]
      have : r = most := by omega
      subst this; rfl

theorem Q_ranks (l : List NodeS) (hl : l.length ≤ 32) (ha : ∀ x ∈ l, (nArms x).length < 100000) (hu : ∀ x ∈ l, findP l x.1 = some x) (most : Nat) (hmo : most ≤ 100) :
    Q_z1q l (most : Int) = some ((l.length, ()), (l.map (fun x => rk l most x.1), ())) := by
  refine fin ?_
  unfold M_z1q
  simp only [cond_dec, toNat_cast]
  rw [if_pos (by omega)]
  have e : List.replicate l.length (0 : Int) = l.map fun x => rk l 0 x.1 := by
    exact (List.eq_replicate_iff.2 ⟨by simp, fun b hb => by simp [rk] at hb; exact hb.2.symm⟩).symm
  rw [e]
  exact L_r0 _ l hl ha hu most hmo FUEL 0 (by omega) (by unfold FUEL; omega)

theorem find_unique : ∀ {p : Int} {l : List NodeS}, formsOk p l → ∀ x ∈ l, findP l x.1 = some x
  | p, [], _, x, hx => by cases hx
  | p, y :: r, h, x, hx => by
    obtain ⟨h1, h2, h3⟩ := h
    unfold findP
    rw [List.find?_cons]
    rcases List.mem_cons.1 hx with rfl | hx
    · simp
    · have := (formsOk_mem h3 x hx).2
      have : ¬ y.1 = x.1 := by omega
      simp only [this, decide_false]
      exact find_unique h3 x hx

theorem L_rFind (kr : Bool → NodeS → Option Res) (kt : Unit → Option Res) (id : Int) (l : List NodeS) (z : NodeS) (hl : l.length < 9223372036854775807) : ∀ (m i : Nat), i ≤ l.length → l.length - i < m →
    L_z1p_0 FUEL kr kt l id z m (i : Int) = match findP (l.drop i) id with | some x => kr true x | none => kt ()
  | 0, _, _, h => by omega
  | m + 1, i, hi, hm => by
    show F_z1p_0 FUEL kr kt l id z (L_z1p_0 FUEL kr kt l id z m) (i : Int) = _
    unfold F_z1p_0
    simp only [cond_dec, int_beq]
    by_cases h : i < l.length
    · have hin : (0 : Int) ≤ (i : Int) ∧ (i : Int) < ((l.length : Nat) : Int) := by omega
      simp only [if_pos hin]
      rw [if_pos (by omega), drop_rdd zNodeS h]
      simp only [toNat_cast, findP, List.find?_cons]
      by_cases he : (rdd zNodeS l i).1 = id
      · simp [he]
      · rw [if_neg he, i64_succ (by omega), L_rFind kr kt id l z hl m (i + 1) (by omega) (by omega)]
        simp [he, findP]
    · rw [if_neg (by omega), List.drop_of_length_le (by omega)]
      rfl
theorem Q_rFind (l : List NodeS) (id : Int) (hl : l.length < 9223372036854775807) : Q_z1p l id = some (findV (findP l id), ()) := by
  refine fin ?_
  refine Eq.trans (L_rFind _ _ id l _ hl FUEL 0 (by omega) (by unfold FUEL; omega)) ?_
  rw [List.drop_zero]
  cases findP l id <;> rfl

theorem L_rForms (kr : Int → Option Res) (kt : Unit → Option Res) (l : List NodeS) (hl : l.length < 9223372036854775807) (hg : ∀ x ∈ l, nodeG x) : ∀ (m i : Nat), i ≤ l.length → l.length - i < m →
    L_z1r_0 FUEL kr kt l m (i : Int) = if formsOk (prevI l i) (l.drop i) then kt () else kr 3
  | 0, _, _, h => by omega
  | m + 1, i, hi, hm => by
    show F_z1r_0 FUEL kr kt l (L_z1r_0 FUEL kr kt l m) (i : Int) = _
    unfold F_z1r_0
    by_cases h : i < l.length
    · have hx := Q_refForm (rdd zNodeS l i) (hg _ (rdd_mem h))
      simp only [cond_dec, toNat_cast, ok_z1n, q_z1n, hx, RS.get, Option.getD_some, Option.isSome_some, cond_true]
      rw [if_pos (by omega), if_pos (by omega), drop_rdd zNodeS h, i64_succ (by omega), L_rForms kr kt l hl hg m (i + 1) (by omega) (by omega)]
      have hp : prevI l (i + 1) = (rdd zNodeS l i).1 := by simp [prevI]
      rw [hp]
      have hprev : i > 0 → Int.toNat (IntKind.wrap .i64 ((i : Int) - 1)) = i - 1 := fun h => by rw [i64_pred h (by omega)]; rfl
      generalize hX : rdd zNodeS l i = x at *
      by_cases hf : formP x
      · simp only [decide_eq_true hf, Bool.not_true, cond_false]
        by_cases h3 : i = 0
        · subst h3
          rw [if_neg (by omega)]
          have h1 : 0 < x.1 := by have := hf.1; unfold formL at this; omega
          simp only [formsOk, hf, prevI, if_pos, h1, true_and]
        · rw [if_pos (by omega), if_pos (by omega), hprev (by omega), if_pos (by rw [i64_pred (by omega) (by omega)]; omega)]
          have hp2 : prevI l i = (rdd zNodeS l (i - 1)).1 := by simp [prevI, h3]
          rw [hp2]
          by_cases h4 : x.1 ≤ (rdd zNodeS l (i - 1)).1
          · rw [if_pos h4, if_neg (by simp only [formsOk]; omega)]
          · rw [if_neg h4]
            have h5 : (rdd zNodeS l (i - 1)).1 < x.1 := by omega
            simp only [formsOk, hf, h5, true_and]
      · simp only [decide_eq_false hf, Bool.not_false, cond_true]
        rw [if_neg (by simp only [formsOk]; exact fun k => hf k.1)]
    · simp only [cond_dec]
      rw [if_neg (by omega), List.drop_of_length_le (by omega), if_pos (show formsOk _ [] from trivial)]

theorem L_rRefs2 (kr : Int → Option Res) (kt : Unit → Option Res) (l : List NodeS) (hl : l.length < 9223372036854775807) (a : Int) (g : List Int) (hgl : g.length < 9223372036854775807) : ∀ (m i : Nat), i ≤ g.length → g.length - i < m →
    L_z1r_4 FUEL kr kt l a g.length g m (i : Int) = if ∀ t ∈ g.drop i, refOk l t = true then kt () else kr 8
  | 0, _, _, h => by omega
  | m + 1, i, hi, hm => by
    show F_z1r_4 FUEL kr kt l a g.length g (L_z1r_4 FUEL kr kt l a g.length g m) (i : Int) = _
    unfold F_z1r_4
    by_cases h : i < g.length
    · have hin : (0 : Int) ≤ (i : Int) ∧ (i : Int) < ((g.length : Nat) : Int) := by omega
      simp only [cond_dec, toNat_cast, ok_z1p, q_z1p, Q_rFind l _ hl, RS.get, Option.getD_some, Option.isSome_some, cond_true, int_bne, Bool.cond_not, if_pos hin]
      rw [if_pos (by omega), drop_rdd (0 : Int) h, i64_succ (by omega), L_rRefs2 kr kt l hl a g hgl m (i + 1) (by omega) (by omega)]
      generalize rdd (0 : Int) g i = t
      have hfb : (findV (findP l t)).2.1 = (findP l t).isSome := by cases findP l t <;> rfl
      simp only [hfb, List.forall_mem_cons, refOk]
      cases hf : (findP l t).isSome
      · by_cases h0 : t = 0
        · simp [h0]
        · by_cases h1 : t = 65535
          · simp [h1]
          · simp [h0, h1]
      · simp
    · simp only [cond_dec]
      rw [if_neg (by omega), List.drop_of_length_le (by omega), if_pos (by simp)]

theorem L_rRefs (kr : Int → Option Res) (kt : Unit → Option Res) (l : List NodeS) (hl : l.length < 9223372036854775807) (hg : ∀ x ∈ l, (nArms x).length < 100000) : ∀ (m i : Nat), i ≤ l.length → l.length - i < m →
    L_z1r_2 FUEL kr kt l m (i : Int) = if ∀ x ∈ l.drop i, ∀ t ∈ goesR x, refOk l t = true then kt () else kr 8
  | 0, _, _, h => by omega
  | m + 1, i, hi, hm => by
    show F_z1r_2 FUEL kr kt l (L_z1r_2 FUEL kr kt l m) (i : Int) = _
    unfold F_z1r_2
    by_cases h : i < l.length
    · have hx := Q_refGoes (rdd zNodeS l i) (hg _ (rdd_mem h))
      have hgl : (goesR (rdd zNodeS l i)).length < 9223372036854775807 := by
        have := hg _ (rdd_mem (d := zNodeS) h)
        simp [goesR]; omega
      simp only [cond_dec, toNat_cast, ok_z1o, q_z1o, hx, RS.get, Option.getD_some, Option.isSome_some, cond_true]
      rw [if_pos (by omega), if_pos (by omega), drop_rdd zNodeS h, i64_succ (by omega), L_rRefs kr kt l hl hg m (i + 1) (by omega) (by omega)]
      refine Eq.trans (L_rRefs2 _ _ l hl _ _ hgl FUEL 0 (by omega) (by unfold FUEL; omega)) ?_
      simp only [List.drop_zero, List.forall_mem_cons]
      by_cases h1 : ∀ t ∈ goesR (rdd zNodeS l i), refOk l t = true
      · rw [if_pos h1]
        by_cases h2 : ∀ x ∈ l.drop (i + 1), ∀ t ∈ goesR x, refOk l t = true
        · rw [if_pos h2, if_pos ⟨h1, h2⟩]
        · rw [if_neg h2, if_neg (fun k => h2 k.2)]
      · rw [if_neg h1, if_neg (fun k => h1 k.1)]
    · simp only [cond_dec]
      rw [if_neg (by omega), List.drop_of_length_le (by omega), if_pos (by simp)]

theorem L_r66 (kr : Int → Option Res) (kt : Unit → Option Res) (l : List NodeS) (r : List Int) (hr : r.length < 1000000) : ∀ (m i : Nat), i ≤ r.length → r.length - i < m →
    L_z1r_6 FUEL kr kt l r.length r m (i : Int) = if ∀ v ∈ r.drop i, v ≤ (l.length : Int) then kt () else kr 10
  | 0, _, _, h => by omega
  | m + 1, i, hi, hm => by
    show F_z1r_6 FUEL kr kt l r.length r (L_z1r_6 FUEL kr kt l r.length r m) (i : Int) = _
    unfold F_z1r_6
    simp only [cond_dec, toNat_cast]
    by_cases h : i < r.length
    · rw [if_pos (by omega), if_pos (by omega), drop_rdd (0 : Int) h, i64_succ (by omega), L_r66 kr kt l r hr m (i + 1) (by omega) (by omega)]
      simp only [List.forall_mem_cons]
      by_cases hv : rdd 0 r i > (l.length : Int)
      · rw [if_pos hv, if_neg (fun k => by have := k.1; omega)]
      · rw [if_neg hv]
        by_cases h2 : ∀ v ∈ r.drop (i + 1), v ≤ (l.length : Int)
        · rw [if_pos h2, if_pos ⟨by omega, h2⟩]
        · rw [if_neg h2, if_neg (fun k => h2 k.2)]
    · rw [if_neg (by omega), List.drop_of_length_le (by omega), if_pos (by simp)]

/-- The document's May, and the program's. -/
theorem Q_rMay (l : List NodeS) (hl : Nodes l) : ∃ v : Int, Q_z1r l = some ((v, ()), ()) ∧ (v = 0 ↔ mayP l) := by
  by_cases h1 : formsOk 0 l
  case neg =>
    refine ⟨3, fin ?_, fun h => by omega, fun hm => absurd hm.1 h1⟩
    unfold M_z1r
    refine Eq.trans (L_rForms _ _ l hl.len hl.g FUEL 0 (by omega) (by have := hl.len; unfold FUEL; omega)) ?_
    rw [List.drop_zero, show prevI l 0 = 0 from rfl, if_neg h1]
  by_cases h2 : l.length ≤ 32
  case neg =>
    refine ⟨12, fin ?_, fun h => by omega, fun hm => absurd hm.2.1 h2⟩
    unfold M_z1r
    refine Eq.trans (L_rForms _ _ l hl.len hl.g FUEL 0 (by omega) (by have := hl.len; unfold FUEL; omega)) ?_
    rw [List.drop_zero, show prevI l 0 = 0 from rfl, if_pos h1, cond_dec, if_pos (by omega)]
  have hrefs : (∀ x ∈ l, ∀ t ∈ goesR x, refOk l t = true) ↔ refsOk l := by
    unfold refsOk
    constructor
    · exact fun h x hx t ht => h x hx t (mem_goesR.2 ht)
    · exact fun h x hx t ht => h x hx t (mem_goesR.1 ht)
  by_cases h3 : refsOk l
  case neg =>
    refine ⟨8, fin ?_, fun h => by omega, fun hm => absurd hm.2.2.1 h3⟩
    unfold M_z1r
    refine Eq.trans (L_rForms _ _ l hl.len hl.g FUEL 0 (by omega) (by have := hl.len; unfold FUEL; omega)) ?_
    rw [List.drop_zero, show prevI l 0 = 0 from rfl, if_pos h1, cond_dec, if_neg (by omega)]
    refine Eq.trans (L_rRefs _ _ l hl.len hl.arms FUEL 0 (by omega) (by unfold FUEL; omega)) ?_
    rw [List.drop_zero, if_neg (fun k => h3 (hrefs.1 k))]
  have hr := Q_ranks l h2 hl.arms (find_unique h1) (l.length + 1) (by omega)
  have e : IntKind.wrap .i64 ((l.length : Int) + 1) = ((l.length + 1 : Nat) : Int) := i64_succ (by omega)
  obtain ⟨r, hR⟩ : ∃ r : List Int, r = l.map fun (x : NodeS) => rk l (l.length + 1) x.1 := ⟨_, rfl⟩
  rw [← hR] at hr
  have hrl : r.length = l.length := by rw [hR]; simp
  have h6 := L_r66 (fun y8 => some (encRes ro_z1r rh_z1r ((y8, ()), ()))) (fun _ => some (encRes ro_z1r rh_z1r (((0 : Int), ()), ()))) l r (by omega) FUEL 0 (by omega) (by unfold FUEL; omega)
  rw [List.drop_zero, hrl] at h6
  have hM : M_z1r FUEL l = (if ∀ v ∈ r, v ≤ (l.length : Int) then some (encRes ro_z1r rh_z1r (((0 : Int), ()), ())) else some (encRes ro_z1r rh_z1r (((10 : Int), ()), ()))) := by
    unfold M_z1r
    refine Eq.trans (L_rForms _ _ l hl.len hl.g FUEL 0 (by omega) (by have := hl.len; unfold FUEL; omega)) ?_
    rw [List.drop_zero, show prevI l 0 = 0 from rfl, if_pos h1, cond_dec, if_neg (by omega)]
    refine Eq.trans (L_rRefs _ _ l hl.len hl.arms FUEL 0 (by omega) (by unfold FUEL; omega)) ?_
    rw [List.drop_zero, if_pos (hrefs.2 h3)]
    simp only [e, ok_z1q, q_z1q, hr, RS.get, Option.getD_some, Option.isSome_some, cond_true]
    exact h6
  by_cases h4 : ∀ v ∈ r, v ≤ (l.length : Int)
  · rw [if_pos h4] at hM
    exact ⟨0, fin hM, fun _ => ⟨h1, h2, h3, _, hgt_rk (r := l.length) fun x hx => h4 _ (by rw [hR]; exact List.mem_map.2 ⟨x, hx, rfl⟩)⟩, fun _ => rfl⟩
  · rw [if_neg h4] at hM
    refine ⟨10, fin hM, fun h => by omega, fun hm => ?_⟩
    exfalso
    apply h4
    intro v hv
    rw [hR] at hv
    obtain ⟨x, hx, rfl⟩ := List.mem_map.1 hv
    obtain ⟨h, H⟩ := hm.2.2.2
    exact Int.le_trans (rk_hgt H _ _) (Hgt.le h2 hl.arms H x.1)

theorem L_Bit (k : Int → Option Res) : ∀ (m j v : Nat), j ≤ 7 → v < 256 → 7 - j < m → L_z1u_0 FUEL k m (v : Int) (j : Int) = k ((v / 2 ^ (7 - j) : Nat) : Int)
  | 0, _, _, _, _, h => by omega
  | m + 1, j, v, hj, hv, hm => by
    show F_z1u_0 FUEL k (L_z1u_0 FUEL k m) (v : Int) (j : Int) = _
    unfold F_z1u_0
    simp only [cond_dec]
    by_cases h : j < 7
    · have e2 : ((2 : Int) != 0) = true := by decide
      have e : IntKind.wrap .i64 (Int.tdiv (v : Int) 2) = ((v / 2 : Nat) : Int) := by
        rw [Int.tdiv_eq_ediv_of_nonneg (by omega), IntWalk.i64_in _ (by omega)]; omega
      rw [if_pos (by omega), e2, cond_true, e, i64_succ (by omega), L_Bit k m (j + 1) (v / 2) (by omega) (by omega) (by omega)]
      rw [Nat.div_div_eq_div_mul, show 7 - j = (7 - (j + 1)) + 1 by omega, Nat.pow_succ, Nat.mul_comm 2]
    · rw [if_neg (by omega)]
      have : j = 7 := by omega
      subst this; simp

theorem Q_Bit (s : ByteArray) (i : Nat) (hi : i < 8 * s.size) (hs : s.size < 1000000000) : Q_z1u s (i : Int) = some ((((bitOf (bN s) i : Nat) : Int), ()), ()) := by
  refine fin ?_
  unfold M_z1u
  have e8 : ((8 : Int) != 0) = true := by decide
  have e2 : ((2 : Int) != 0) = true := by decide
  have e1 : IntKind.wrap .i64 (Int.tdiv (i : Int) 8) = ((i / 8 : Nat) : Int) := by
    rw [Int.tdiv_eq_ediv_of_nonneg (by omega), IntWalk.i64_in _ (by omega)]; omega
  have e3 : Int.tmod (i : Int) 8 = ((i % 8 : Nat) : Int) := rfl
  have hb := bN_lt s (i / 8)
  have e4 : IntKind.wrap .i64 (byteAt s (i / 8)) = ((bN s (i / 8) : Nat) : Int) := by
    show IntKind.wrap .i64 ((bN s (i / 8) : Nat) : Int) = _
    exact IntWalk.i64_in _ (by omega)
  simp only [e8, e2, e1, e3, cond_true, cond_dec, toNat_cast, e4]
  rw [if_pos (by omega)]
  refine Eq.trans (L_Bit _ FUEL (i % 8) (bN s (i / 8)) (by omega) hb (by unfold FUEL; omega)) ?_
  have e5 : Int.tmod ((bN s (i / 8) / 2 ^ (7 - i % 8) : Nat) : Int) 2 = ((bitOf (bN s) i : Nat) : Int) := rfl
  have hlt : bitOf (bN s) i < 2 := Nat.mod_lt _ (by decide)
  rw [e5, wrapU, Nat.mod_eq_of_lt (by omega)]

theorem Q_Twice (h l b : Nat) (hb : b < 2) (hh : h < 18446744073709551616) (hl : l < 18446744073709551616) (hv : 2 * (h * 18446744073709551616 + l) + b < 340282366920938463463374607431768211456) :
    ∃ h' l', Q_z1v (W2 h l) (b : Int) = some ((W2 h' l', ()), ()) ∧ h' < 18446744073709551616 ∧ l' < 18446744073709551616 ∧ h' * 18446744073709551616 + l' = 2 * (h * 18446744073709551616 + l) + b := by
  refine ⟨2 * h + l / 9223372036854775808, (2 * l) % 18446744073709551616 + b, fin ?_, by omega, by omega, by omega⟩
  unfold M_z1v
  have e : ((9223372036854775808 : Int) != 0) = true := by decide
  have w1 : IntKind.wrap .u64 ((W2 h l).1 * 2) = ((2 * h : Nat) : Int) := by
    have : (W2 h l).1 * 2 = ((2 * h : Nat) : Int) := by show (h : Int) * 2 = _; omega
    rw [this, wrapU, Nat.mod_eq_of_lt (by omega)]
  have w2 : IntKind.wrap .u64 (Int.tdiv (W2 h l).2.1 9223372036854775808) = ((l / 9223372036854775808 : Nat) : Int) := by
    have : Int.tdiv (W2 h l).2.1 9223372036854775808 = ((l / 9223372036854775808 : Nat) : Int) := rfl
    rw [this, wrapU, Nat.mod_eq_of_lt (by omega)]
  have w3 : IntKind.wrap .u64 ((W2 h l).2.1 * 2) = (((2 * l) % 18446744073709551616 : Nat) : Int) := by
    have : (W2 h l).2.1 * 2 = ((2 * l : Nat) : Int) := by show (l : Int) * 2 = _; omega
    rw [this, wrapU]
  have w4 : IntKind.wrap .u64 (((2 * h : Nat) : Int) + ((l / 9223372036854775808 : Nat) : Int)) = ((2 * h + l / 9223372036854775808 : Nat) : Int) := by
    have : ((2 * h : Nat) : Int) + ((l / 9223372036854775808 : Nat) : Int) = ((2 * h + l / 9223372036854775808 : Nat) : Int) := by omega
    rw [this, wrapU, Nat.mod_eq_of_lt (by omega)]
  have w5 : IntKind.wrap .u64 ((((2 * l) % 18446744073709551616 : Nat) : Int) + (b : Int)) = (((2 * l) % 18446744073709551616 + b : Nat) : Int) := by
    have : (((2 * l) % 18446744073709551616 : Nat) : Int) + (b : Int) = (((2 * l) % 18446744073709551616 + b : Nat) : Int) := by omega
    rw [this, wrapU, Nat.mod_eq_of_lt (by omega)]
  simp only [e, cond_true, w1, w2, w3, w4, w5]
  rfl

theorem two128 {w : Nat} (h : w ≤ 128) : 2 ^ w ≤ 340282366920938463463374607431768211456 := Nat.le_trans (Nat.pow_le_pow_right (by decide) h) (by decide)
theorem bv_128 (bf : Nat → Nat) (off j : Nat) (h : j ≤ 128) : bv bf off j < 340282366920938463463374607431768211456 := Nat.lt_of_lt_of_le (bv_lt bf off j) (two128 h)
def U64 : Nat := 18446744073709551616
def val2 (h l : Nat) : Nat := h * 18446744073709551616 + l
theorem L_rGet (k : WordS → Option Res) (s : ByteArray) (hs : s.size < 1000000000) (off w : Nat) (hok : off + w ≤ 8 * s.size) (hw : w ≤ 128) (z : WordS) : ∀ (m j h l : Nat), j ≤ w → w - j < m → h < U64 → l < U64 → val2 h l = bv (bN s) off j →
    ∃ h' l', L_z1w_0 FUEL k s (off : Int) (w : Int) 0 z m (j : Int) (W2 h l) = k (W2 h' l') ∧ h' < U64 ∧ l' < U64 ∧ val2 h' l' = bv (bN s) off w := by
  intro m
  induction m with
  | zero => intro j h l hj hm _ _ _; omega
  | succ m ih =>
    intro j h l hj hm hh hl hv
    show ∃ h' l', F_z1w_0 FUEL k s (off : Int) (w : Int) 0 z (L_z1w_0 FUEL k s (off : Int) (w : Int) 0 z m) (j : Int) (W2 h l) = k (W2 h' l') ∧ _
    unfold F_z1w_0
    simp only [cond_dec]
    by_cases hjw : j < w
    · have e0 : ((0 : Int) == 0) = true := rfl
      have ei : IntKind.wrap .i64 ((off : Int) + (j : Int)) = ((off + j : Nat) : Int) := by rw [IntWalk.i64_in _ (by omega)]; omega
      rw [if_pos (by omega)]
      simp only [e0, cond_true, ei, ok_z1u, q_z1u, Q_Bit s (off + j) (by omega) hs, RS.get, Option.getD_some, Option.isSome_some]
      have hbl : bitOf (bN s) (off + j) < 2 := Nat.mod_lt _ (by decide)
      have hbv : bv (bN s) off (j + 1) = 2 * bv (bN s) off j + bitOf (bN s) (off + j) := rfl
      have h128 := bv_128 (bN s) off (j + 1) (by omega)
      obtain ⟨h1, l1, hq, a1, a2, a3⟩ := Q_Twice h l (bitOf (bN s) (off + j)) hbl hh hl (by
        have hv' : h * 18446744073709551616 + l = bv (bN s) off j := hv
        rw [hv', ← hbv]; exact h128)
      simp only [ok_z1v, q_z1v, hq, RS.get, Option.getD_some, Option.isSome_some, cond_true]
      rw [i64_succ (by omega)]
      exact ih (j + 1) h1 l1 (by omega) (by omega) a1 a2 (by
        have hv' : h * 18446744073709551616 + l = bv (bN s) off j := hv
        have a3' : val2 h1 l1 = 2 * (h * 18446744073709551616 + l) + bitOf (bN s) (off + j) := a3
        rw [a3', hv', hbv])
    · rw [if_neg (by omega)]
      have : j = w := by omega
      subst this
      exact ⟨h, l, rfl, hh, hl, hv⟩

theorem Q_rmay (s : ByteArray) (off w : Nat) (hs : s.size < 1000000000) (h1 : 1 ≤ w) (h2 : w ≤ 128) (h3 : off < 1000000000) : Q_z1t s (off : Int) (w : Int) = some ((if off + w ≤ 8 * s.size then 0 else 4, ()), ()) := by
  refine fin ?_
  unfold M_z1t
  simp only [cond_dec]
  rw [if_neg (by omega), if_neg (by omega), if_neg (by omega)]
  have hw : IntKind.wrap .i64 (IntKind.wrap .i64 (8 * (s.size : Int)) - (w : Int)) = 8 * (s.size : Int) - w := by
    rw [IntWalk.i64_in (8 * (s.size : Int)) (by omega), IntWalk.i64_in _ (by omega)]
  rw [hw]
  by_cases h : off + w ≤ 8 * s.size
  · rw [if_neg (by omega), if_pos h]
  · rw [if_pos (by omega), if_neg h]

theorem Q_rGet (s : ByteArray) (off w : Nat) (hs : s.size < 1000000000) (h1 : 1 ≤ w) (h2 : w ≤ 128) (h3 : off < 1000000000) :
    ∃ h l, Q_z1w s (off : Int) (w : Int) = some ((W2 h l, (if off + w ≤ 8 * s.size then 0 else 4, ())), ()) ∧ h < 18446744073709551616 ∧ l < 18446744073709551616 ∧ h * 18446744073709551616 + l = (if off + w ≤ 8 * s.size then bv (bN s) off w else 0) := by
  by_cases h : off + w ≤ 8 * s.size
  · obtain ⟨x, y, e, a1, a2, a3⟩ := L_rGet (fun y4 => some (encRes ro_z1w rh_z1w ((y4, ((0 : Int), ())), ()))) s hs off w h h2 (W2 0 0) FUEL 0 0 0 (by omega) (by unfold FUEL; omega) (by decide) (by decide) rfl
    refine ⟨x, y, fin ?_, a1, a2, by rw [if_pos h]; exact a3⟩
    unfold M_z1w
    simp only [ok_z1t, q_z1t, Q_rmay s off w hs h1 h2 h3, RS.get, Option.getD_some, Option.isSome_some, cond_true, if_pos h]
    exact e
  · refine ⟨0, 0, fin ?_, by decide, by decide, by rw [if_neg h]⟩
    unfold M_z1w
    simp only [ok_z1t, q_z1t, Q_rmay s off w hs h1 h2 h3, RS.get, Option.getD_some, Option.isSome_some, cond_true, if_neg h]
    have h0 : ∀ m, 0 < m → L_z1w_0 FUEL (fun y4 => some (encRes ro_z1w rh_z1w ((y4, ((4 : Int), ())), ()))) s (off : Int) (w : Int) 4 (0, (0, ())) m 0 (0, (0, ())) = some (encRes ro_z1w rh_z1w ((W2 0 0, ((4 : Int), ())), ())) := fun m hm => by
      cases m with
      | zero => omega
      | succ m =>
        show F_z1w_0 FUEL _ s (off : Int) (w : Int) 4 _ (L_z1w_0 FUEL _ s (off : Int) (w : Int) 4 _ m) 0 _ = _
        unfold F_z1w_0
        rw [cond_dec, if_pos (by omega)]
        rfl
    exact h0 FUEL (by unfold FUEL; omega)

theorem Q_rnumber (s : ByteArray) (at_ : Int) (off w : Nat) (hs : s.size < 1000000000) (h1 : 1 ≤ w) (h2 : w ≤ 32) (h3 : off < 1000000) :
    Q_z1x s at_ (off : Int) (w : Int) = some (((numV s at_ off w).1, ((numV s at_ off w).2, ())), ()) := by
  refine fin ?_
  unfold M_z1x
  simp only [cond_dec]
  by_cases a1 : at_ < 0
  · rw [if_pos a1]; unfold numV; rw [if_neg (by omega)]
  rw [if_neg a1]
  by_cases a2 : at_ > (s.size : Int)
  · rw [if_pos a2]; unfold numV; rw [if_neg (by omega)]
  rw [if_neg a2, if_pos (by omega)]
  obtain ⟨a, rfl⟩ := Int.eq_ofNat_of_zero_le (Int.not_lt.1 a1)
  have hb : ∀ i, a + i < s.size → bN (s.extract a s.size) i = bN s (a + i) := fun i hi => by
    have := byteAt_extract (s := s) (a := a) (i := i) hi
    rw [byteAt_bN, byteAt_bN] at this
    exact Int.ofNat_inj.1 this
  obtain ⟨x, y, hq, b1, b2, b3⟩ := Q_rGet (s.extract a s.size) off w (by rw [size_extract]; omega) h1 (by omega) (by omega)
  rw [size_extract] at hq b3
  simp only [Int.ofNat_eq_natCast, toNat_cast] at *
  simp only [ok_z1w, q_z1w, hq, RS.get, Option.getD_some, Option.isSome_some, cond_true]
  rw [numV_val s a off w h1 h2]
  by_cases h : off + w ≤ 8 * (s.size - a)
  · rw [if_pos h] at b3
    rw [if_pos h, if_pos ⟨by omega, h⟩]
    have e : bv (bN (s.extract a s.size)) off w = bv (bN s) (8 * a + off) w := by
      rw [← bv_shift]
      have : ∀ n, off + n ≤ off + w → bv (bN (s.extract a s.size)) off n = bv (fun j => bN s (a + j)) off n := fun n => by
        induction n with
        | zero => intro _; rfl
        | succ n ih =>
          intro hn
          simp only [bv]
          rw [ih (by omega)]
          unfold bitOf
          rw [hb _ (by omega)]
      exact this w (by omega)
    rw [e] at b3
    have hlt := bv_lt (bN s) (8 * a + off) w
    have := two32 h2
    have hy : y = bv (bN s) (8 * a + off) w := by omega
    have e1 : IntKind.wrap .i64 (W2 x y).2.1 = ((bv (bN s) (8 * a + off) w : Nat) : Int) := by
      rw [← hy]; exact IntWalk.i64_in _ (by show _ ≤ (y : Int) ∧ (y : Int) ≤ _; omega)
    rw [e1]; rfl
  · rw [if_neg h] at b3
    rw [if_neg h, if_neg (fun k => h k.2)]
    have hy : y = 0 := by omega
    have hx : x = 0 := by omega
    subst hy; subst hx; rfl

theorem Q_rsizes (x : NodeS) : Q_z1s x = some ((decide (mayL x), ()), ()) := Q_wmay x

theorem Q_rSize (x : NodeS) (s : ByteArray) (at_ : Int) (hs : s.size < 1000000000) : Q_z1y x s at_ = some (((sizeV x s at_).1, ((sizeV x s at_).2, ())), ()) := by
  refine fin ?_
  unfold M_z1y sizeV
  simp only [ok_z1s, q_z1s, Q_rsizes, RS.get, Option.getD_some, Option.isSome_some, cond_true]
  by_cases hm : mayL x
  · rw [if_neg (fun h => h hm)]
    simp only [hm, decide_true, Bool.not_true, cond_false]
    by_cases hw : x.2.2.2.1 > 0
    · rw [if_pos hw]
      simp only [hw, decide_true, cond_true]
      have e1 : ((x.2.2.1.toNat : Nat) : Int) = x.2.2.1 := by have := hm.2.1; omega
      have e2 : ((x.2.2.2.1.toNat : Nat) : Int) = x.2.2.2.1 := by omega
      have hQ := Q_rnumber s at_ x.2.2.1.toNat x.2.2.2.1.toNat hs (by omega) (by have := hm.2.2.1; omega) (by have := hm.2.1; omega)
      rw [e1, e2] at hQ
      simp only [ok_z1x, q_z1x, hQ, RS.get, Option.getD_some, Option.isSome_some, cond_true]
      cases hv : (numV s at_ x.2.2.1.toNat x.2.2.2.1.toNat).2 with
      | false => rw [if_pos rfl]; rfl
      | true =>
        rw [if_neg (by simp)]
        simp only [Bool.not_true, cond_false]
        exact fin_size s at_ _ hs
    · rw [if_neg hw]
      simp only [hw, decide_false, cond_false]
      exact fin_size s at_ _ hs
  · rw [if_pos hm]
    simp only [hm, decide_false, Bool.not_false, cond_true]

def armOf (l : List ArmS) (v : Int) : Option ArmS := l.find? fun a => decide (a.1 = v)
def armV (o : Option ArmS) (d : Int) : Int := match o with
  | some a => a.2.1
  | none => d

theorem L_Next2 (kr : Int → Option Res) (kt : Unit → Option Res) (v : Int) (l : List ArmS) (z : NodeS) (hl : l.length < 9223372036854775807) : ∀ (m i : Nat), i ≤ l.length → l.length - i < m →
    L_z1i_0 FUEL kr kt v l (l.length : Int) z m (i : Int) = match armOf (l.drop i) v with | some a => kr a.2.1 | none => kt ()
  | 0, _, _, h => by omega
  | m + 1, i, hi, hm => by
    show F_z1i_0 FUEL kr kt v l (l.length : Int) z (L_z1i_0 FUEL kr kt v l (l.length : Int) z m) (i : Int) = _
    unfold F_z1i_0
    simp only [cond_dec, int_beq, toNat_cast]
    by_cases h : i < l.length
    · rw [if_pos (by omega), if_pos (by omega), i64_succ (by omega), drop_rdd zArmS h]
      simp only [armOf, List.find?_cons]
      by_cases he : (rdd zArmS l i).1 = v
      · simp [he]
      · rw [if_neg he, L_Next2 kr kt v l z hl m (i + 1) (by omega) (by omega)]
        simp [he, armOf]
    · rw [if_neg (by omega), List.drop_of_length_le (by omega)]
      rfl
theorem nextT_eq (l : List NodeS) (hl : Nodes l) {x : NodeS} (hf : findP l x.1 = some x) (v : Int) : nextT l x v = armV (armOf (nArms x) v) (nOther x) := by
  have harm := hl.arms x (findP_some hf).1
  have hq : Q_z1i l x.1 v = some ((armV (armOf (nArms x) v) (nOther x), ()), ()) := by
    refine fin ?_
    unfold M_z1i
    simp only [ok_z19, q_z19, Q_Find l x.1 hl.len, RS.get, Option.getD_some, Option.isSome_some, cond_true, hf, findV]
    refine Eq.trans (L_Next2 _ _ v (nArms x) x (by omega) FUEL 0 (by omega) (by unfold FUEL; omega)) ?_
    rw [List.drop_zero]
    cases armOf (nArms x) v <;> rfl
  unfold nextT q_z1i
  rw [hq]; rfl

theorem arms_none {sel : Nat} : ∀ {p : Int} {l : List ArmS}, armsOk sel p l = true → ∀ v, v ≤ p → armOf l v = none
  | p, [], _, v, _ => rfl
  | p, a :: r, h, v, hv => by
    simp only [armsOk, Bool.and_eq_true, decide_eq_true_eq] at h
    unfold armOf
    rw [List.find?_cons]
    have : ¬ a.1 = v := by omega
    simp only [this, decide_false]
    exact arms_none h.2 v (by omega)

theorem L_rArms (kt : Int → Option Res) (l : List NodeS) (s : ByteArray) (N : Nat) (a3 a4 a5 v : Int) (hd : List HeadS) (x : NodeS) (hlen : (nArms x).length ≤ 32) (hg : ∀ a ∈ nArms x, 0 ≤ a.1 ∧ a.1 ≤ 4294967295) {sel : Nat} : ∀ (m i : Nat) (acc : Int), i ≤ (nArms x).length → (nArms x).length - i < m → (∃ p, armsOk sel p ((nArms x).drop i) = true) →
    L_z1z_4 FUEL kt l s N a3 a4 a5 v hd x m acc (i : Int) = kt (armV (armOf ((nArms x).drop i) v) acc)
  | 0, _, _, _, h, _ => by omega
  | m + 1, i, acc, hi, hm, hp => by
    show F_z1z_4 FUEL kt l s N a3 a4 a5 v hd x (L_z1z_4 FUEL kt l s N a3 a4 a5 v hd x m) acc (i : Int) = _
    unfold F_z1z_4
    have harm : x.2.2.2.2.2.2.2.1 = nArms x := rfl
    rw [harm]
    by_cases h : i < (nArms x).length
    · have hin : (0 : Int) ≤ (i : Int) ∧ (i : Int) < (((nArms x).length : Nat) : Int) := by omega
      simp only [cond_dec, int_beq, toNat_cast, if_pos hin]
      rw [if_pos (by omega), i64_succ (by omega)]
      have hgr := hg _ (rdd_mem (d := zArmS) h)
      rw [IntWalk.i64_in (rdd zArmS (nArms x) i).1 (by omega)]
      obtain ⟨p, hp⟩ := hp
      rw [drop_rdd zArmS h] at hp ⊢
      simp only [armsOk, Bool.and_eq_true, decide_eq_true_eq] at hp
      by_cases he : (rdd zArmS (nArms x) i).1 = v
      · rw [if_pos he, L_rArms kt l s N a3 a4 a5 v hd x hlen hg m (i + 1) _ (by omega) (by omega) ⟨_, hp.2⟩]
        rw [arms_none hp.2 v (by omega)]
        simp [armOf, armV, he]
      · rw [if_neg he, L_rArms kt l s N a3 a4 a5 v hd x hlen hg m (i + 1) _ (by omega) (by omega) ⟨_, hp.2⟩]
        simp [armOf, he]
    · simp only [cond_dec]
      rw [if_neg (by omega), List.drop_of_length_le (by omega)]
      rfl

theorem forms_none : ∀ {p : Int} {l : List NodeS}, formsOk p l → ∀ v, v ≤ p → findP l v = none
  | p, [], _, v, _ => rfl
  | p, a :: r, h, v, hv => by
    obtain ⟨h1, h2, h3⟩ := h
    unfold findP
    rw [List.find?_cons]
    have : ¬ a.1 = v := by omega
    simp only [this, decide_false]
    exact forms_none h3 v (by omega)

theorem L_rNode (kt : NodeS → Option Res) (l : List NodeS) (hl : l.length ≤ 32) (s : ByteArray) (N : Nat) (id a4 a5 : Int) (hd : List HeadS) : ∀ (m i : Nat) (acc : NodeS), i ≤ l.length → l.length - i < m → (∃ p, formsOk p (l.drop i)) →
    L_z1z_2 FUEL kt l s N id a4 a5 hd m (i : Int) acc = kt ((findP (l.drop i) id).getD acc)
  | 0, _, _, _, h, _ => by omega
  | m + 1, i, acc, hi, hm, hp => by
    show F_z1z_2 FUEL kt l s N id a4 a5 hd (L_z1z_2 FUEL kt l s N id a4 a5 hd m) (i : Int) acc = _
    unfold F_z1z_2
    by_cases h : i < l.length
    · have hin : (0 : Int) ≤ (i : Int) ∧ (i : Int) < ((l.length : Nat) : Int) := by omega
      simp only [cond_dec, int_beq, toNat_cast, if_pos hin]
      rw [if_pos (by omega), i64_succ (by omega)]
      obtain ⟨p, hp⟩ := hp
      rw [drop_rdd zNodeS h] at hp ⊢
      obtain ⟨_, _, h3⟩ := hp
      by_cases he : (rdd zNodeS l i).1 = id
      · rw [if_pos he, L_rNode kt l hl s N id a4 a5 hd m (i + 1) _ (by omega) (by omega) ⟨_, h3⟩]
        rw [forms_none h3 id (by omega)]
        simp [findP, he]
      · rw [if_neg he, L_rNode kt l hl s N id a4 a5 hd m (i + 1) _ (by omega) (by omega) ⟨_, h3⟩]
        simp [findP, he]
    · simp only [cond_dec]
      rw [if_neg (by omega), List.drop_of_length_le (by omega)]
      rfl

theorem L_rWalk (k : Nat → Int → Int → List HeadS → Option Res) (l : List NodeS) (hl : Nodes l) (hm : mayP l) {h : Int → Int} (H : Hgt l h) (s : ByteArray) (hs : s.size ≤ 10000) :
    ∀ (f m : Nat) (a : Nat) (cnt : Int) (hd : List HeadS) (x : NodeS), findP l x.1 = some x → (h x.1).toNat ≤ f → f ≤ 64 → f < m → a ≤ s.size → 0 ≤ cnt → cnt + f ≤ 100 → hd.length + f ≤ 100 →
    L_z1z_0 FUEL k l s m hd.length x.1 (a : Int) cnt hd = k (hd ++ (W l s f (a : Int) x).1).length (cnt + (W l s f (a : Int) x).2.1) (W l s f (a : Int) x).2.2 (hd ++ (W l s f (a : Int) x).1)
  | 0, m, a, cnt, hd, x, hf, hh, _, _, _, _, _, _ => by
    have := (H.pos x.1).2 (by rw [hf]; rfl)
    omega
  | f + 1, 0, a, cnt, hd, x, hf, hh, h64, hmm, _, _, _, _ => by omega
  | f + 1, m + 1, a, cnt, hd, x, hf, hh, h64, hmm, ha, h1, h2, h3 => by
    have hid := id_range hm.1 hf
    have hml := mayL_of hm hf
    have hsel := mayP_sel hm hf
    have hfm := formsOk_mem hm.1 x (findP_some hf).1
    have hg := hl.g x (findP_some hf).1
    show F_z1z_0 FUEL k l s (L_z1z_0 FUEL k l s m) hd.length x.1 (a : Int) cnt hd = _
    unfold F_z1z_0
    refine Eq.trans (L_rNode _ l hm.2.1 s hd.length x.1 (a : Int) cnt hd FUEL 0 _ (by omega) (by have := hm.2.1; unfold FUEL; omega) ⟨0, by rw [List.drop_zero]; exact hm.1⟩) ?_
    rw [List.drop_zero, hf, Option.getD_some]
    have hx0 : (x.1 == (0 : Int)) = false := by rw [int_beq]; exact decide_eq_false (by omega)
    have hc : IntKind.wrap .i64 (cnt + 1) = cnt + 1 := IntWalk.i64_in _ (by omega)
    have hroom : (decide ((hd.length + 1) * 16 ≤ 2 ^ 46 ∧ hd.length + 1 ≤ 2 ^ 46)) = true := by
      rw [decide_eq_true_eq]; omega
    simp only [hx0, cond_false, ok_z1y, q_z1y, Q_rSize x s (a : Int) (by omega), RS.get, Option.getD_some, Option.isSome_some, cond_true, hc, cutL_all, hroom]
    simp only [W]
    by_cases hz : (sizeV x s (a : Int)).2 = 0
    case neg =>
      rw [if_pos hz, int_bne, decide_eq_false hz]
      simp
    obtain ⟨z, ez, hz1, hz2⟩ := sizeV_fine hml hz
    have ewrap : IntKind.wrap .i64 ((a : Int) + (z : Int)) = ((a + z : Nat) : Int) := by rw [IntWalk.i64_in _ (by omega)]; omega
    rw [if_neg (by simp [hz]), int_bne, decide_eq_true hz]
    simp only [Bool.not_true, cond_false, ez, ewrap]
    -- where it goes on
    have next : ∀ v, nextV l x s (a : Int) = goV l x v →
        (cond (nextT l x v == (65535 : Int)) (k (hd.length + 1) (cnt + 1) 4 (hd ++ [(x.1, ((a : Int), ()))]))
          (cond (nextT l x v == (0 : Int)) (k (hd.length + 1) (cnt + 1) 0 (hd ++ [(x.1, ((a : Int), ()))]))
            (L_z1z_0 FUEL k l s m (hd.length + 1) (nextT l x v) ((a + z : Nat) : Int) (cnt + 1) (hd ++ [(x.1, ((a : Int), ()))])))) =
        k (hd ++ (if (nextV l x s (a : Int)).2 ≠ 0 then ([(x.1, ((a : Int), ()))], (1, (nextV l x s (a : Int)).2)) else match findP l (nextV l x s (a : Int)).1 with
          | none => ([(x.1, ((a : Int), ()))], (1, 0))
          | some y => ((x.1, ((a : Int), ())) :: (W l s f ((a + z : Nat) : Int) y).1, (1 + (W l s f ((a + z : Nat) : Int) y).2.1, (W l s f ((a + z : Nat) : Int) y).2.2)) : List HeadS × (Int × Int)).1).length
          (cnt + (if (nextV l x s (a : Int)).2 ≠ 0 then ([(x.1, ((a : Int), ()))], (1, (nextV l x s (a : Int)).2)) else match findP l (nextV l x s (a : Int)).1 with
          | none => ([(x.1, ((a : Int), ()))], (1, 0))
          | some y => ((x.1, ((a : Int), ())) :: (W l s f ((a + z : Nat) : Int) y).1, (1 + (W l s f ((a + z : Nat) : Int) y).2.1, (W l s f ((a + z : Nat) : Int) y).2.2)) : List HeadS × (Int × Int)).2.1)
          (if (nextV l x s (a : Int)).2 ≠ 0 then ([(x.1, ((a : Int), ()))], (1, (nextV l x s (a : Int)).2)) else match findP l (nextV l x s (a : Int)).1 with
          | none => ([(x.1, ((a : Int), ()))], (1, 0))
          | some y => ((x.1, ((a : Int), ())) :: (W l s f ((a + z : Nat) : Int) y).1, (1 + (W l s f ((a + z : Nat) : Int) y).2.1, (W l s f ((a + z : Nat) : Int) y).2.2)) : List HeadS × (Int × Int)).2.2
          (hd ++ (if (nextV l x s (a : Int)).2 ≠ 0 then ([(x.1, ((a : Int), ()))], (1, (nextV l x s (a : Int)).2)) else match findP l (nextV l x s (a : Int)).1 with
          | none => ([(x.1, ((a : Int), ()))], (1, 0))
          | some y => ((x.1, ((a : Int), ())) :: (W l s f ((a + z : Nat) : Int) y).1, (1 + (W l s f ((a + z : Nat) : Int) y).2.1, (W l s f ((a + z : Nat) : Int) y).2.2)) : List HeadS × (Int × Int)).1) := fun v hv => by
      rw [hv]
      have hmem := (nextT_ok l hl hf v).1
      by_cases h65 : nextT l x v = 65535
      · have eg : goV l x v = (0, 4) := by unfold goV; rw [if_pos h65]
        rw [eg, int_beq, decide_eq_true h65]
        simp
      · have eg : goV l x v = (nextT l x v, 0) := by unfold goV; rw [if_neg h65]
        have hfl := find_lt hm H hf hmem
        rw [eg, int_beq, decide_eq_false h65, int_beq]
        simp only [cond_false, ne_eq, not_true, if_false]
        cases hfy : findP l (nextT l x v) with
        | none =>
          have h0 : nextT l x v = 0 := by
            rcases hfl.2 with h | h | h
            · exact absurd hfy h
            · exact h
            · exact absurd h h65
          rw [decide_eq_true h0]
          simp
        | some y =>
          obtain ⟨_, hy⟩ := findP_some hfy
          have hr := id_range hm.1 hfy
          rw [decide_eq_false (by omega)]
          simp only [cond_false]
          have hnn := H.nonneg y.1
          have hlt' : h y.1 < h x.1 := by rw [hy]; exact hfl.1
          have := L_rWalk k l hl hm H s hs f m (a + z) (cnt + 1) (hd ++ [(x.1, ((a : Int), ()))]) y (by rw [hy]; exact hfy) (by omega) (by omega) (by omega) hz1 (by omega) (by omega) (by simp; omega)
          rw [show (hd ++ [(x.1, ((a : Int), ()))]).length = hd.length + 1 by simp, hy] at this
          rw [this]
          simp only [List.append_assoc, List.singleton_append]
          rw [show cnt + 1 + (W l s f ((a + z : Nat) : Int) y).2.1 = cnt + (1 + (W l s f ((a + z : Nat) : Int) y).2.1) by omega]
    by_cases hw : x.2.2.2.2.2.2.1 > 0
    · have e1 : ((x.2.2.2.2.2.1.toNat : Nat) : Int) = x.2.2.2.2.2.1 := by omega
      have e2 : ((x.2.2.2.2.2.2.1.toNat : Nat) : Int) = x.2.2.2.2.2.2.1 := by omega
      have hQ := Q_rnumber s (a : Int) x.2.2.2.2.2.1.toNat x.2.2.2.2.2.2.1.toNat (by omega) (by omega) (by omega) (by omega)
      rw [e1, e2] at hQ
      have hn := numV_val s a x.2.2.2.2.2.1.toNat x.2.2.2.2.2.2.1.toNat (by omega) (by omega)
      have hnx : nextV l x s (a : Int) = if (numV s (a : Int) x.2.2.2.2.2.1.toNat x.2.2.2.2.2.2.1.toNat).2 = false then (0, 1) else goV l x (IntKind.wrap .u32 (numV s (a : Int) x.2.2.2.2.2.1.toNat x.2.2.2.2.2.2.1.toNat).1) := by
        unfold nextV
        rw [if_pos hw]
      simp only [hw, decide_true, cond_true, ok_z1x, q_z1x, hQ, RS.get, Option.getD_some, Option.isSome_some]
      by_cases hok : a ≤ s.size ∧ x.2.2.2.2.2.1.toNat + x.2.2.2.2.2.2.1.toNat ≤ 8 * (s.size - a)
      · rw [if_pos hok] at hn
        have hbl := bv_lt (bN s) (8 * a + x.2.2.2.2.2.1.toNat) x.2.2.2.2.2.2.1.toNat
        have h32 := two32 (show x.2.2.2.2.2.2.1.toNat ≤ 32 by omega)
        rw [hn] at hnx ⊢
        rw [if_neg (by simp), wrap32 _ (by omega)] at hnx
        simp only [Bool.not_true, cond_false]
        refine Eq.trans (L_rArms _ l s _ _ _ _ _ _ x (by have := hfm.1.1; unfold formL at this; exact this.2.2.2.2.2.2.1) hg (sel := x.2.2.2.2.2.2.1.toNat) FUEL 0 _ (by omega) (by have := hfm.1.1; unfold formL at this; have := this.2.2.2.2.2.2.1; unfold nArms; unfold FUEL; omega) ⟨-1, by rw [List.drop_zero]; exact hfm.1.2⟩) ?_
        rw [List.drop_zero]
        have ht := nextT_eq l hl hf ((bv (bN s) (8 * a + x.2.2.2.2.2.1.toNat) x.2.2.2.2.2.2.1.toNat : Nat) : Int)
        have ht' : armV (armOf (nArms x) ((bv (bN s) (8 * a + x.2.2.2.2.2.1.toNat) x.2.2.2.2.2.2.1.toNat : Nat) : Int)) x.2.2.2.2.2.2.2.2.1 = nextT l x ((bv (bN s) (8 * a + x.2.2.2.2.2.1.toNat) x.2.2.2.2.2.2.1.toNat : Nat) : Int) := ht.symm
        rw [ht']
        exact next _ hnx
      · rw [if_neg hok] at hn
        rw [hn] at hnx ⊢
        rw [if_pos rfl] at hnx
        simp only [Bool.not_false, cond_true, hnx]
        simp
    · have hnx : nextV l x s (a : Int) = goV l x 0 := by
        unfold nextV
        rw [if_neg hw]
        rfl
      simp only [hw, decide_false, cond_false]
      have harm : nArms x = [] := by
        have := hfm.1.1
        unfold formL at this
        have h8 := this.2.2.2.2.2.2.2.2
        have : x.2.2.2.2.2.2.2.1.length = 0 := by omega
        exact List.length_eq_zero_iff.1 this
      have ht : x.2.2.2.2.2.2.2.2.1 = nextT l x 0 := by
        rw [nextT_eq l hl hf, harm]; rfl
      rw [ht]
      exact next 0 hnx

theorem Q_rWalk (l : List NodeS) (hl : Nodes l) (s : ByteArray) (hs : s.size ≤ 10000) : Q_z1z l s = some (((walkV l s).1.length, ((walkV l s).2.1, ((walkV l s).2.2, ()))), ((walkV l s).1, ())) := by
  refine fin ?_
  unfold M_z1z
  obtain ⟨v, hv, hm0⟩ := Q_rMay l hl
  simp only [ok_z1r, q_z1r, hv, RS.get, Option.getD_some, Option.isSome_some, cond_true, int_bne]
  by_cases hm : mayP l
  · rw [decide_eq_true (hm0.2 hm)]
    simp only [Bool.not_true, cond_false]
    have hw : walkV l s = (match findP l 1 with | some x => W l s 64 0 x | none => ([], (0, 0))) := by unfold walkV; rw [if_pos hm]; rfl
    obtain ⟨h, H⟩ := hm.2.2.2
    cases hf : findP l 1 with
    | none =>
      rw [hf] at hw
      have hw' : walkV l s = ([], (0, 0)) := hw
      rw [hw']
      have h0 : ∀ (k : Nat → Int → Int → List HeadS → Option Res) m, 0 < m → L_z1z_0 FUEL k l s m 0 1 0 0 [] = k 0 0 0 [] := fun k m hmm => by
        cases m with
        | zero => omega
        | succ m =>
          show F_z1z_0 FUEL k l s (L_z1z_0 FUEL k l s m) 0 1 0 0 [] = _
          unfold F_z1z_0
          refine Eq.trans (L_rNode _ l hm.2.1 s 0 1 0 0 [] FUEL 0 _ (by omega) (by have := hm.2.1; unfold FUEL; omega) ⟨0, by rw [List.drop_zero]; exact hm.1⟩) ?_
          rw [List.drop_zero, hf, Option.getD_none]
          rfl
      exact h0 _ FUEL (by unfold FUEL; omega)
    | some x =>
      rw [hf] at hw
      have hw' : walkV l s = W l s 64 0 x := hw
      obtain ⟨_, hx⟩ := findP_some hf
      have hle := Hgt.le hm.2.1 hl.arms H x.1
      have h32 := hm.2.1
      have := L_rWalk (fun y6 y7 y8 y9 => some (encRes ro_z1z rh_z1z ((y6, (y7, (y8, ()))), (y9, ())))) l hl hm H s hs 64 FUEL 0 0 [] x (by rw [hx]; exact hf) (by omega) (by omega) (by unfold FUEL; omega) (by omega) (by omega) (by omega) (by simp)
      rw [hx] at this
      simp only [List.nil_append, List.length_nil, Int.zero_add] at this
      rw [hw']
      exact this
  · have hn : ¬ v = 0 := fun e => hm (hm0.1 e)
    rw [decide_eq_false hn]
    have hw : walkV l s = ([], (0, 0)) := by unfold walkV; rw [if_neg hm]
    rw [hw]; rfl
end Go.AMach
