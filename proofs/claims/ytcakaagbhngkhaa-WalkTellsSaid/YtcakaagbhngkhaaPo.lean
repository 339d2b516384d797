/- Layer 16: the document's graphs: turnoutref15.May is 0 just where a graph may be. -/
import Derived.Test.YtcakaagbhngkhaaPn
namespace Go.AMach
set_option linter.unusedVariables false
set_option linter.unusedSimpArgs false
set_option linter.unnecessarySimpa false
open Go
set_option linter.unusedVariables false

/-! ### Ranks -/
def rk (l : List NodeS) : Nat → Int → Int
  | 0, _ => 0
  | r + 1, k => match findP l k with
    | none => 0
    | some x => 1 + hmax (rk l r) (goesP x) 0

theorem hmax_le {f : Int → Int} {B : Int} : ∀ (g : List Int) (m0 : Int), m0 ≤ B → (∀ t ∈ g, f t ≤ B) → hmax f g m0 ≤ B := fun g m0 h0 h => by
  rcases hmax_mem f g m0 with e | ⟨t, ht, e⟩
  · rw [e]; exact h0
  · rw [e]; exact h t ht
theorem rk_nonneg (l : List NodeS) : ∀ r k, 0 ≤ rk l r k
  | 0, k => Int.le_refl _
  | r + 1, k => by
    simp only [rk]
    split
    · exact Int.le_refl _
    · rename_i x _
      have := hmax_ge0 (rk l r) (goesP x) 0
      omega
theorem rk_le (l : List NodeS) : ∀ (r : Nat) k, rk l r k ≤ r
  | 0, k => Int.le_refl _
  | r + 1, k => by
    simp only [rk]
    split
    · omega
    · rename_i x _
      have := hmax_le (f := rk l r) (B := r) (goesP x) 0 (by omega) fun t _ => rk_le l r t
      omega
theorem rk_mono (l : List NodeS) : ∀ (r : Nat) k, rk l r k ≤ rk l (r + 1) k
  | 0, k => rk_nonneg l 1 k
  | r + 1, k => by
    cases hf : findP l k with
    | none => simp [rk, hf]
    | some x =>
      have e1 : rk l (r + 1) k = 1 + hmax (rk l r) (goesP x) 0 := by simp [rk, hf]
      have e2 : rk l (r + 1 + 1) k = 1 + hmax (rk l (r + 1)) (goesP x) 0 := by
        show (match findP l k with | none => 0 | some x => 1 + hmax (rk l (r + 1)) (goesP x) 0) = _
        rw [hf]
      rw [e1, e2]
      have := hmax_le (f := rk l r) (B := hmax (rk l (r + 1)) (goesP x) 0) (goesP x) 0 (hmax_ge0 _ _ _) fun t ht =>
        Int.le_trans (rk_mono l r t) (hmax_ge _ _ _ t ht)
      omega
/-- Where a round tells more, it tells as many as there were rounds. -/
theorem rk_jump (l : List NodeS) : ∀ (r : Nat) k, rk l r k < rk l (r + 1) k → rk l (r + 1) k = r + 1
  | 0, k, h => by
    have h1 := rk_le l 1 k
    have h0 : rk l 0 k = 0 := rfl
    have h : rk l 0 k < rk l 1 k := h
    show rk l 1 k = ((0 : Nat) : Int) + 1
    omega
  | r + 1, k, h => by
    cases hf : findP l k with
    | none => simp [rk, hf] at h
    | some x =>
      have e1 : rk l (r + 1) k = 1 + hmax (rk l r) (goesP x) 0 := by simp [rk, hf]
      have e2 : rk l (r + 1 + 1) k = 1 + hmax (rk l (r + 1)) (goesP x) 0 := by
        show (match findP l k with | none => 0 | some x => 1 + hmax (rk l (r + 1)) (goesP x) 0) = _
        rw [hf]
      rw [e1, e2] at h
      rw [e2]
      rcases hmax_mem (rk l (r + 1)) (goesP x) 0 with e | ⟨t, ht, e⟩
      · have := hmax_ge0 (rk l r) (goesP x) 0; omega
      · have h1 := hmax_ge (rk l r) (goesP x) 0 t ht
        have := rk_jump l r t (by omega)
        omega
theorem rk_hgt {l : List NodeS} {h : Int → Int} (H : Hgt l h) : ∀ (r : Nat) k, rk l r k ≤ h k
  | 0, k => H.nonneg k
  | r + 1, k => by
    simp only [rk]
    cases hf : findP l k with
    | none => exact H.nonneg k
    | some x =>
      rw [H.is k x hf]
      have := hmax_le (f := rk l r) (B := hmax h (goesP x) 0) (goesP x) 0 (hmax_ge0 _ _ _) fun t ht => Int.le_trans (rk_hgt H r t) (hmax_ge _ _ _ t ht)
      simp only []
      omega
theorem hgt_rk {l : List NodeS} {r : Nat} (h : ∀ x ∈ l, rk l (r + 1) x.1 ≤ r) : Hgt l (rk l r) := by
  have same : ∀ k, rk l (r + 1) k = rk l r k := fun k => by
    have hm := rk_mono l r k
    rcases Int.lt_or_eq_of_le hm with hlt | e
    · have hj := rk_jump l r k hlt
      cases hf : findP l k with
      | none => simp [rk, hf] at hj; omega
      | some x =>
        obtain ⟨hx, hk⟩ := findP_some hf
        have := h x hx
        rw [hk] at this; omega
    · exact e.symm
  refine ⟨fun k hf => ?_, fun k x hf => ?_⟩
  · rw [← same k]; simp [rk, hf]
  · rw [← same k]; simp [rk, hf]
theorem hmaxR (f : Int → Int) (x : NodeS) : hmax f (goesR x) 0 = hmax f (goesP x) 0 := by
  apply Int.le_antisymm
  · exact hmax_le _ _ (hmax_ge0 _ _ _) fun t ht => hmax_ge _ _ _ t (mem_goesR.1 ht)
  · exact hmax_le _ _ (hmax_ge0 _ _ _) fun t ht => hmax_ge _ _ _ t (mem_goesR.2 ht)
end Go.AMach
