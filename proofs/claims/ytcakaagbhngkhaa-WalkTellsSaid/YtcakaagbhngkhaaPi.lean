/- Layer 16: a text that is longer; headers held against each other; WalkBehind, WalkCut, WalkSteps. -/
import Derived.Test.YtcakaagbhngkhaaPh
namespace Go.AMach
set_option linter.unusedVariables false
set_option linter.unusedSimpArgs false
set_option linter.unnecessarySimpa false
open Go
set_option linter.unusedVariables false

structure Pre (s t : ByteArray) : Prop where
  le : s.size ≤ t.size
  eq : ∀ i, i < s.size → byteAt s i = byteAt t i

theorem numV_mono {s t : ByteArray} (h : Pre s t) {at_ : Int} {off w : Nat} (hw : 1 ≤ w) (hv : (numV s at_ off w).2 = true) : numV t at_ off w = numV s at_ off w := by
  unfold numV at hv ⊢
  by_cases hc : 0 ≤ at_ ∧ at_ ≤ (s.size : Int) ∧ off + w ≤ 8 * (s.size - at_.toNat)
  · have hle := h.le
    rw [if_pos hc, if_pos ⟨hc.1, by omega, by omega⟩]
    have : getP (fun i => byteAt t (at_.toNat + i)) off w = getP (fun i => byteAt s (at_.toNat + i)) off w := getP_congr hw fun i hi => (h.eq _ (by omega)).symm
    rw [this]
  · rw [if_neg hc] at hv; cases hv

theorem finV_mono {s t : ByteArray} (h : Pre s t) {at_ sz : Int} (hv : (finV s at_ sz).2 ≠ 1) : finV t at_ sz = finV s at_ sz := by
  have hle := h.le
  unfold finV at hv ⊢
  by_cases c1 : sz > 256
  · rw [if_pos c1, if_pos c1]
  rw [if_neg c1] at hv ⊢
  rw [if_neg c1]
  by_cases c2 : at_ < 0
  · rw [if_pos c2] at hv; exact absurd rfl hv
  rw [if_neg c2] at hv ⊢
  rw [if_neg c2]
  by_cases c3 : at_ > (s.size : Int)
  · rw [if_pos c3] at hv; exact absurd rfl hv
  rw [if_neg c3] at hv ⊢
  by_cases c4 : sz > (s.size : Int) - at_
  · rw [if_pos c4] at hv; exact absurd rfl hv
  rw [if_neg c4, if_neg (by omega), if_neg (by omega)]

theorem sizeV_mono {s t : ByteArray} (h : Pre s t) {x : NodeS} {at_ : Int} (hv : (sizeV x s at_).2 ≠ 1) : sizeV x t at_ = sizeV x s at_ := by
  unfold sizeV at hv ⊢
  by_cases c1 : ¬ mayL x
  · rw [if_pos c1, if_pos c1]
  rw [if_neg c1] at hv ⊢
  rw [if_neg c1]
  by_cases c2 : x.2.2.2.1 > 0
  · rw [if_pos c2] at hv ⊢
    rw [if_pos c2]
    by_cases c3 : (numV s at_ x.2.2.1.toNat x.2.2.2.1.toNat).2 = false
    · rw [if_pos c3] at hv; exact absurd rfl hv
    · rw [if_neg c3] at hv ⊢
      rw [numV_mono h (by omega) (by simpa using c3), if_neg c3]
      exact finV_mono h hv
  · rw [if_neg c2] at hv ⊢
    rw [if_neg c2]
    exact finV_mono h hv

theorem nextV_mono {s t : ByteArray} (h : Pre s t) {l : List NodeS} {x : NodeS} {at_ : Int} (hv : (nextV l x s at_).2 ≠ 1) : nextV l x t at_ = nextV l x s at_ := by
  unfold nextV at hv ⊢
  by_cases c2 : x.2.2.2.2.2.2.1 > 0
  · rw [if_pos c2] at hv ⊢
    rw [if_pos c2]
    by_cases c3 : (numV s at_ x.2.2.2.2.2.1.toNat x.2.2.2.2.2.2.1.toNat).2 = false
    · rw [if_pos c3] at hv; exact absurd rfl hv
    · rw [if_neg c3]
      rw [numV_mono h (by omega) (by simpa using c3), if_neg c3]
  · rw [if_neg c2, if_neg c2]

/-- What a longer text changes: nothing, but where the shorter one ends. -/
def More (a b : List HeadS × (Int × Int)) : Prop := (∃ t, b.1 = a.1 ++ t) ∧ a.2.1 ≤ b.2.1 ∧ (a.2.2 = 1 ∨ b = a)
theorem More.refl (a : List HeadS × (Int × Int)) : More a a := ⟨⟨[], by simp⟩, Int.le_refl _, .inr rfl⟩

theorem W_mono {s t : ByteArray} (h : Pre s t) (l : List NodeS) : ∀ (f : Nat) (at_ : Int) (x : NodeS), More (W l s f at_ x) (W l t f at_ x)
  | 0, at_, x => More.refl _
  | f + 1, at_, x => by
    have hp := W_pos l t f at_ x
    by_cases hz : (sizeV x s at_).2 = 1
    · have : W l s (f + 1) at_ x = ([], (1, 1)) := by simp [W, hz]
      rw [this]
      exact ⟨⟨_, rfl⟩, hp, .inl rfl⟩
    have es := sizeV_mono h hz
    by_cases hz0 : (sizeV x s at_).2 ≠ 0
    · have e1 : W l s (f + 1) at_ x = ([], (1, (sizeV x s at_).2)) := by simp only [W]; rw [if_pos hz0]
      have e2 : W l t (f + 1) at_ x = ([], (1, (sizeV x s at_).2)) := by simp only [W]; rw [es, if_pos hz0]
      rw [e1, e2]; exact More.refl _
    by_cases hn : (nextV l x s at_).2 = 1
    · have e1 : W l s (f + 1) at_ x = ([(x.1, (at_, ()))], (1, 1)) := by simp only [W]; rw [if_neg hz0, hn]; simp
      have e2 : ∃ r, (W l t (f + 1) at_ x).1 = [(x.1, (at_, ()))] ++ r := by
        simp only [W]
        rw [es, if_neg hz0]
        split
        · exact ⟨[], rfl⟩
        split
        · exact ⟨[], rfl⟩
        · exact ⟨_, rfl⟩
      rw [e1]
      exact ⟨e2, hp, .inl rfl⟩
    have en := nextV_mono h (l := l) hn
    by_cases hn0 : (nextV l x s at_).2 ≠ 0
    · have e1 : W l s (f + 1) at_ x = ([(x.1, (at_, ()))], (1, (nextV l x s at_).2)) := by simp only [W]; rw [if_neg hz0, if_pos hn0]
      have e2 : W l t (f + 1) at_ x = ([(x.1, (at_, ()))], (1, (nextV l x s at_).2)) := by simp only [W]; rw [es, en, if_neg hz0, if_pos hn0]
      rw [e1, e2]; exact More.refl _
    simp only [W]
    rw [es, en, if_neg hz0, if_neg hn0, if_neg hz0, if_neg hn0]
    cases hf : findP l (nextV l x s at_).1 with
    | none => exact More.refl _
    | some y =>
      obtain ⟨⟨r, h1⟩, h2, h3⟩ := W_mono h l f (IntKind.wrap .i64 (at_ + (sizeV x s at_).1)) y
      refine ⟨⟨r, by simp [h1]⟩, by simp; omega, ?_⟩
      rcases h3 with h3 | h3
      · exact .inl h3
      · right; simp only [h3]

theorem walkV_mono {s t : ByteArray} (h : Pre s t) (l : List NodeS) : More (walkV l s) (walkV l t) := by
  unfold walkV
  split
  · split
    · exact W_mono h l 64 0 _
    · exact More.refl _
  · exact More.refl _

theorem walkV_bound (l : List NodeS) (s : ByteArray) : (walkV l s).1.length ≤ 64 ∧ 0 ≤ (walkV l s).2.1 ∧ (walkV l s).2.1 ≤ 64 := by
  unfold walkV
  split
  · split
    · exact W_bound l s 64 0 _
    · simp
  · simp

/-! ### Headers held against each other -/
theorem L_Heads (kr : Bool → Option Res) (kt : Unit → Option Res) (a b : List HeadS) (hl : a.length = b.length) (hs : a.length < 9223372036854775807) : ∀ (m i : Nat), i ≤ a.length → a.length - i < m →
    L_turnoutref16_Heads_0 FUEL kr kt a b m (i : Int) = if a.drop i = b.drop i then kt () else kr false
  | 0, _, _, h => by omega
  | m + 1, i, hi, hm => by
    show F_turnoutref16_Heads_0 FUEL kr kt a b (L_turnoutref16_Heads_0 FUEL kr kt a b m) (i : Int) = _
    unfold F_turnoutref16_Heads_0
    simp only [cond_dec, int_beq, toNat_cast]
    by_cases h : i < a.length
    · rw [if_pos (by omega), if_pos (by omega), if_pos (by omega), drop_rdd zHeadS h, drop_rdd zHeadS (by omega : i < b.length)]
      by_cases he : rdd zHeadS a i = rdd zHeadS b i
      · rw [he, i64_succ (by omega), L_Heads kr kt a b hl hs m (i + 1) (by omega) (by omega)]
        simp
      · have : ¬ ((rdd zHeadS a i).1 = (rdd zHeadS b i).1 ∧ (rdd zHeadS a i).2.1 = (rdd zHeadS b i).2.1) := fun k => he (Prod.ext k.1 (Prod.ext k.2 rfl))
        rw [if_neg (fun k => he (List.cons.inj k).1)]
        have e : (decide ((rdd zHeadS a i).1 = (rdd zHeadS b i).1) && (decide ((rdd zHeadS a i).2.1 = (rdd zHeadS b i).2.1) && true)) = false := by
          simp only [Bool.and_true, Bool.and_eq_false_iff, decide_eq_false_iff_not]
          by_cases h1 : (rdd zHeadS a i).1 = (rdd zHeadS b i).1
          · right; exact fun h2 => this ⟨h1, h2⟩
          · left; exact h1
        rw [e]; rfl
    · rw [if_neg (by omega), List.drop_of_length_le (by omega), List.drop_of_length_le (by omega), if_pos rfl]

theorem Q_Heads (a b : List HeadS) (ha : a.length < 9223372036854775807) : Q_turnoutref16_Heads a b = some ((decide (a = b), ()), ()) := by
  refine fin ?_
  unfold M_turnoutref16_Heads
  simp only [int_bne]
  by_cases hl : a.length = b.length
  · rw [decide_eq_true (by rw [hl])]
    simp only [Bool.not_true, cond_false]
    refine Eq.trans (L_Heads _ _ a b hl ha FUEL 0 (by omega) (by unfold FUEL; omega)) ?_
    rw [List.drop_zero, List.drop_zero]
    by_cases h : a = b
    · rw [if_pos h, decide_eq_true h]
    · rw [if_neg h, decide_eq_false h]
  · rw [decide_eq_false (fun h => hl (by omega))]
    simp only [Bool.not_false, cond_true]
    rw [decide_eq_false (fun h => hl (by rw [h]))]
end Go.AMach
