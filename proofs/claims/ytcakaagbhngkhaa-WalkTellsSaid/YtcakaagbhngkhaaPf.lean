/- Layer 16: bits of a text, as the program reads them. -/
import Derived.Test.YtcakaagbhngkhaaPe
namespace Go.AMach
set_option linter.unusedVariables false
set_option linter.unusedSimpArgs false
set_option linter.unnecessarySimpa false
open Go
set_option linter.unusedVariables false

theorem Q_Left (w : WordS) (k : Int) (hk : -4611686018427387904 ≤ k ∧ k ≤ 4611686018427387904) : Q_word_Left w k = some (((q_word_Left w k).1.1, ()), ()) := by
  have : ∃ v, Q_word_Left w k = some ((v, ()), ()) := by
    have : ∃ v, M_word_Left FUEL w k = some (encRes ro_word_Left rh_word_Left ((v, ()), ())) := by
      unfold M_word_Left
      simp only [cond_dec]
      by_cases h1 : k ≤ 0
      · rw [if_pos h1]; exact ⟨_, rfl⟩
      rw [if_neg h1]
      by_cases h2 : k ≥ 64
      · rw [if_pos h2, if_pos (by rw [IntWalk.i64_in _ (by omega)]; omega)]; exact ⟨_, rfl⟩
      · rw [if_neg h2, if_pos (by omega), if_pos (by rw [IntWalk.i64_in _ (by omega)]; omega), if_pos (by omega)]; exact ⟨_, rfl⟩
    obtain ⟨v, hv⟩ := this
    exact ⟨v, fin hv⟩
  obtain ⟨v, hv⟩ := this
  unfold q_word_Left
  rw [hv]; rfl

theorem Q_Right (w : WordS) (k : Int) (hk : -4611686018427387904 ≤ k ∧ k ≤ 4611686018427387904) : Q_word_Right w k = some (((q_word_Right w k).1.1, ()), ()) := by
  have : ∃ v, Q_word_Right w k = some ((v, ()), ()) := by
    have : ∃ v, M_word_Right FUEL w k = some (encRes ro_word_Right rh_word_Right ((v, ()), ())) := by
      unfold M_word_Right
      simp only [cond_dec]
      by_cases h1 : k ≤ 0
      · rw [if_pos h1]; exact ⟨_, rfl⟩
      rw [if_neg h1]
      by_cases h2 : k ≥ 64
      · rw [if_pos h2, if_pos (by rw [IntWalk.i64_in _ (by omega)]; omega)]; exact ⟨_, rfl⟩
      · rw [if_neg h2, if_pos (by omega), if_pos (by omega), if_pos (by rw [IntWalk.i64_in _ (by omega)]; omega)]; exact ⟨_, rfl⟩
    obtain ⟨v, hv⟩ := this
    exact ⟨v, fin hv⟩
  obtain ⟨v, hv⟩ := this
  unfold q_word_Right
  rw [hv]; rfl

theorem Q_New (x : Int) : Q_word_New x = some (((0, (x, ())), ()), ()) := fin rfl
theorem Q_Or (a b : WordS) : Q_word_Or a b = some (((q_word_Or a b).1.1, ()), ()) := by
  have : ∃ v, Q_word_Or a b = some ((v, ()), ()) := ⟨_, fin rfl⟩
  obtain ⟨v, hv⟩ := this
  unfold q_word_Or
  rw [hv]; rfl
theorem Q_And (a b : WordS) : Q_word_And a b = some (((q_word_And a b).1.1, ()), ()) := by
  have : ∃ v, Q_word_And a b = some ((v, ()), ()) := ⟨_, fin rfl⟩
  obtain ⟨v, hv⟩ := this
  unfold q_word_And
  rw [hv]; rfl
theorem Q_Not (a : WordS) : Q_word_Not a = some (((q_word_Not a).1.1, ()), ()) := by
  have : ∃ v, Q_word_Not a = some ((v, ()), ()) := ⟨_, fin rfl⟩
  obtain ⟨v, hv⟩ := this
  unfold q_word_Not
  rw [hv]; rfl
theorem Q_Mask (k : Int) : Q_word_Mask k = some (((q_word_Mask k).1.1, ()), ()) := by
  have : ∃ v, Q_word_Mask k = some ((v, ()), ()) := by
    have : ∃ v, M_word_Mask FUEL k = some (encRes ro_word_Mask rh_word_Mask ((v, ()), ())) := by
      unfold M_word_Mask
      simp only [ok_word_Not, Q_Not, Option.isSome_some, cond_true]
      generalize hy : (if (128 : Int) < (if (0 : Int) > k then (0 : Int) else k) then (128 : Int) else (if (0 : Int) > k then (0 : Int) else k)) = y
      have h0 : 0 ≤ y ∧ y ≤ 128 := by
        subst hy
        split <;> split <;> omega
      simp only [ok_word_Right]
      rw [Q_Right _ _ (by rw [IntWalk.i64_in _ (by omega)]; omega)]
      exact ⟨_, rfl⟩
    obtain ⟨v, hv⟩ := this
    exact ⟨v, fin hv⟩
  obtain ⟨v, hv⟩ := this
  unfold q_word_Mask
  rw [hv]; rfl
theorem Q_Cut (a : WordS) (k : Int) : Q_word_Cut a k = some (((q_word_Cut a k).1.1, ()), ()) := by
  have : ∃ v, Q_word_Cut a k = some ((v, ()), ()) := by
    have : ∃ v, M_word_Cut FUEL a k = some (encRes ro_word_Cut rh_word_Cut ((v, ()), ())) := by
      unfold M_word_Cut
      simp only [ok_word_Mask, Q_Mask, ok_word_And, Q_And, Option.isSome_some, cond_true]
      exact ⟨_, rfl⟩
    obtain ⟨v, hv⟩ := this
    exact ⟨v, fin hv⟩
  obtain ⟨v, hv⟩ := this
  unfold q_word_Cut
  rw [hv]; rfl

/-! ### Get -/
noncomputable def absorb (w : WordS) (b : Int) : WordS := (q_word_Or (q_word_Left w 8).1.1 (q_word_New (IntKind.wrap .u64 b)).1.1).1.1
/-- Bytes taken in, one behind the other. -/
noncomputable def absorbs (bf : Nat → Int) (f : Nat) : Nat → WordS → WordS
  | 0, w => w
  | c + 1, w => absorbs bf (f + 1) c (absorb w (bf f))
theorem absorbs_congr {bf bg : Nat → Int} : ∀ (c f : Nat) (w : WordS), (∀ i, f ≤ i → i < f + c → bf i = bg i) → absorbs bf f c w = absorbs bg f c w
  | 0, f, w, h => rfl
  | c + 1, f, w, h => by
    simp only [absorbs]
    rw [h f (by omega) (by omega)]
    exact absorbs_congr c (f + 1) _ fun i h1 h2 => h i (by omega) (by omega)

theorem L_Get (k : WordS → Option Res) (s : ByteArray) (a1 a2 la : Int) (z : WordS) (f c : Nat) (hc : f + c ≤ s.size) (hs : s.size < 1000000000) : ∀ (m i : Nat) (acc : WordS), i ≤ c → c - i < m →
    L_field_Get_0 FUEL k s a1 a2 (f : Int) la (c : Int) z m (i : Int) acc = k (absorbs (byteAt s) (f + i) (c - i) acc)
  | 0, _, _, _, h => by omega
  | m + 1, i, acc, hi, hm => by
    show F_field_Get_0 FUEL k s a1 a2 (f : Int) la (c : Int) z (L_field_Get_0 FUEL k s a1 a2 (f : Int) la (c : Int) z m) (i : Int) acc = _
    unfold F_field_Get_0
    simp only [cond_dec]
    by_cases h : i < c
    · rw [if_pos (by omega)]
      have hw : IntKind.wrap .i64 ((f : Int) + (i : Int)) = ((f + i : Nat) : Int) := by rw [IntWalk.i64_in _ (by omega)]; omega
      simp only [hw, toNat_cast, ok_word_Left, Q_Left acc 8 (by omega), ok_word_New, Q_New, ok_word_Or, Q_Or, Option.isSome_some, cond_true]
      rw [if_pos (by omega), i64_succ (by omega)]
      have := L_Get k s a1 a2 la z f c hc hs m (i + 1) (absorb acc (byteAt s (f + i))) (by omega) (by omega)
      rw [show c - i = (c - (i + 1)) + 1 by omega]
      simp only [absorbs]
      rw [show f + i + 1 = f + (i + 1) by omega, ← this]
      rfl
    · rw [if_neg (by omega), show c - i = 0 by omega]
      rfl

/-- What is read. -/
noncomputable def getP (bf : Nat → Int) (off w : Nat) : WordS :=
  let e := (off + w + 7) / 8
  let d : Nat := e * 8 - off - w
  (q_word_Cut (q_word_Or (q_word_Left (absorbs bf (off / 8) (e - off / 8 - 1) (0, (0, ()))) ((8 - d : Nat) : Int)).1.1 (q_word_New (IntKind.wrap .u64 (Int.fdiv (bf (e - 1)) (2 ^ (min d 8))))).1.1).1.1 (w : Int)).1.1

theorem getP_congr {bf bg : Nat → Int} {off w : Nat} (hw : 1 ≤ w) (h : ∀ i, i < (off + w + 7) / 8 → bf i = bg i) : getP bf off w = getP bg off w := by
  unfold getP
  simp only []
  rw [absorbs_congr (bg := bg) _ _ _ (fun i h1 h2 => h i (by omega)), h ((off + w + 7) / 8 - 1) (by omega)]

theorem Q_fmay (s : ByteArray) (off w : Nat) (hs : s.size < 1000000000) (h1 : 1 ≤ w) (h2 : w ≤ 128) (h3 : off < 1000000000) : Q_field_may s (off : Int) (w : Int) = some ((if off + w ≤ 8 * s.size then 0 else 4, ()), ()) := by
  refine fin ?_
  unfold M_field_may
  simp only [cond_dec]
  rw [if_neg (by omega), if_neg (by omega), if_neg (by omega)]
  have hw : IntKind.wrap .i64 (IntKind.wrap .i64 (8 * (s.size : Int)) - (w : Int)) = 8 * (s.size : Int) - w := by
    rw [IntWalk.i64_in (8 * (s.size : Int)) (by omega), IntWalk.i64_in _ (by omega)]
  rw [hw]
  by_cases h : off + w ≤ 8 * s.size
  · rw [if_neg (by omega), if_pos h]
  · rw [if_pos (by omega), if_neg h]

theorem Q_Get (s : ByteArray) (off w : Nat) (hs : s.size < 1000000000) (h1 : 1 ≤ w) (h2 : w ≤ 128) (h3 : off < 1000000000) :
    Q_field_Get s (off : Int) (w : Int) = some (if off + w ≤ 8 * s.size then (getP (byteAt s) off w, (0, ())) else ((0, (0, ())), (4, ())), ()) := by
  refine fin ?_
  unfold M_field_Get
  simp only [ok_field_may, q_field_may, Q_fmay s off w hs h1 h2 h3, RS.get, Option.getD_some, Option.isSome_some, cond_true, int_bne]
  by_cases h : off + w ≤ 8 * s.size
  · rw [if_pos h]
    simp only [decide_true, Bool.not_true, cond_false, if_pos h]
    have e1 : IntKind.wrap .i64 (IntKind.wrap .i64 (IntKind.wrap .i64 ((off : Int) + (w : Int)) + 8) - 1) = ((off + w + 7 : Nat) : Int) := by
      rw [IntWalk.i64_in ((off : Int) + w) (by omega), IntWalk.i64_in ((off : Int) + w + 8) (by omega), IntWalk.i64_in _ (by omega)]; omega
    have e2 : IntKind.wrap .i64 (Int.tdiv ((off + w + 7 : Nat) : Int) 8) = (((off + w + 7) / 8 : Nat) : Int) := by
      rw [Int.tdiv_eq_ediv_of_nonneg (by omega), IntWalk.i64_in _ (by omega)]; omega
    have e3 : IntKind.wrap .i64 (Int.tdiv (off : Int) 8) = ((off / 8 : Nat) : Int) := by
      rw [Int.tdiv_eq_ediv_of_nonneg (by omega), IntWalk.i64_in _ (by omega)]; omega
    have e4 : IntKind.wrap .i64 (IntKind.wrap .i64 ((((off + w + 7) / 8 : Nat) : Int) - ((off / 8 : Nat) : Int)) - 1) = (((off + w + 7) / 8 - off / 8 - 1 : Nat) : Int) := by
      rw [IntWalk.i64_in ((((off + w + 7) / 8 : Nat) : Int) - ((off / 8 : Nat) : Int)) (by omega), IntWalk.i64_in _ (by omega)]; omega
    have e5 : IntKind.wrap .i64 (IntKind.wrap .i64 (IntKind.wrap .i64 ((((off + w + 7) / 8 : Nat) : Int) * 8) - (off : Int)) - (w : Int)) = (((off + w + 7) / 8 * 8 - off - w : Nat) : Int) := by
      rw [IntWalk.i64_in ((((off + w + 7) / 8 : Nat) : Int) * 8) (by omega), IntWalk.i64_in ((((off + w + 7) / 8 : Nat) : Int) * 8 - off) (by omega), IntWalk.i64_in _ (by omega)]; omega
    have e6 : IntKind.wrap .i64 (8 - (((off + w + 7) / 8 * 8 - off - w : Nat) : Int)) = ((8 - ((off + w + 7) / 8 * 8 - off - w) : Nat) : Int) := by
      rw [IntWalk.i64_in _ (by omega)]; omega
    have e7 : IntKind.wrap .i64 ((((off + w + 7) / 8 : Nat) : Int) - 1) = (((off + w + 7) / 8 - 1 : Nat) : Int) := by
      rw [IntWalk.i64_in _ (by omega)]; omega
    have h8 : ((8 : Int) != 0) = true := by decide
    simp only [e1, e2, e3, e4, h8, cond_true]
    refine Eq.trans (L_Get _ s _ _ _ _ (off / 8) ((off + w + 7) / 8 - off / 8 - 1) (by omega) hs FUEL 0 _ (by omega) (by unfold FUEL; omega)) ?_
    simp only [e5, e6, e7, toNat_cast, Nat.add_zero, Nat.sub_zero, ok_word_Left, Q_Left _ ((8 - ((off + w + 7) / 8 * 8 - off - w) : Nat) : Int) (by omega), ok_word_New, Q_New, ok_word_Or, Q_Or, ok_word_Cut, Q_Cut, Option.isSome_some, cond_true, cond_dec]
    rw [if_pos (by omega), if_pos (by omega)]
    rfl
  · rw [if_neg h]
    simp only [if_neg h]
    rfl
end Go.AMach
