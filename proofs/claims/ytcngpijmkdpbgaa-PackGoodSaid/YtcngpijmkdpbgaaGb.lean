/- The plain theory of graphs and walks, at this seat. -/
import Derived.Test.YtcngpijmkdpbgaaGa
import Derived.Test.YtcngpijmkdpbgaaAm23

namespace Go.AMach
set_option linter.unusedVariables false
set_option linter.unusedSimpArgs false
set_option linter.unnecessarySimpa false
open Go
set_option linter.unusedVariables false

theorem Q_Left (w : WordS) (k : Int) (hk : -4611686018427387904 ≤ k ∧ k ≤ 4611686018427387904) : Q_z0j w k = some (((q_z0j w k).1.1, ()), ()) := by
  have : ∃ v, Q_z0j w k = some ((v, ()), ()) := by
    have : ∃ v, M_z0j FUEL w k = some (encRes ro_z0j rh_z0j ((v, ()), ())) := by
      unfold M_z0j
      simp only [cond_dec]
      by_cases h1 : k ≤ 0
      · rw [if_pos h1]; exact ⟨_, rfl⟩
      rw [if_neg h1]
      by_cases h2 : k ≥ 64
      · rw [if_pos h2, if_pos (by rw [IntWalk.i64_in _ (by omega)]; omega)]; exact ⟨_, rfl⟩
      · rw [if_neg h2, if_pos (by omega), if_pos (by rw [IntWalk.i64_in _ (by omega)]; omega), if_pos (by omega)]; exact ⟨_, rfl⟩
    obtain ⟨v, hv⟩ := this
    exact ⟨v, fin hv⟩
  obtain ⟨v, hv⟩ := this
  unfold q_z0j
  rw [hv]; rfl

theorem Q_Right (w : WordS) (k : Int) (hk : -4611686018427387904 ≤ k ∧ k ≤ 4611686018427387904) : Q_z0n w k = some (((q_z0n w k).1.1, ()), ()) := by
  have : ∃ v, Q_z0n w k = some ((v, ()), ()) := by
    have : ∃ v, M_z0n FUEL w k = some (encRes ro_z0n rh_z0n ((v, ()), ())) := by
      unfold M_z0n
      simp only [cond_dec]
      by_cases h1 : k ≤ 0
      · rw [if_pos h1]; exact ⟨_, rfl⟩
      rw [if_neg h1]
      by_cases h2 : k ≥ 64
      · rw [if_pos h2, if_pos (by rw [IntWalk.i64_in _ (by omega)]; omega)]; exact ⟨_, rfl⟩
      · rw [if_neg h2, if_pos (by omega), if_pos (by omega), if_pos (by rw [IntWalk.i64_in _ (by omega)]; omega)]; exact ⟨_, rfl⟩
    obtain ⟨v, hv⟩ := this
    exact ⟨v, fin hv⟩
  obtain ⟨v, hv⟩ := this
  unfold q_z0n
  rw [hv]; rfl

theorem Q_New (x : Int) : Q_z0k x = some (((0, (x, ())), ()), ()) := fin rfl
theorem Q_Or (a b : WordS) : Q_z0l a b = some (((q_z0l a b).1.1, ()), ()) := by
  have : ∃ v, Q_z0l a b = some ((v, ()), ()) := ⟨_, fin rfl⟩
  obtain ⟨v, hv⟩ := this
  unfold q_z0l
  rw [hv]; rfl
theorem Q_And (a b : WordS) : Q_z0p a b = some (((q_z0p a b).1.1, ()), ()) := by
  have : ∃ v, Q_z0p a b = some ((v, ()), ()) := ⟨_, fin rfl⟩
  obtain ⟨v, hv⟩ := this
  unfold q_z0p
  rw [hv]; rfl
theorem Q_Not (a : WordS) : Q_z0m a = some (((q_z0m a).1.1, ()), ()) := by
  have : ∃ v, Q_z0m a = some ((v, ()), ()) := ⟨_, fin rfl⟩
  obtain ⟨v, hv⟩ := this
  unfold q_z0m
  rw [hv]; rfl
theorem Q_Mask (k : Int) : Q_z0o k = some (((q_z0o k).1.1, ()), ()) := by
  have : ∃ v, Q_z0o k = some ((v, ()), ()) := by
    have : ∃ v, M_z0o FUEL k = some (encRes ro_z0o rh_z0o ((v, ()), ())) := by
      unfold M_z0o
      simp only [ok_z0m, Q_Not, Option.isSome_some, cond_true]
      generalize hy : (if (128 : Int) < (if (0 : Int) > k then (0 : Int) else k) then (128 : Int) else (if (0 : Int) > k then (0 : Int) else k)) = y
      have h0 : 0 ≤ y ∧ y ≤ 128 := by
        subst hy
        split <;> split <;> omega
      simp only [ok_z0n]
      rw [Q_Right _ _ (by rw [IntWalk.i64_in _ (by omega)]; omega)]
      exact ⟨_, rfl⟩
    obtain ⟨v, hv⟩ := this
    exact ⟨v, fin hv⟩
  obtain ⟨v, hv⟩ := this
  unfold q_z0o
  rw [hv]; rfl
theorem Q_Cut (a : WordS) (k : Int) : Q_z0q a k = some (((q_z0q a k).1.1, ()), ()) := by
  have : ∃ v, Q_z0q a k = some ((v, ()), ()) := by
    have : ∃ v, M_z0q FUEL a k = some (encRes ro_z0q rh_z0q ((v, ()), ())) := by
      unfold M_z0q
      simp only [ok_z0o, Q_Mask, ok_z0p, Q_And, Option.isSome_some, cond_true]
      exact ⟨_, rfl⟩
    obtain ⟨v, hv⟩ := this
    exact ⟨v, fin hv⟩
  obtain ⟨v, hv⟩ := this
  unfold q_z0q
  rw [hv]; rfl

/-! -: Get -/
noncomputable def absorb (w : WordS) (b : Int) : WordS := (q_z0l (q_z0j w 8).1.1 (q_z0k (IntKind.wrap .u64 b)).1.1).1.1
/-- Bytes taken in, one behind the other. -/
noncomputable def absorbs (bf : Nat → Int) (f : Nat) : Nat → WordS → WordS
  | 0, w => w
  | c + 1, w => absorbs bf (f + 1) c (absorb w (bf f))
theorem absorbs_congr {bf bg : Nat → Int} : ∀ (c f : Nat) (w : WordS), (∀ i, f ≤ i → i < f + c → bf i = bg i) → absorbs bf f c w = absorbs bg f c w
  | 0, f, w, h => rfl
  | c + 1, f, w, h => by
    simp only [absorbs]
    rw [h f (by omega) (by omega)]
    exact absorbs_congr c (f + 1) _ fun i h1 h2 => h i (by omega) (by omega)

theorem L_Get (k : WordS → Option Res) (s : ByteArray) (a1 a2 la : Int) (z : WordS) (f c : Nat) (hc : f + c ≤ s.size) (hs : s.size < 1000000000) : ∀ (m i : Nat) (acc : WordS), i ≤ c → c - i < m →
    L_z0r_0 FUEL k s a1 a2 (f : Int) la (c : Int) z m (i : Int) acc = k (absorbs (byteAt s) (f + i) (c - i) acc)
  | 0, _, _, _, h => by omega
  | m + 1, i, acc, hi, hm => by
    show F_z0r_0 FUEL k s a1 a2 (f : Int) la (c : Int) z (L_z0r_0 FUEL k s a1 a2 (f : Int) la (c : Int) z m) (i : Int) acc = _
    unfold F_z0r_0
    simp only [cond_dec]
    by_cases h : i < c
    · rw [if_pos (by omega)]
      have hw : IntKind.wrap .i64 ((f : Int) + (i : Int)) = ((f + i : Nat) : Int) := by rw [IntWalk.i64_in _ (by omega)]; omega
      simp only [hw, toNat_cast, ok_z0j, Q_Left acc 8 (by omega), ok_z0k, Q_New, ok_z0l, Q_Or, Option.isSome_some, cond_true]
      rw [if_pos (by omega), i64_succ (by omega)]
      have := L_Get k s a1 a2 la z f c hc hs m (i + 1) (absorb acc (byteAt s (f + i))) (by omega) (by omega)
      rw [show c - i = (c - (i + 1)) + 1 by omega]
      simp only [absorbs]
      rw [show f + i + 1 = f + (i + 1) by omega, ← this]
      rfl
    · rw [if_neg (by omega), show c - i = 0 by omega]
      rfl

/-- What is read. -/
noncomputable def getP (bf : Nat → Int) (off w : Nat) : WordS :=
  let e := (off + w + 7) / 8
  let d : Nat := e * 8 - off - w
  (q_z0q (q_z0l (q_z0j (absorbs bf (off / 8) (e - off / 8 - 1) (0, (0, ()))) ((8 - d : Nat) : Int)).1.1 (q_z0k (IntKind.wrap .u64 (Int.fdiv (bf (e - 1)) (2 ^ (min d 8))))).1.1).1.1 (w : Int)).1.1

theorem getP_congr {bf bg : Nat → Int} {off w : Nat} (hw : 1 ≤ w) (h : ∀ i, i < (off + w + 7) / 8 → bf i = bg i) : getP bf off w = getP bg off w := by
  unfold getP
  simp only []
  rw [absorbs_congr (bg := bg) _ _ _ (fun i h1 h2 => h i (by omega)), h ((off + w + 7) / 8 - 1) (by omega)]

theorem Q_fmay (s : ByteArray) (off w : Nat) (hs : s.size < 1000000000) (h1 : 1 ≤ w) (h2 : w ≤ 128) (h3 : off < 1000000000) : Q_z0i s (off : Int) (w : Int) = some ((if off + w ≤ 8 * s.size then 0 else 4, ()), ()) := by
  refine fin ?_
  unfold M_z0i
  simp only [cond_dec]
  rw [if_neg (by omega), if_neg (by omega), if_neg (by omega)]
  have hw : IntKind.wrap .i64 (IntKind.wrap .i64 (8 * (s.size : Int)) - (w : Int)) = 8 * (s.size : Int) - w := by
    rw [IntWalk.i64_in (8 * (s.size : Int)) (by omega), IntWalk.i64_in _ (by omega)]
  rw [hw]
  by_cases h : off + w ≤ 8 * s.size
  · rw [if_neg (by omega), if_pos h]
  · rw [if_pos (by omega), if_neg h]

theorem Q_Get (s : ByteArray) (off w : Nat) (hs : s.size < 1000000000) (h1 : 1 ≤ w) (h2 : w ≤ 128) (h3 : off < 1000000000) :
    Q_z0r s (off : Int) (w : Int) = some (if off + w ≤ 8 * s.size then (getP (byteAt s) off w, (0, ())) else ((0, (0, ())), (4, ())), ()) := by
  refine fin ?_
  unfold M_z0r
  simp only [ok_z0i, q_z0i, Q_fmay s off w hs h1 h2 h3, RS.get, Option.getD_some, Option.isSome_some, cond_true, int_bne]
  by_cases h : off + w ≤ 8 * s.size
  · rw [if_pos h]
    simp only [decide_true, Bool.not_true, cond_false, if_pos h]
    have e1 : IntKind.wrap .i64 (IntKind.wrap .i64 (IntKind.wrap .i64 ((off : Int) + (w : Int)) + 8) - 1) = ((off + w + 7 : Nat) : Int) := by
      rw [IntWalk.i64_in ((off : Int) + w) (by omega), IntWalk.i64_in ((off : Int) + w + 8) (by omega), IntWalk.i64_in _ (by omega)]; omega
    have e2 : IntKind.wrap .i64 (Int.tdiv ((off + w + 7 : Nat) : Int) 8) = (((off + w + 7) / 8 : Nat) : Int) := by
      rw [Int.tdiv_eq_ediv_of_nonneg (by omega), IntWalk.i64_in _ (by omega)]; omega
    have e3 : IntKind.wrap .i64 (Int.tdiv (off : Int) 8) = ((off / 8 : Nat) : Int) := by
      rw [Int.tdiv_eq_ediv_of_nonneg (by omega), IntWalk.i64_in _ (by omega)]; omega
    have e4 : IntKind.wrap .i64 (IntKind.wrap .i64 ((((off + w + 7) / 8 : Nat) : Int) - ((off / 8 : Nat) : Int)) - 1) = (((off + w + 7) / 8 - off / 8 - 1 : Nat) : Int) := by
      rw [IntWalk.i64_in ((((off + w + 7) / 8 : Nat) : Int) - ((off / 8 : Nat) : Int)) (by omega), IntWalk.i64_in _ (by omega)]; omega
    have e5 : IntKind.wrap .i64 (IntKind.wrap .i64 (IntKind.wrap .i64 ((((off + w + 7) / 8 : Nat) : Int) * 8) - (off : Int)) - (w : Int)) = (((off + w + 7) / 8 * 8 - off - w : Nat) : Int) := by
      rw [IntWalk.i64_in ((((off + w + 7) / 8 : Nat) : Int) * 8) (by omega), IntWalk.i64_in ((((off + w + 7) / 8 : Nat) : Int) * 8 - off) (by omega), IntWalk.i64_in _ (by omega)]; omega
    have e6 : IntKind.wrap .i64 (8 - (((off + w + 7) / 8 * 8 - off - w : Nat) : Int)) = ((8 - ((off + w + 7) / 8 * 8 - off - w) : Nat) : Int) := by
      rw [IntWalk.i64_in _ (by omega)]; omega
    have e7 : IntKind.wrap .i64 ((((off + w + 7) / 8 : Nat) : Int) - 1) = (((off + w + 7) / 8 - 1 : Nat) : Int) := by
      rw [IntWalk.i64_in _ (by omega)]; omega
    have h8 : ((8 : Int) != 0) = true := by decide
    simp only [e1, e2, e3, e4, h8, cond_true]
    refine Eq.trans (L_Get _ s _ _ _ _ (off / 8) ((off + w + 7) / 8 - off / 8 - 1) (by omega) hs FUEL 0 _ (by omega) (by unfold FUEL; omega)) ?_
    simp only [e5, e6, e7, toNat_cast, Nat.add_zero, Nat.sub_zero, ok_z0j, Q_Left _ ((8 - ((off + w + 7) / 8 * 8 - off - w) : Nat) : Int) (by omega), ok_z0k, Q_New, ok_z0l, Q_Or, ok_z0q, Q_Cut, Option.isSome_some, cond_true, cond_dec]
    rw [if_pos (by omega), if_pos (by omega)]
    rfl
  · rw [if_neg h]
    simp only [if_neg h]
    rfl

theorem byteAt_extract {s : ByteArray} {a i : Nat} (h : a + i < s.size) : byteAt (s.extract a s.size) i = byteAt s (a + i) := by
  unfold byteAt
  rw [List.getD_eq_getElem?_getD, List.getD_eq_getElem?_getD]
  have hs : (s.extract a s.size).data = s.data.extract a s.size := by simp
  rw [hs]
  have hsz : s.size = s.data.size := rfl
  have e1 : (s.data.extract a s.size).toList[i]? = s.data.toList[a + i]? := by
    rw [Array.getElem?_toList, Array.getElem?_toList, Array.getElem?_extract, if_pos (by rw [hsz] at h ⊢; omega)]
  rw [e1]
theorem size_extract {s : ByteArray} {a : Nat} : (s.extract a s.size).size = s.size - a := by simp

/-- The number of bits of a text, from a byte on. -/
noncomputable def numV (s : ByteArray) (at_ : Int) (off w : Nat) : Int × Bool :=
  if 0 ≤ at_ ∧ at_ ≤ (s.size : Int) ∧ off + w ≤ 8 * (s.size - at_.toNat) then (IntKind.wrap .i64 (getP (fun i => byteAt s (at_.toNat + i)) off w).2.1, true) else (0, false)

theorem Q_number (s : ByteArray) (at_ : Int) (off w : Nat) (hs : s.size < 1000000000) (h1 : 1 ≤ w) (h2 : w ≤ 128) (h3 : off < 1000000000) :
    Q_z0s s at_ (off : Int) (w : Int) = some (((numV s at_ off w).1, ((numV s at_ off w).2, ())), ()) := by
  refine fin ?_
  unfold M_z0s numV
  simp only [cond_dec]
  by_cases a1 : at_ < 0
  · rw [if_pos a1, if_neg (by omega)]
  rw [if_neg a1]
  by_cases a2 : at_ > (s.size : Int)
  · rw [if_pos a2, if_neg (by omega)]
  rw [if_neg a2, if_pos (by omega)]
  obtain ⟨a, rfl⟩ := Int.eq_ofNat_of_zero_le (Int.not_lt.1 a1)
  simp only [Int.ofNat_eq_natCast, toNat_cast] at *
  have hQ := Q_Get (s.extract a s.size) off w (by rw [size_extract]; omega) h1 h2 h3
  rw [size_extract] at hQ
  simp only [ok_z0r, q_z0r, hQ, RS.get, Option.getD_some, Option.isSome_some, cond_true]
  by_cases h : off + w ≤ 8 * (s.size - a)
  · rw [if_pos h, if_pos ⟨by omega, by omega, h⟩]
    have : getP (byteAt (s.extract a s.size)) off w = getP (fun i => byteAt s (a + i)) off w := getP_congr h1 fun i hi => byteAt_extract (by omega)
    rw [this]
    rfl
  · rw [if_neg h, if_neg (fun k => h k.2.2)]
    rfl

def mayL (x : NodeS) : Prop := (0 ≤ x.2.1 ∧ x.2.1 ≤ 256) ∧ (0 ≤ x.2.2.1 ∧ x.2.2.1 ≤ 2048) ∧ (0 ≤ x.2.2.2.1 ∧ x.2.2.2.1 ≤ 16) ∧ (if x.2.2.2.1 = 0 then x.2.2.1 = 0 ∧ x.2.2.2.2.1 = 0 else 1 ≤ x.2.2.2.2.1 ∧ x.2.2.2.2.1 ≤ 256)
instance (x : NodeS) : Decidable (mayL x) := by unfold mayL; infer_instance

theorem Q_wmay (x : NodeS) : Q_z0h x = some ((decide (mayL x), ()), ()) := by
  refine fin ?_
  unfold M_z0h
  simp only [cond_dec, int_beq]
  have no : ¬ mayL x → some (encRes ro_z0h rh_z0h ((false, ()), ())) = some (encRes ro_z0h rh_z0h ((decide (mayL x), ()), ())) := fun h => by rw [decide_eq_false h]
  refine ite_eq (fun h => no fun k => ?_) fun c1 => ?_
  · have := k.1; omega
  refine ite_eq (fun h => no fun k => ?_) fun c2 => ?_
  · have := k.1; omega
  refine ite_eq (fun h => no fun k => ?_) fun c3 => ?_
  · have := k.2.1; omega
  refine ite_eq (fun h => no fun k => ?_) fun c4 => ?_
  · have := k.2.1; omega
  refine ite_eq (fun h => no fun k => ?_) fun c5 => ?_
  · have := k.2.2.1; omega
  refine ite_eq (fun h => no fun k => ?_) fun c6 => ?_
  · have := k.2.2.1; omega
  have base : ∀ (b : Prop) [Decidable b], (b ↔ (if x.2.2.2.1 = 0 then x.2.2.1 = 0 ∧ x.2.2.2.2.1 = 0 else 1 ≤ x.2.2.2.2.1 ∧ x.2.2.2.2.1 ≤ 256)) → some (encRes ro_z0h rh_z0h ((decide b, ()), ())) = some (encRes ro_z0h rh_z0h ((decide (mayL x), ()), ())) := fun b _ hb => by
    have : (b ↔ mayL x) := by
      rw [hb]
      unfold mayL
      constructor
      · exact fun h => ⟨by omega, by omega, by omega, h⟩
      · exact fun h => h.2.2.2
    rw [decide_eq_decide.2 this]
  refine ite_eq (fun c7 => ?_) fun c7 => ?_
  · refine ite_eq (fun c8 => base _ ?_) fun c8 => no fun k => ?_
    · rw [if_pos c7]; simp [c8]
    · have := k.2.2.2; rw [if_pos c7] at this; exact c8 this.1
  · refine ite_eq (fun c8 => base _ ?_) fun c8 => no fun k => ?_
    · rw [if_neg c7]
      exact ⟨fun h => ⟨by omega, h⟩, fun h => h.2⟩
    · have := k.2.2.2; rw [if_neg c7] at this; omega

def finV (s : ByteArray) (at_ sz : Int) : Int × Int :=
  if sz > 256 then (0, 2) else if at_ < 0 then (0, 1) else if at_ > (s.size : Int) then (0, 1) else if sz > (s.size : Int) - at_ then (0, 1) else (sz, 0)
noncomputable def sizeV (x : NodeS) (s : ByteArray) (at_ : Int) : Int × Int :=
  if ¬ mayL x then (0, 4) else
  if x.2.2.2.1 > 0 then
    if (numV s at_ x.2.2.1.toNat x.2.2.2.1.toNat).2 = false then (0, 1) else finV s at_ (IntKind.wrap .i64 (x.2.1 + IntKind.wrap .i64 (x.2.2.2.2.1 * (numV s at_ x.2.2.1.toNat x.2.2.2.1.toNat).1)))
  else finV s at_ x.2.1

theorem fin_size (s : ByteArray) (at_ sz : Int) (hs : s.size < 1000000000) :
    (cond (decide (sz > 256)) (some (encRes ro_z0t rh_z0t ((0, (2, ())), ())))
      (cond (decide (at_ < 0)) (some (encRes ro_z0t rh_z0t ((0, (1, ())), ())))
      (cond (decide (at_ > (s.size : Int))) (some (encRes ro_z0t rh_z0t ((0, (1, ())), ())))
      (cond (decide (sz > IntKind.wrap .i64 ((s.size : Int) - at_))) (some (encRes ro_z0t rh_z0t ((0, (1, ())), ())))
      (some (encRes ro_z0t rh_z0t ((sz, (0, ())), ()))))))) = some (encRes ro_z0t rh_z0t (((finV s at_ sz).1, ((finV s at_ sz).2, ())), ())) := by
  unfold finV
  simp only [cond_dec]
  refine ite_eq (fun h => by rw [if_pos h]) fun h1 => ?_
  refine ite_eq (fun h => by rw [if_neg h1, if_pos h]) fun h2 => ?_
  refine ite_eq (fun h => by rw [if_neg h1, if_neg h2, if_pos h]) fun h3 => ?_
  rw [IntWalk.i64_in _ (by omega)]
  refine ite_eq (fun h => by rw [if_neg h1, if_neg h2, if_neg h3, if_pos h]) fun h4 => ?_
  rw [if_neg h1, if_neg h2, if_neg h3, if_neg h4]

theorem Q_Size (x : NodeS) (s : ByteArray) (at_ : Int) (hs : s.size < 1000000000) : Q_z0t x s at_ = some (((sizeV x s at_).1, ((sizeV x s at_).2, ())), ()) := by
  refine fin ?_
  unfold M_z0t sizeV
  simp only [ok_z0h, q_z0h, Q_wmay, RS.get, Option.getD_some, Option.isSome_some, cond_true]
  by_cases hm : mayL x
  · rw [if_neg (fun h => h hm)]
    simp only [hm, decide_true, Bool.not_true, cond_false]
    by_cases hw : x.2.2.2.1 > 0
    · rw [if_pos hw]
      simp only [hw, decide_true, cond_true]
      have e1 : ((x.2.2.1.toNat : Nat) : Int) = x.2.2.1 := by have := hm.2.1; omega
      have e2 : ((x.2.2.2.1.toNat : Nat) : Int) = x.2.2.2.1 := by omega
      have hQ := Q_number s at_ x.2.2.1.toNat x.2.2.2.1.toNat hs (by omega) (by have := hm.2.2.1; omega) (by have := hm.2.1; omega)
      rw [e1, e2] at hQ
      simp only [ok_z0s, q_z0s, hQ, RS.get, Option.getD_some, Option.isSome_some, cond_true]
      cases hv : (numV s at_ x.2.2.1.toNat x.2.2.2.1.toNat).2 with
      | false => rw [if_pos rfl]; rfl
      | true =>
        rw [if_neg (by simp)]
        simp only [Bool.not_true, cond_false]
        exact fin_size s at_ _ hs
    · rw [if_neg hw]
      simp only [hw, decide_false, cond_false]
      exact fin_size s at_ _ hs
  · rw [if_pos hm]
    simp only [hm, decide_false, Bool.not_false, cond_true]

noncomputable def nextT (l : List NodeS) (x : NodeS) (v : Int) : Int := (q_z0u l x.1 v).1.1
theorem nextT_ok (l : List NodeS) (hl : Nodes l) {x : NodeS} (hf : findP l x.1 = some x) (v : Int) : nextT l x v ∈ goesP x ∧ Q_z0u l x.1 v = some ((nextT l x v, ()), ()) := by
  obtain ⟨t, ht, hq⟩ := Q_Next l hl hf v
  have : nextT l x v = t := by unfold nextT q_z0u; rw [hq]; rfl
  rw [this]; exact ⟨ht, hq⟩
noncomputable def goV (l : List NodeS) (x : NodeS) (v : Int) : Int × Int := if nextT l x v = 65535 then (0, 4) else (nextT l x v, 0)
noncomputable def nextV (l : List NodeS) (x : NodeS) (s : ByteArray) (at_ : Int) : Int × Int :=
  if x.2.2.2.2.2.2.1 > 0 then
    if (numV s at_ x.2.2.2.2.2.1.toNat x.2.2.2.2.2.2.1.toNat).2 = false then (0, 1) else goV l x (IntKind.wrap .u32 (numV s at_ x.2.2.2.2.2.1.toNat x.2.2.2.2.2.2.1.toNat).1)
  else goV l x (IntKind.wrap .u32 0)

theorem Q_next (l : List NodeS) (hl : Nodes l) {x : NodeS} (hf : findP l x.1 = some x) (s : ByteArray) (at_ : Int) (hs : s.size < 1000000000) (h1 : 0 ≤ x.2.2.2.2.2.1 ∧ x.2.2.2.2.2.1 ≤ 2048) (h2 : x.2.2.2.2.2.2.1 ≤ 32) :
    Q_z0v l x s at_ = some (((nextV l x s at_).1, ((nextV l x s at_).2, ())), ()) := by
  refine fin ?_
  unfold M_z0v nextV
  have go : ∀ v, (cond (nextT l x v == 65535) (some (encRes ro_z0v rh_z0v ((0, (4, ())), ()))) (some (encRes ro_z0v rh_z0v ((nextT l x v, (0, ())), ())))) = some (encRes ro_z0v rh_z0v (((goV l x v).1, ((goV l x v).2, ())), ())) := fun v => by
    unfold goV
    rw [int_beq, cond_dec]
    split <;> rfl
  simp only [ok_z0u, q_z0u, fun v => (nextT_ok l hl hf v).2, RS.get, Option.getD_some, Option.isSome_some, cond_true]
  by_cases hw : x.2.2.2.2.2.2.1 > 0
  · rw [if_pos hw]
    simp only [hw, decide_true, cond_true]
    have e1 : ((x.2.2.2.2.2.1.toNat : Nat) : Int) = x.2.2.2.2.2.1 := by omega
    have e2 : ((x.2.2.2.2.2.2.1.toNat : Nat) : Int) = x.2.2.2.2.2.2.1 := by omega
    have hQ := Q_number s at_ x.2.2.2.2.2.1.toNat x.2.2.2.2.2.2.1.toNat hs (by omega) (by omega) (by omega)
    rw [e1, e2] at hQ
    simp only [ok_z0s, q_z0s, hQ, RS.get, Option.getD_some, Option.isSome_some, cond_true]
    cases hv : (numV s at_ x.2.2.2.2.2.1.toNat x.2.2.2.2.2.2.1.toNat).2 with
    | false => rw [if_pos rfl]; rfl
    | true =>
      rw [if_neg (by simp)]
      simp only [Bool.not_true, cond_false]
      exact go _
  · rw [if_neg hw]
    simp only [hw, decide_false, cond_false]
    exact go _

theorem mayP_sel {l : List NodeS} (hm : mayP l) {k : Int} {x : NodeS} (hf : findP l k = some x) : (0 ≤ x.2.2.2.2.2.1 ∧ x.2.2.2.2.2.1 ≤ 2048) ∧ x.2.2.2.2.2.2.1 ≤ 32 := by
  have := (formsOk_mem hm.1 x (findP_some hf).1).1.1
  unfold formL at this
  omega

/-- What is found behind a node that is come to: headers, steps, why. -/
noncomputable def W (l : List NodeS) (s : ByteArray) : Nat → Int → NodeS → List HeadS × (Int × Int)
  | 0, _, _ => ([], (0, 0))
  | f + 1, at_, x =>
    if (sizeV x s at_).2 ≠ 0 then ([], (1, (sizeV x s at_).2)) else
    if (nextV l x s at_).2 ≠ 0 then ([(x.1, (at_, ()))], (1, (nextV l x s at_).2)) else
    match findP l (nextV l x s at_).1 with
    | none => ([(x.1, (at_, ()))], (1, 0))
    | some y => ((x.1, (at_, ())) :: (W l s f (IntKind.wrap .i64 (at_ + (sizeV x s at_).1)) y).1, (1 + (W l s f (IntKind.wrap .i64 (at_ + (sizeV x s at_).1)) y).2.1, (W l s f (IntKind.wrap .i64 (at_ + (sizeV x s at_).1)) y).2.2))

theorem W_bound (l : List NodeS) (s : ByteArray) : ∀ (f : Nat) (at_ : Int) (x : NodeS), (W l s f at_ x).1.length ≤ f ∧ 0 ≤ (W l s f at_ x).2.1 ∧ (W l s f at_ x).2.1 ≤ f
  | 0, at_, x => by simp [W]
  | f + 1, at_, x => by
    simp only [W]
    split
    · simp; omega
    split
    · simp; omega
    split
    · simp; omega
    · rename_i y _
      have := W_bound l s f (IntKind.wrap .i64 (at_ + (sizeV x s at_).1)) y
      simp; omega
theorem W_pos (l : List NodeS) (s : ByteArray) (f : Nat) (at_ : Int) (x : NodeS) : 1 ≤ (W l s (f + 1) at_ x).2.1 := by
  simp only [W]
  split
  · simp
  split
  · simp
  split
  · simp
  · rename_i y _
    have := W_bound l s f (IntKind.wrap .i64 (at_ + (sizeV x s at_).1)) y
    simp; omega

theorem nextV_mem {l : List NodeS} (hl : Nodes l) {x : NodeS} (hf : findP l x.1 = some x) (s : ByteArray) (at_ : Int) (h : (nextV l x s at_).2 = 0) : (nextV l x s at_).1 ∈ goesP x := by
  have go : ∀ v, (goV l x v).2 = 0 → (goV l x v).1 ∈ goesP x := fun v => by
    unfold goV
    split
    · intro h; simp at h
    · intro _; exact (nextT_ok l hl hf v).1
  unfold nextV at h ⊢
  split
  · rename_i hw
    rw [if_pos hw] at h
    split
    · rename_i hv; rw [if_pos hv] at h; simp at h
    · rename_i hv; rw [if_neg hv] at h; exact go _ h
  · rename_i hw
    rw [if_neg hw] at h
    exact go _ h

theorem L_steps (k : Nat → Int → Int → List HeadS → Option Res) (l : List NodeS) (hl : Nodes l) (hm : mayP l) {h : Int → Int} (H : Hgt l h) (s : ByteArray) (hs : s.size < 1000000000) :
    ∀ (f m : Nat) (at_ cnt why : Int) (hd : List HeadS) (x : NodeS), findP l x.1 = some x → (h x.1).toNat ≤ f → f ≤ 64 → f < m → 0 ≤ cnt → cnt + f ≤ 100 → hd.length + f ≤ 100 →
    L_z0w_0 FUEL k k l s m at_ true hd.length cnt why hd x = k (hd ++ (W l s f at_ x).1).length (cnt + (W l s f at_ x).2.1) (W l s f at_ x).2.2 (hd ++ (W l s f at_ x).1)
  | 0, m, at_, cnt, why, hd, x, hf, hh, _, _, _, _, _ => by
    have := (H.pos x.1).2 (by rw [hf]; rfl)
    omega
  | f + 1, 0, at_, cnt, why, hd, x, hf, hh, _, hm', _, _, _ => by omega
  | f + 1, m + 1, at_, cnt, why, hd, x, hf, hh, h64, hm', h1, h2, h3 => by
    show F_z0w_0 FUEL k k l s (L_z0w_0 FUEL k k l s m) at_ true hd.length cnt why hd x = _
    unfold F_z0w_0
    have hsel := mayP_sel hm hf
    have hc : IntKind.wrap .i64 (cnt + 1) = cnt + 1 := IntWalk.i64_in _ (by omega)
    simp only [cond_true, ok_z0t, q_z0t, Q_Size x s at_ hs, ok_z0v, q_z0v, Q_next l hl hf s at_ hs hsel.1 hsel.2, RS.get, Option.getD_some, Option.isSome_some, cutL_all, hc, int_bne]
    simp only [W]
    by_cases hz : (sizeV x s at_).2 = 0
    · rw [if_neg (by simp [hz])]
      simp only [hz, decide_true, Bool.not_true, cond_false]
      have hroom : (decide ((hd.length + 1) * 16 ≤ 2 ^ 46 ∧ hd.length + 1 ≤ 2 ^ 46)) = true := by
        rw [decide_eq_true_eq]; omega
      rw [hroom, cond_true]
      by_cases hn : (nextV l x s at_).2 = 0
      · rw [if_neg (by simp [hn])]
        simp only [hn, decide_true, Bool.not_true, cond_false, ok_z0b, q_z0b, Q_Find l _ hl.len, RS.get, Option.getD_some, Option.isSome_some, cond_true]
        cases hfy : findP l (nextV l x s at_).1 with
        | none =>
          simp only [findV]
          cases m with
          | zero => omega
          | succ m =>
            show F_z0w_0 FUEL k k l s (L_z0w_0 FUEL k k l s m) _ false (hd.length + 1) (cnt + 1) 0 (hd ++ [(x.1, (at_, ()))]) zNodeS = _
            unfold F_z0w_0
            simp
        | some y =>
          simp only [findV]
          obtain ⟨_, hy⟩ := findP_some hfy
          have hlt := H.lt hf (nextV_mem hl hf s at_ hn)
          rw [← hy] at hlt
          have hnn := H.nonneg y.1
          have ih := L_steps k l hl hm H s hs f m (IntKind.wrap .i64 (at_ + (sizeV x s at_).1)) (cnt + 1) 0 (hd ++ [(x.1, (at_, ()))]) y (by rw [hy]; exact hfy) (by omega) (by omega) (by omega) (by omega) (by omega) (by simp; omega)
          rw [show (hd ++ [(x.1, (at_, ()))]).length = hd.length + 1 by simp] at ih
          rw [ih]
          simp only [List.append_assoc, List.singleton_append]
          rw [show cnt + 1 + (W l s f (IntKind.wrap .i64 (at_ + (sizeV x s at_).1)) y).2.1 = cnt + (1 + (W l s f (IntKind.wrap .i64 (at_ + (sizeV x s at_).1)) y).2.1) by omega]
      · rw [if_pos hn]
        simp [hn]
    · rw [if_pos hz]
      simp [hz]

noncomputable def walkV (l : List NodeS) (s : ByteArray) : List HeadS × (Int × Int) :=
  open Classical in if mayP l then (match findP l 1 with | some x => W l s 64 0 x | none => ([], (0, 0))) else ([], (0, 0))

theorem Q_steps (l : List NodeS) (s : ByteArray) : Q_z0g l s = some (((), ()), ((l, ()), ((s, ()), ()))) := fin rfl

theorem Q_Walk (l : List NodeS) (hl : Nodes l) (s : ByteArray) (hs : s.size < 1000000000) : Q_z0x l s = some (((walkV l s).1.length, ((walkV l s).2.1, ((walkV l s).2.2, ()))), ((walkV l s).1, ())) := by
  refine fin ?_
  unfold M_z0x
  simp only [ok_z0f, q_z0f, Q_May l hl, RS.get, Option.getD_some, Option.isSome_some, cond_true, int_bne]
  by_cases hm : mayP l
  · rw [decide_eq_true (mayN_zero.2 hm)]
    simp only [Bool.not_true, cond_false]
    have hw : walkV l s = (match findP l 1 with | some x => W l s 64 0 x | none => ([], (0, 0))) := by unfold walkV; rw [if_pos hm]
    rw [hw]
    obtain ⟨h, H⟩ := hm.2.2.2
    have hsteps : Q_z0w 0 [] 0 0 l s = some (((), (((), ((), ((), ((), ((), ((), ((), ((), ((), ((), ((), ((), ((), ((), ((), ((), ((), ((), ((), ((), ((), ((), ((), ((), ((), ((), ((), ((), ((), ((), ((), ((), ())))))))))))))))))))))))))))))))), (((walkV l s).1.length, ()), ((), (((walkV l s).2.1, ()), (((walkV l s).2.2, ()), ((l, ()), ((s, ()), ((walkV l s).1, ())))))))))) := by
      rw [hw]
      refine fin ?_
      unfold M_z0w
      simp only [ok_z0b, q_z0b, Q_Find l 1 hl.len, RS.get, Option.getD_some, Option.isSome_some, cond_true]
      cases hf : findP l 1 with
      | none => rfl
      | some x =>
        simp only [findV]
        obtain ⟨_, hx⟩ := findP_some hf
        have hle := Hgt.le hm.2.1 hl.arms H x.1
        have h32 := hm.2.1
        have := L_steps (fun y5 y6 y7 y8 => some (encRes ro_z0w rh_z0w ((), (((), ((), ((), ((), ((), ((), ((), ((), ((), ((), ((), ((), ((), ((), ((), ((), ((), ((), ((), ((), ((), ((), ((), ((), ((), ((), ((), ((), ((), ((), ((), ((), ())))))))))))))))))))))))))))))))), ((y5, ()), ((), ((y6, ()), ((y7, ()), ((l, ()), ((s, ()), (y8, ()))))))))))) l hl hm H s hs 64 FUEL 0 0 0 [] x (by rw [hx]; exact hf) (by omega) (by omega) (by unfold FUEL; omega) (by omega) (by omega) (by simp)
        simp only [List.nil_append, List.length_nil, Int.zero_add] at this
        exact this
    simp only [ok_z0g, q_z0g, Q_steps, ok_z0w, q_z0w, hsteps, RS.get, Option.getD_some, Option.isSome_some, cond_true]
    rw [hw]
  · have hn : ¬ mayN l = 0 := fun e => hm (mayN_zero.1 e)
    rw [decide_eq_false hn]
    simp only [Bool.not_false, cond_true]
    have hw : walkV l s = ([], (0, 0)) := by unfold walkV; rw [if_neg hm]
    rw [hw]; rfl

structure Pre (s t : ByteArray) : Prop where
  le : s.size ≤ t.size
  eq : ∀ i, i < s.size → byteAt s i = byteAt t i

theorem numV_mono {s t : ByteArray} (h : Pre s t) {at_ : Int} {off w : Nat} (hw : 1 ≤ w) (hv : (numV s at_ off w).2 = true) : numV t at_ off w = numV s at_ off w := by
  unfold numV at hv ⊢
  by_cases hc : 0 ≤ at_ ∧ at_ ≤ (s.size : Int) ∧ off + w ≤ 8 * (s.size - at_.toNat)
  · have hle := h.le
    rw [if_pos hc, if_pos ⟨hc.1, by omega, by omega⟩]
    have : getP (fun i => byteAt t (at_.toNat + i)) off w = getP (fun i => byteAt s (at_.toNat + i)) off w := getP_congr hw fun i hi => (h.eq _ (by omega)).symm
    rw [this]
  · rw [if_neg hc] at hv; cases hv

theorem finV_mono {s t : ByteArray} (h : Pre s t) {at_ sz : Int} (hv : (finV s at_ sz).2 ≠ 1) : finV t at_ sz = finV s at_ sz := by
  have hle := h.le
  unfold finV at hv ⊢
  by_cases c1 : sz > 256
  · rw [if_pos c1, if_pos c1]
  rw [if_neg c1] at hv ⊢
  rw [if_neg c1]
  by_cases c2 : at_ < 0
  · rw [if_pos c2] at hv; exact absurd rfl hv
  rw [if_neg c2] at hv ⊢
  rw [if_neg c2]
  by_cases c3 : at_ > (s.size : Int)
  · rw [if_pos c3] at hv; exact absurd rfl hv
  rw [if_neg c3] at hv ⊢
  by_cases c4 : sz > (s.size : Int) - at_
  · rw [if_pos c4] at hv; exact absurd rfl hv
  rw [if_neg c4, if_neg (by omega), if_neg (by omega)]

theorem sizeV_mono {s t : ByteArray} (h : Pre s t) {x : NodeS} {at_ : Int} (hv : (sizeV x s at_).2 ≠ 1) : sizeV x t at_ = sizeV x s at_ := by
  unfold sizeV at hv ⊢
  by_cases c1 : ¬ mayL x
  · rw [if_pos c1, if_pos c1]
  rw [if_neg c1] at hv ⊢
  rw [if_neg c1]
  by_cases c2 : x.2.2.2.1 > 0
  · rw [if_pos c2] at hv ⊢
    rw [if_pos c2]
    by_cases c3 : (numV s at_ x.2.2.1.toNat x.2.2.2.1.toNat).2 = false
    · rw [if_pos c3] at hv; exact absurd rfl hv
    · rw [if_neg c3] at hv ⊢
      rw [numV_mono h (by omega) (by simpa using c3), if_neg c3]
      exact finV_mono h hv
  · rw [if_neg c2] at hv ⊢
    rw [if_neg c2]
    exact finV_mono h hv

theorem nextV_mono {s t : ByteArray} (h : Pre s t) {l : List NodeS} {x : NodeS} {at_ : Int} (hv : (nextV l x s at_).2 ≠ 1) : nextV l x t at_ = nextV l x s at_ := by
  unfold nextV at hv ⊢
  by_cases c2 : x.2.2.2.2.2.2.1 > 0
  · rw [if_pos c2] at hv ⊢
    rw [if_pos c2]
    by_cases c3 : (numV s at_ x.2.2.2.2.2.1.toNat x.2.2.2.2.2.2.1.toNat).2 = false
    · rw [if_pos c3] at hv; exact absurd rfl hv
    · rw [if_neg c3]
      rw [numV_mono h (by omega) (by simpa using c3), if_neg c3]
  · rw [if_neg c2, if_neg c2]

/-- What a longer text changes: nothing, but where the shorter one ends. -/
def More (a b : List HeadS × (Int × Int)) : Prop := (∃ t, b.1 = a.1 ++ t) ∧ a.2.1 ≤ b.2.1 ∧ (a.2.2 = 1 ∨ b = a)
theorem More.refl (a : List HeadS × (Int × Int)) : More a a := ⟨⟨[], by simp⟩, Int.le_refl _, .inr rfl⟩

theorem W_mono {s t : ByteArray} (h : Pre s t) (l : List NodeS) : ∀ (f : Nat) (at_ : Int) (x : NodeS), More (W l s f at_ x) (W l t f at_ x)
  | 0, at_, x => More.refl _
  | f + 1, at_, x => by
    have hp := W_pos l t f at_ x
    by_cases hz : (sizeV x s at_).2 = 1
    · have : W l s (f + 1) at_ x = ([], (1, 1)) := by simp [W, hz]
      rw [this]
      exact ⟨⟨_, rfl⟩, hp, .inl rfl⟩
    have es := sizeV_mono h hz
    by_cases hz0 : (sizeV x s at_).2 ≠ 0
    · have e1 : W l s (f + 1) at_ x = ([], (1, (sizeV x s at_).2)) := by simp only [W]; rw [if_pos hz0]
      have e2 : W l t (f + 1) at_ x = ([], (1, (sizeV x s at_).2)) := by simp only [W]; rw [es, if_pos hz0]
      rw [e1, e2]; exact More.refl _
    by_cases hn : (nextV l x s at_).2 = 1
    · have e1 : W l s (f + 1) at_ x = ([(x.1, (at_, ()))], (1, 1)) := by simp only [W]; rw [if_neg hz0, hn]; simp
      have e2 : ∃ r, (W l t (f + 1) at_ x).1 = [(x.1, (at_, ()))] ++ r := by
        simp only [W]
        rw [es, if_neg hz0]
        split
        · exact ⟨[], rfl⟩
        split
        · exact ⟨[], rfl⟩
        · exact ⟨_, rfl⟩
      rw [e1]
      exact ⟨e2, hp, .inl rfl⟩
    have en := nextV_mono h (l := l) hn
    by_cases hn0 : (nextV l x s at_).2 ≠ 0
    · have e1 : W l s (f + 1) at_ x = ([(x.1, (at_, ()))], (1, (nextV l x s at_).2)) := by simp only [W]; rw [if_neg hz0, if_pos hn0]
      have e2 : W l t (f + 1) at_ x = ([(x.1, (at_, ()))], (1, (nextV l x s at_).2)) := by simp only [W]; rw [es, en, if_neg hz0, if_pos hn0]
      rw [e1, e2]; exact More.refl _
    simp only [W]
    rw [es, en, if_neg hz0, if_neg hn0, if_neg hz0, if_neg hn0]
    cases hf : findP l (nextV l x s at_).1 with
    | none => exact More.refl _
    | some y =>
      obtain ⟨⟨r, h1⟩, h2, h3⟩ := W_mono h l f (IntKind.wrap .i64 (at_ + (sizeV x s at_).1)) y
      refine ⟨⟨r, by simp [h1]⟩, by simp; omega, ?_⟩
      rcases h3 with h3 | h3
      · exact .inl h3
      · right; simp only [h3]

theorem walkV_mono {s t : ByteArray} (h : Pre s t) (l : List NodeS) : More (walkV l s) (walkV l t) := by
  unfold walkV
  split
  · split
    · exact W_mono h l 64 0 _
    · exact More.refl _
  · exact More.refl _

theorem walkV_bound (l : List NodeS) (s : ByteArray) : (walkV l s).1.length ≤ 64 ∧ 0 ≤ (walkV l s).2.1 ∧ (walkV l s).2.1 ≤ 64 := by
  unfold walkV
  split
  · split
    · exact W_bound l s 64 0 _
    · simp
  · simp

/-! ### Headers held against each other -/

theorem nodes_of {l : List NodeS} (h : (Ty.slice NodeT).good l) (ha : ∀ x ∈ l, armsN x < 3000) : Nodes l where
  len := good_len h
  arms x hx := by have := ha x hx; unfold armsN at this; unfold nArms; omega
  g x hx := good_node (h.2 x hx)

theorem pre_append (s t : ByteArray) : Pre s (s ++ t) where
  le := by simp
  eq i hi := by
    unfold byteAt
    rw [List.getD_eq_getElem?_getD, List.getD_eq_getElem?_getD]
    have : (s ++ t).data.toList = s.data.toList ++ t.data.toList := by simp
    rw [this, List.getElem?_append_left (by simpa using hi)]
theorem pre_extract (s : ByteArray) {n : Nat} (h : n ≤ s.size) : Pre (s.extract 0 n) s where
  le := by simp; omega
  eq i hi := by
    have hi : i < n := by simpa [Nat.min_eq_left h] using hi
    unfold byteAt
    rw [List.getD_eq_getElem?_getD, List.getD_eq_getElem?_getD]
    have hs : (s.extract 0 n).data = s.data.extract 0 n := by simp
    have hsz : s.size = s.data.size := rfl
    have e1 : (s.extract 0 n).data.toList[i]? = s.data.toList[i]? := by
      rw [hs, Array.getElem?_toList, Array.getElem?_toList, Array.getElem?_extract, if_pos (by rw [hsz] at h; omega)]
      simp
    rw [e1]


theorem mayL_of {l : List NodeS} (hm : mayP l) {k : Int} {x : NodeS} (hf : findP l k = some x) : mayL x := by
  have := (formsOk_mem hm.1 x (findP_some hf).1).1.1
  unfold formL at this
  unfold mayL
  obtain ⟨_, _, a, b, _, _, _, c, _⟩ := this
  refine ⟨⟨a, b⟩, ?_, ?_, ?_⟩
  · omega
  · omega
  · split <;> omega

theorem sizeV_why {x : NodeS} (hm : mayL x) (s : ByteArray) (at_ : Int) : (sizeV x s at_).2 = 0 ∨ (sizeV x s at_).2 = 1 ∨ (sizeV x s at_).2 = 2 := by
  have go : ∀ sz, (finV s at_ sz).2 = 0 ∨ (finV s at_ sz).2 = 1 ∨ (finV s at_ sz).2 = 2 := fun sz => by
    unfold finV
    repeat' split
    all_goals simp
  unfold sizeV
  rw [if_neg (fun h => h hm)]
  split
  · split
    · simp
    · exact go _
  · exact go _
theorem nextV_why (l : List NodeS) (x : NodeS) (s : ByteArray) (at_ : Int) : (nextV l x s at_).2 = 0 ∨ (nextV l x s at_).2 = 1 ∨ (nextV l x s at_).2 = 4 := by
  have go : ∀ v, (goV l x v).2 = 0 ∨ (goV l x v).2 = 1 ∨ (goV l x v).2 = 4 := fun v => by
    unfold goV
    split <;> simp
  unfold nextV
  split
  · split
    · simp
    · exact go _
  · exact go _

theorem W_law {l : List NodeS} (hl : Nodes l) (hm : mayP l) {h : Int → Int} (H : Hgt l h) (s : ByteArray) : ∀ (f : Nat) (at_ : Int) (x : NodeS), findP l x.1 = some x → (h x.1).toNat ≤ f →
    ((W l s f at_ x).1.length : Int) ≤ (W l s f at_ x).2.1 ∧ (W l s f at_ x).2.1 ≤ ((W l s f at_ x).1.length : Int) + 1 ∧ ((W l s f at_ x).2.1 > ((W l s f at_ x).1.length : Int) → (W l s f at_ x).2.2 = 1 ∨ (W l s f at_ x).2.2 = 2) ∧
    ((W l s f at_ x).2.2 = 0 ∨ (W l s f at_ x).2.2 = 1 ∨ (W l s f at_ x).2.2 = 2 ∨ (W l s f at_ x).2.2 = 4) ∧ (W l s f at_ x).2.1 ≤ h x.1
  | 0, at_, x, hf, hh => by
    have := (H.pos x.1).2 (by rw [hf]; rfl)
    omega
  | f + 1, at_, x, hf, hh => by
    have hpos := (H.pos x.1).2 (by rw [hf]; rfl)
    simp only [W]
    have hz := sizeV_why (mayL_of hm hf) s at_
    by_cases hz0 : (sizeV x s at_).2 ≠ 0
    · rw [if_pos hz0]
      refine ⟨by simp, by simp, fun _ => ?_, ?_, by simp; omega⟩
      · show (sizeV x s at_).2 = 1 ∨ (sizeV x s at_).2 = 2
        omega
      · show (sizeV x s at_).2 = 0 ∨ (sizeV x s at_).2 = 1 ∨ (sizeV x s at_).2 = 2 ∨ (sizeV x s at_).2 = 4
        omega
    rw [if_neg hz0]
    have hn := nextV_why l x s at_
    by_cases hn0 : (nextV l x s at_).2 ≠ 0
    · rw [if_pos hn0]
      refine ⟨by simp, by simp, fun h => by simp at h, ?_, by simp; omega⟩
      show (nextV l x s at_).2 = 0 ∨ (nextV l x s at_).2 = 1 ∨ (nextV l x s at_).2 = 2 ∨ (nextV l x s at_).2 = 4
      omega
    rw [if_neg hn0]
    cases hfy : findP l (nextV l x s at_).1 with
    | none => exact ⟨by simp, by simp, fun h => by simp at h, .inl rfl, by simp; omega⟩
    | some y =>
      obtain ⟨_, hy⟩ := findP_some hfy
      have hlt := H.lt hf (nextV_mem hl hf s at_ (by simpa using hn0))
      rw [← hy] at hlt
      have hnn := H.nonneg y.1
      dsimp only
      obtain ⟨a1, a2, a3, a4, a5⟩ := W_law hl hm H s f (IntKind.wrap .i64 (at_ + (sizeV x s at_).1)) y (by rw [hy]; exact hfy) (by omega)
      generalize W l s f (IntKind.wrap .i64 (at_ + (sizeV x s at_).1)) y = r at a1 a2 a3 a4 a5 ⊢
      refine ⟨by simp; omega, by simp; omega, fun h => a3 ?_, a4, by omega⟩
      simp at h
      omega

end Go.AMach
