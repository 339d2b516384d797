/- Layer 17: a packet at the statements' hands. -/
import Derived.Test.YtcngpijmkdpbgaaBm
import Derived.Test.YtcngpijmkdpbgaaBe
import Derived.Test.YtcngpijmkdpbgaaBn
namespace Go.AMach
set_option linter.unusedVariables false
set_option linter.unusedSimpArgs false
set_option linter.unnecessarySimpa false
open Go
set_option linter.unusedVariables false

theorem L_Long (k : Int → Option Res) (l : List NodeS) (hl : l.length < 9223372036854775807) : ∀ (m j : Nat) (acc : Int), 0 ≤ acc → acc ≤ 4000 → j ≤ l.length → 10 * (j : Int) ≤ acc → (acc < 1500 → ∀ x ∈ l.take j, armsN x < 3000) → l.length - j < m →
    ∃ r : Int, L_z00_0 FUEL k l m acc (j : Int) = k r ∧ (r < 1500 → ∀ x ∈ l, armsN x < 3000)
  | 0, _, _, _, _, _, _, _, h => by omega
  | m + 1, j, acc, h0, h1, hj, h10, ha, hm => by
    show ∃ r : Int, F_z00_0 FUEL k l (L_z00_0 FUEL k l m) acc (j : Int) = k r ∧ _
    unfold F_z00_0
    simp only [cond_dec]
    by_cases hjl : j < l.length
    · rw [if_pos (by omega)]
      by_cases hacc : acc < 1500
      · rw [if_pos hacc, if_pos ⟨by omega, by omega⟩]
        simp only [toNat_cast]
        rw [i64_succ (by omega), IntWalk.i64_in (acc + 10) (by omega)]
        generalize hx : rdd zNodeS l j = x
        have hx' : x = l[j] := by rw [← hx, rdd_lt hjl]
        have hmin : ∀ a : Nat, (if ((a : Nat) : Int) < 1500 then ((a : Nat) : Int) else (1500 : Int)) = ((min a 1500 : Nat) : Int) := fun a => by split <;> omega
        rw [hmin]
        have hle : min (List.length x.2.2.2.2.2.2.2.1) 1500 ≤ 1500 := by omega
        rw [IntWalk.i64_in _ (by omega)]
        refine L_Long k l hl m (j + 1) _ (by omega) (by omega) (by omega) (by omega) (fun hlt y hy => ?_) (by omega)
        rw [List.take_add_one, List.getElem?_eq_getElem hjl] at hy
        rcases List.mem_append.1 hy with hy | hy
        · exact ha hacc y hy
        · simp at hy
          subst hy
          rw [← hx']
          unfold armsN
          omega
      · rw [if_neg hacc]
        exact ⟨acc, rfl, fun h => absurd h hacc⟩
    · rw [if_neg (by omega)]
      have : j = l.length := by omega
      refine ⟨acc, rfl, fun h => fun x hx => ha h x ?_⟩
      rw [List.take_of_length_le (by omega)]; exact hx
theorem Q_Long (l : List NodeS) (hl : l.length < 9223372036854775807) : ∃ b, Q_z00 l = some ((b, ()), ()) ∧ (b = false → ∀ x ∈ l, armsN x < 3000) := by
  obtain ⟨r, h1, h2⟩ := L_Long (fun y2 => some (encRes ro_z00 rh_z00 (((decide (y2 ≥ (1500 : Int))), ()), ()))) l hl FUEL 0 0 (by omega) (by omega) (by omega) (by omega) (fun _ x hx => by simp at hx) (by unfold FUEL; omega)
  refine ⟨decide (r ≥ 1500), ?_, fun h => h2 (by simpa using h)⟩
  exact fin h1

theorem dec_of {x : HK.sems rh_z0z_1} : decRes ro_z0z rh_z0z (some (encRes ro_z0z_1 rh_z0z_1 (((), ()), x))) = none := rfl
theorem of_cases (s : ByteArray) (l : List NodeS) (h : (Ty.slice NodeT).good l) : Q_z0z s l = some (((), ()), ()) ∨
    (Q_z0z s l = none ∧ Q_z0z_1 s l = some (((), ()), pkS (hdsV l s) 1 (bytesL s) zeros) ∧ s.size ≤ 4000) := by
  by_cases c1 : s.size ≤ 4000
  · obtain ⟨b, hb, hb2⟩ := Q_Long l (good_len h)
    cases b with
    | true =>
      left
      refine fin ?_
      unfold M_z0z
      rw [cond_dec, if_neg (by omega)]
      simp only [ok_z00, q_z00, hb, RS.get, Option.getD_some, Option.isSome_some, cond_true]
    | false =>
      right
      have hl := nodes_of h (hb2 rfl)
      have hM : M_z0z FUEL s l = some (encRes ro_z0z_1 rh_z0z_1 (((), ()), pkS (hdsV l s) 1 (bytesL s) zeros)) := by
        unfold M_z0z
        rw [cond_dec, if_neg (by omega)]
        have hw := Q_pWalk l hl 1 (bytesL s) zeros (by rw [bytesL_length]; omega)
        rw [bytesOf_bytesL, bytesL_length] at hw
        simp only [ok_z00, q_z00, hb, ok_z02, q_z02, Q_pNew 1 s (by omega), ok_z0y, q_z0y, hw, RS.get, Option.getD_some, Option.isSome_some, cond_true, cond_false]
        unfold pkS hdsV
        rw [bytesL_length]
      exact ⟨by unfold Q_z0z; rw [hM]; exact dec_of, fin hM, c1⟩
  · left
    refine fin ?_
    unfold M_z0z
    rw [cond_dec, if_pos (by omega)]

/-! ### What is asked of a packet -/
abbrev exW (x : Except Int Nat) : WordS × (Int × Unit) := match x with
  | .ok v => (wN v, (0, ()))
  | .error r => (wN 0, (r, ()))
theorem Q_pGet' {hs : List HeadS} {b mt : List Int} (P : PkOk hs b mt) (pt : Int) (f : FieldS) (hf : FieldT.good f) :
    Q_z1c f hs.length pt b.length b hs mt.length mt = some (exW (getF hs b mt f), pkS hs pt b mt) := by
  rw [Q_pGet P pt f hf]
  cases getF hs b mt f <;> rfl
theorem Q_clone (hs : List HeadS) (h : hs.length ≤ 1000000) : Q_z12 hs = some ((hs.length, ()), (hs, ())) := by
  unfold Q_z12 cloneQ
  rw [if_pos (by omega)]
theorem Q_pHeads {hs : List HeadS} {b mt : List Int} (pt : Int) (h : hs.length ≤ 1000000) : Q_z13 hs.length pt b.length b hs mt.length mt =
    some ((hs.length, ()), (((), (hs.length, ((), (pt, ())))), ((b.length, ()), (b, (hs, ((mt.length, ()), (mt, (hs, ())))))))) := by
  refine fin ?_
  unfold M_z13
  simp only [cutL_all, ok_z12, q_z12, Q_clone hs h, RS.get, Option.getD_some, Option.isSome_some, cond_true]
theorem L_hEq (kr : Bool → Option Res) (kt : Unit → Option Res) (a b : List HeadS) (hl : a.length = b.length) (ha : a.length ≤ 1000000) : ∀ (m j : Nat), j ≤ a.length → a.length - j < m →
    L_z14_0 FUEL kr kt a b m (j : Int) = if a.drop j = b.drop j then kt () else kr false
  | 0, _, _, h => by omega
  | m + 1, j, hj, hm => by
    show F_z14_0 FUEL kr kt a b (L_z14_0 FUEL kr kt a b m) (j : Int) = _
    unfold F_z14_0
    simp only [cond_dec]
    by_cases h : j < a.length
    · rw [if_pos (by omega), if_pos ⟨by omega, by omega⟩, if_pos ⟨by omega, by omega⟩]
      simp only [toNat_cast, i64_succ (show j < 9223372036854775807 by omega), int_beq]
      rw [L_hEq kr kt a b hl ha m (j + 1) (by omega) (by omega), drop_rdd zHeadS h, drop_rdd (l := b) (i := j) zHeadS (by omega)]
      generalize rdd zHeadS a j = x
      generalize rdd zHeadS b j = y
      obtain ⟨x1, x2, _⟩ := x
      obtain ⟨y1, y2, _⟩ := y
      by_cases e1 : x1 = y1
      · by_cases e2 : x2 = y2
        · simp [e1, e2]
        · simp [e1, e2]
      · simp [e1]
    · rw [if_neg (by omega), List.drop_of_length_le (by omega), List.drop_of_length_le (by omega), if_pos rfl]
theorem Q_hEq (a b : List HeadS) (ha : a.length ≤ 1000000) : Q_z14 a b = some ((decide (a = b), ()), ()) := by
  refine fin ?_
  unfold M_z14
  simp only [int_bne]
  by_cases h : a.length = b.length
  · rw [decide_eq_true (show ((a.length : Nat) : Int) = ((b.length : Nat) : Int) by omega), Bool.not_true, cond_false]
    refine Eq.trans (L_hEq _ _ a b h ha FUEL 0 (by omega) (by unfold FUEL; omega)) ?_
    simp only [List.drop_zero]
    by_cases e : a = b
    · rw [if_pos e, decide_eq_true e]
    · rw [if_neg e, decide_eq_false e]
  · rw [decide_eq_false (show ¬ ((a.length : Nat) : Int) = ((b.length : Nat) : Int) by omega), Bool.not_false, cond_true, decide_eq_false (fun e => h (by rw [e]))]
theorem Q_pLen {hs : List HeadS} {b mt : List Int} (pt : Int) : Q_z1v hs.length pt b.length b hs mt.length mt = some ((((b.length : Nat) : Int), ()), pkS hs pt b mt) := by
  have hq : Q_z1f b.length b = some ((((b.length : Nat) : Int), ()), ((b.length, ()), (b, ()))) := fin rfl
  refine fin ?_
  unfold M_z1v
  simp only [ok_z1f, q_z1f, hq, RS.get, Option.getD_some, Option.isSome_some, cond_true]
theorem Q_pMeta {hs : List HeadS} {b mt : List Int} (pt : Int) : Q_z1w hs.length pt b.length b hs mt.length mt = some ((bytesOf mt, ()), pkS hs pt b mt) := by
  refine fin ?_
  unfold M_z1w
  simp only [ok_z03, q_z03, Q_bText, RS.get, Option.getD_some, Option.isSome_some, cond_true]
theorem Q_pTextW {hs : List HeadS} {b mt : List Int} (pt : Int) : Q_z1n hs.length pt b.length b hs mt.length mt = some ((bytesOf b, ()), pkS hs pt b mt) := by
  refine fin ?_
  unfold M_z1n
  simp only [ok_z03, q_z03, Q_bText, RS.get, Option.getD_some, Option.isSome_some, cond_true]
theorem Q_pPort {hs : List HeadS} {b mt : List Int} (pt : Int) : Q_z15 hs.length pt b.length b hs mt.length mt = some ((pt, ()), pkS hs pt b mt) := fin rfl

/-! ### Put, and put back -/
theorem bv_bit (bf : Nat → Nat) (off : Nat) : ∀ (w i : Nat), i < w → bv bf off w / 2 ^ (w - 1 - i) % 2 = bitOf bf (off + i)
  | 0, i, h => by omega
  | w + 1, i, h => by
    have hb := bitOf_lt bf (off + w)
    by_cases e : i = w
    · subst e
      rw [show i + 1 - 1 - i = 0 by omega, Nat.pow_zero, Nat.div_one]
      simp only [bv]; omega
    · have ih := bv_bit bf off w i (by omega)
      rw [show w + 1 - 1 - i = (w - 1 - i) + 1 by omega, Nat.pow_succ', ← Nat.div_div_eq_div_mul]
      have : bv bf off (w + 1) / 2 = bv bf off w := by simp only [bv]; omega
      rw [this, ih]
theorem putN_back {b : List Int} (hb : isB b) (off w v : Nat) (ho : off + w ≤ 8 * b.length) : putN (putN b off w v) off w (bv (bl b) off w) = b := by
  refine bytes_ext (putN_isB _ _ _ _) hb (by rw [putN_length, putN_length]) fun p hp => ?_
  rw [putN_length, putN_length] at hp
  rw [putN_bit _ _ _ _ _ (by rw [putN_length]; exact hp)]
  unfold putBit
  by_cases q : off ≤ p ∧ p < off + w
  · rw [if_pos q, show off + w - 1 - p = w - 1 - (p - off) by omega, bv_bit _ _ _ _ (by omega), show off + (p - off) = p by omega]
  · rw [if_neg q, putN_bit _ _ _ _ _ hp]
    unfold putBit
    rw [if_neg q]
theorem getB_of {b : List Int} {off w : Int} {x : Nat} (h : getB b off w = some x) : (0 ≤ off ∧ 1 ≤ w ∧ w ≤ 128 ∧ off + w ≤ 8 * (b.length : Int)) ∧ x = bv (bl b) off.toNat w.toNat := by
  unfold getB at h
  split at h
  · rename_i k; cases h; exact ⟨k, rfl⟩
  · cases h
theorem getB_len {b b' : List Int} {off w : Int} (h : b.length = b'.length) : (getB b off w).isSome = (getB b' off w).isSome := by
  unfold getB
  rw [h]
  split <;> rfl
theorem putF_back {hs : List HeadS} {b mt : List Int} (P : PkOk hs b mt) {f : FieldS} (v : Nat) {x : Nat} (h : getF hs b mt f = .ok x) :
    putF hs (putF hs b mt f v).2.1 (putF hs b mt f v).2.2 f x = (0, (b, mt)) := by
  cases hw : whereF hs b mt f with
  | none => unfold getF at h; rw [hw] at h; cases h
  | some ca =>
    obtain ⟨c, a⟩ := ca
    have hg : getB c (bitV a f.2.2.2.1) f.2.2.2.2.1 = some x := by
      unfold getF at h
      rw [hw] at h
      simp only at h
      cases hg : getB c (bitV a f.2.2.2.1) f.2.2.2.2.1 with
      | none => rw [hg] at h; cases h
      | some y => rw [hg] at h; cases h; rfl
    obtain ⟨hk, hx⟩ := getB_of hg
    have hput : putF hs b mt f v = (0, if f.2.1 = 3 then (b, putB mt (bitV a f.2.2.2.1) f.2.2.2.2.1 v) else (putB b (bitV a f.2.2.2.1) f.2.2.2.2.1 v, mt)) := by
      unfold putF; rw [hw]; simp only; rw [hg]; rfl
    have key : ∀ y : List Int, isB y → getB y (bitV a f.2.2.2.1) f.2.2.2.2.1 = some x → putB (putB y (bitV a f.2.2.2.1) f.2.2.2.2.1 v) (bitV a f.2.2.2.1) f.2.2.2.2.1 x = y := fun y hy hgy => by
      obtain ⟨k1, k2⟩ := getB_of hgy
      rw [k2]
      unfold putB
      exact putN_back hy _ _ v (by omega)
    rw [hput]
    rcases where_in hw with ⟨c3, rfl, _⟩ | ⟨c3, rfl, _⟩
    · simp only [if_pos c3]
      unfold putF
      rw [where_put hw, if_pos c3]
      simp only
      have : (getB (putB c (bitV a f.2.2.2.1) f.2.2.2.2.1 v) (bitV a f.2.2.2.1) f.2.2.2.2.1).isSome = true := by
        rw [getB_len (b' := c) (putB_length _ _ _ _), hg]; rfl
      rw [if_pos this, if_pos c3, key c P.mB hg]
    · simp only [if_neg c3]
      unfold putF
      rw [where_put hw, if_neg c3]
      simp only
      have : (getB (putB c (bitV a f.2.2.2.1) f.2.2.2.2.1 v) (bitV a f.2.2.2.1) f.2.2.2.2.1).isSome = true := by
        rw [getB_len (b' := c) (putB_length _ _ _ _), hg]; rfl
      rw [if_pos this, if_neg c3, key c P.bB hg]
/-- Why a field is not got is told by where it is. -/
theorem getF_len {hs : List HeadS} {b mt b' mt' : List Int} (h1 : b.length = b'.length) (h2 : mt.length = mt'.length) (o : FieldS) : (exW (getF hs b mt o)).2.1 = (exW (getF hs b' mt' o)).2.1 := by
  cases hw : whereF hs b mt o with
  | none =>
    have hw' : whereF hs b' mt' o = none := by
      cases h : whereF hs b' mt' o with
      | none => rfl
      | some ca =>
        obtain ⟨c, a⟩ := ca
        rw [where_put (b' := b) (mt' := mt) h] at hw; cases hw
    unfold getF
    rw [hw, hw']
  | some ca =>
    obtain ⟨c, a⟩ := ca
    unfold getF
    rw [hw, where_put (b' := b') (mt' := mt') hw]
    simp only
    have hl : (getB c (bitV a o.2.2.2.1) o.2.2.2.2.1).isSome = (getB (if o.2.1 = 3 then mt' else b') (bitV a o.2.2.2.1) o.2.2.2.2.1).isSome := by
      rcases where_in hw with ⟨c3, rfl, _⟩ | ⟨c3, rfl, _⟩
      · rw [if_pos c3]; exact getB_len h2
      · rw [if_neg c3]; exact getB_len h1
    cases hx : getB c (bitV a o.2.2.2.1) o.2.2.2.2.1 with
    | none =>
      rw [hx] at hl
      cases hy : getB (if o.2.1 = 3 then mt' else b') (bitV a o.2.2.2.1) o.2.2.2.2.1 with
      | none => rfl
      | some y => rw [hy] at hl; cases hl
    | some x =>
      rw [hx] at hl
      cases hy : getB (if o.2.1 = 3 then mt' else b') (bitV a o.2.2.2.1) o.2.2.2.2.1 with
      | none => rw [hy] at hl; cases hl
      | some y => rfl
/-- The other bytes stay. -/
theorem getF_apart {hs : List HeadS} {b mt : List Int} {f o : FieldS} (v : Nat) (h : ¬ (f.2.1 = 3 ↔ o.2.1 = 3)) : getF hs (putF hs b mt f v).2.1 (putF hs b mt f v).2.2 o = getF hs b mt o := by
  have hp : (f.2.1 = 3 → (putF hs b mt f v).2.1 = b) ∧ (f.2.1 ≠ 3 → (putF hs b mt f v).2.2 = mt) := by
    unfold putF
    split
    · exact ⟨fun _ => rfl, fun _ => rfl⟩
    · split
      · exact ⟨fun c => by rw [if_pos c], fun c => by rw [if_neg c]⟩
      · exact ⟨fun _ => rfl, fun _ => rfl⟩
  have hwh : whereF hs (putF hs b mt f v).2.1 (putF hs b mt f v).2.2 o = whereF hs b mt o := by
    unfold whereF
    by_cases o1 : o.2.1 = 1
    · rw [if_pos o1, if_pos o1, hp.1 (by omega)]
    rw [if_neg o1, if_neg o1]
    by_cases o3 : o.2.1 = 3
    · rw [if_pos o3, if_pos o3, hp.2 (by omega)]
    rw [if_neg o3, if_neg o3]
    by_cases o2 : o.2.1 = 2
    · rw [if_pos o2, if_pos o2, hp.1 (by omega)]
    · rw [if_neg o2, if_neg o2]
  unfold getF
  rw [hwh]
end Go.AMach
