/- Parts of the proof. -/
import Derived.Test.YtcngpijmkdpbgaaDx
import Derived.KernelRfl
import Derived.Test.YtcngpijmkdpbgaaBa
import Derived.Test.YtcngpijmkdpbgaaBa
/- Layer 17: the examples. -/
namespace Go.AMach
set_option linter.unusedVariables false
set_option linter.unusedSimpArgs false
set_option linter.unnecessarySimpa false
theorem awake17 : Q_z1u = some ((true, ()), ()) := by kernel_rfl
end Go.AMach

/- Layer 17: a packet at the statements' hands. -/
namespace Go.AMach
set_option linter.unusedVariables false
set_option linter.unusedSimpArgs false
set_option linter.unnecessarySimpa false
open Go
set_option linter.unusedVariables false

theorem L_Long (k : Int → Option Res) (l : List NodeS) (hl : l.length < 9223372036854775807) : ∀ (m j : Nat) (acc : Int), 0 ≤ acc → acc ≤ 4000 → j ≤ l.length → 10 * (j : Int) ≤ acc → (acc < 1500 → ∀ x ∈ l.take j, armsN x < 3000) → l.length - j < m →
    ∃ r : Int, L_z00_0 FUEL k l m acc (j : Int) = k r ∧ (r < 1500 → ∀ x ∈ l, armsN x < 3000)
  | 0, _, _, _, _, _, _, _, h => by omega
  | m + 1, j, acc, h0, h1, hj, h10, ha, hm => by
    show ∃ r : Int, F_z00_0 FUEL k l (L_z00_0 FUEL k l m) acc (j : Int) = k r ∧ _
    unfold F_z00_0
    simp only [cond_dec]
    by_cases hjl : j < l.length
    · rw [if_pos (by omega)]
      by_cases hacc : acc < 1500
      · rw [if_pos hacc, if_pos ⟨by omega, by omega⟩]
        simp only [toNat_cast]
        rw [i64_succ (by omega), IntWalk.i64_in (acc + 10) (by omega)]
        generalize hx : rdd zNodeS l j = x
        have hx' : x = l[j] := by rw [← hx, rdd_lt hjl]
        have hmin : ∀ a : Nat, (if ((a : Nat) : Int) < 1500 then ((a : Nat) : Int) else (1500 : Int)) = ((min a 1500 : Nat) : Int) := fun a => by split <;> omega
        rw [hmin]
        have hle : min (List.length x.2.2.2.2.2.2.2.1) 1500 ≤ 1500 := by omega
        rw [IntWalk.i64_in _ (by omega)]
        refine L_Long k l hl m (j + 1) _ (by omega) (by omega) (by omega) (by omega) (fun hlt y hy => ?_) (by omega)
        rw [List.take_add_one, List.getElem?_eq_getElem hjl] at hy
        rcases List.mem_append.1 hy with hy | hy
        · exact ha hacc y hy
        · simp at hy
          subst hy
          rw [← hx']
          unfold armsN
          omega
      · rw [if_neg hacc]
        exact ⟨acc, rfl, fun h => absurd h hacc⟩
    · rw [if_neg (by omega)]
      have : j = l.length := by omega
      refine ⟨acc, rfl, fun h => fun x hx => ha h x ?_⟩
      rw [List.take_of_length_le (by omega)]; exact hx
theorem Q_Long (l : List NodeS) (hl : l.length < 9223372036854775807) : ∃ b, Q_z00 l = some ((b, ()), ()) ∧ (b = false → ∀ x ∈ l, armsN x < 3000) := by
  obtain ⟨r, h1, h2⟩ := L_Long (fun y2 => some (encRes ro_z00 rh_z00 (((decide (y2 ≥ (1500 : Int))), ()), ()))) l hl FUEL 0 0 (by omega) (by omega) (by omega) (by omega) (fun _ x hx => by simp at hx) (by unfold FUEL; omega)
  refine ⟨decide (r ≥ 1500), ?_, fun h => h2 (by simpa using h)⟩
  exact fin h1

theorem dec_of {x : HK.sems rh_z0z_1} : decRes ro_z0z rh_z0z (some (encRes ro_z0z_1 rh_z0z_1 (((), ()), x))) = none := rfl
theorem of_cases (s : ByteArray) (l : List NodeS) (h : (Ty.slice NodeT).good l) : Q_z0z s l = some (((), ()), ()) ∨
    (Q_z0z s l = none ∧ Q_z0z_1 s l = some (((), ()), pkS (hdsV l s) 1 (bytesL s) zeros) ∧ s.size ≤ 4000) := by
  by_cases c1 : s.size ≤ 4000
  · obtain ⟨b, hb, hb2⟩ := Q_Long l (good_len h)
    cases b with
    | true =>
      left
      refine fin ?_
      unfold M_z0z
      rw [cond_dec, if_neg (by omega)]
      simp only [ok_z00, q_z00, hb, RS.get, Option.getD_some, Option.isSome_some, cond_true]
    | false =>
      right
      have hl := nodes_of h (hb2 rfl)
      have hM : M_z0z FUEL s l = some (encRes ro_z0z_1 rh_z0z_1 (((), ()), pkS (hdsV l s) 1 (bytesL s) zeros)) := by
        unfold M_z0z
        rw [cond_dec, if_neg (by omega)]
        have hw := Q_pWalk l hl 1 (bytesL s) zeros (by rw [bytesL_length]; omega)
        rw [bytesOf_bytesL, bytesL_length] at hw
        simp only [ok_z00, q_z00, hb, ok_z02, q_z02, Q_pNew 1 s (by omega), ok_z0y, q_z0y, hw, RS.get, Option.getD_some, Option.isSome_some, cond_true, cond_false]
        unfold pkS hdsV
        rw [bytesL_length]
      exact ⟨by unfold Q_z0z; rw [hM]; exact dec_of, fin hM, c1⟩
  · left
    refine fin ?_
    unfold M_z0z
    rw [cond_dec, if_pos (by omega)]

/-! ### What is asked of a packet -/
abbrev exW (x : Except Int Nat) : WordS × (Int × Unit) := match x with
  | .ok v => (wN v, (0, ()))
  | .error r => (wN 0, (r, ()))
theorem Q_pGet' {hs : List HeadS} {b mt : List Int} (P : PkOk hs b mt) (pt : Int) (f : FieldS) (hf : FieldT.good f) :
    Q_z1c f hs.length pt b.length b hs mt.length mt = some (exW (getF hs b mt f), pkS hs pt b mt) := by
  rw [Q_pGet P pt f hf]
  cases getF hs b mt f <;> rfl
theorem Q_clone (hs : List HeadS) (h : hs.length ≤ 1000000) : Q_z12 hs = some ((hs.length, ()), (hs, ())) := by
  unfold Q_z12 cloneQ
  rw [if_pos (by omega)]
theorem Q_pHeads {hs : List HeadS} {b mt : List Int} (pt : Int) (h : hs.length ≤ 1000000) : Q_z13 hs.length pt b.length b hs mt.length mt =
    some ((hs.length, ()), (((), (hs.length, ((), (pt, ())))), ((b.length, ()), (b, (hs, ((mt.length, ()), (mt, (hs, ())))))))) := by
  refine fin ?_
  unfold M_z13
  simp only [cutL_all, ok_z12, q_z12, Q_clone hs h, RS.get, Option.getD_some, Option.isSome_some, cond_true]
theorem L_hEq (kr : Bool → Option Res) (kt : Unit → Option Res) (a b : List HeadS) (hl : a.length = b.length) (ha : a.length ≤ 1000000) : ∀ (m j : Nat), j ≤ a.length → a.length - j < m →
    L_z14_0 FUEL kr kt a b m (j : Int) = if a.drop j = b.drop j then kt () else kr false
  | 0, _, _, h => by omega
  | m + 1, j, hj, hm => by
    show F_z14_0 FUEL kr kt a b (L_z14_0 FUEL kr kt a b m) (j : Int) = _
    unfold F_z14_0
    simp only [cond_dec]
    by_cases h : j < a.length
    · rw [if_pos (by omega), if_pos ⟨by omega, by omega⟩, if_pos ⟨by omega, by omega⟩]
      simp only [toNat_cast, i64_succ (show j < 9223372036854775807 by omega), int_beq]
      rw [L_hEq kr kt a b hl ha m (j + 1) (by omega) (by omega), drop_rdd zHeadS h, drop_rdd (l := b) (i := j) zHeadS (by omega)]
      generalize rdd zHeadS a j = x
      generalize rdd zHeadS b j = y
      obtain ⟨x1, x2, _⟩ := x
      obtain ⟨y1, y2, _⟩ := y
      by_cases e1 : x1 = y1
      · by_cases e2 : x2 = y2
        · simp [e1, e2]
        · simp [e1, e2]
      · simp [e1]
    · rw [if_neg (by omega), List.drop_of_length_le (by omega), List.drop_of_length_le (by omega), if_pos rfl]
theorem Q_hEq (a b : List HeadS) (ha : a.length ≤ 1000000) : Q_z14 a b = some ((decide (a = b), ()), ()) := by
  refine fin ?_
  unfold M_z14
  simp only [int_bne]
  by_cases h : a.length = b.length
  · rw [decide_eq_true (show ((a.length : Nat) : Int) = ((b.length : Nat) : Int) by omega), Bool.not_true, cond_false]
    refine Eq.trans (L_hEq _ _ a b h ha FUEL 0 (by omega) (by unfold FUEL; omega)) ?_
    simp only [List.drop_zero]
    by_cases e : a = b
    · rw [if_pos e, decide_eq_true e]
    · rw [if_neg e, decide_eq_false e]
  · rw [decide_eq_false (show ¬ ((a.length : Nat) : Int) = ((b.length : Nat) : Int) by omega), Bool.not_false, cond_true, decide_eq_false (fun e => h (by rw [e]))]
theorem Q_pLen {hs : List HeadS} {b mt : List Int} (pt : Int) : Q_z1v hs.length pt b.length b hs mt.length mt = some ((((b.length : Nat) : Int), ()), pkS hs pt b mt) := by
  have hq : Q_z1f b.length b = some ((((b.length : Nat) : Int), ()), ((b.length, ()), (b, ()))) := fin rfl
  refine fin ?_
  unfold M_z1v
  simp only [ok_z1f, q_z1f, hq, RS.get, Option.getD_some, Option.isSome_some, cond_true]
theorem Q_pMeta {hs : List HeadS} {b mt : List Int} (pt : Int) : Q_z1y hs.length pt b.length b hs mt.length mt = some ((bytesOf mt, ()), pkS hs pt b mt) := by
  refine fin ?_
  unfold M_z1y
  simp only [ok_z03, q_z03, Q_bText, RS.get, Option.getD_some, Option.isSome_some, cond_true]
theorem Q_pTextW {hs : List HeadS} {b mt : List Int} (pt : Int) : Q_z1n hs.length pt b.length b hs mt.length mt = some ((bytesOf b, ()), pkS hs pt b mt) := by
  refine fin ?_
  unfold M_z1n
  simp only [ok_z03, q_z03, Q_bText, RS.get, Option.getD_some, Option.isSome_some, cond_true]
theorem Q_pPort {hs : List HeadS} {b mt : List Int} (pt : Int) : Q_z15 hs.length pt b.length b hs mt.length mt = some ((pt, ()), pkS hs pt b mt) := fin rfl

/-! ### Put, and put back -/
theorem bv_bit (bf : Nat → Nat) (off : Nat) : ∀ (w i : Nat), i < w → bv bf off w / 2 ^ (w - 1 - i) % 2 = bitOf bf (off + i)
  | 0, i, h => by omega
  | w + 1, i, h => by
    have hb := bitOf_lt bf (off + w)
    by_cases e : i = w
    · subst e
      rw [show i + 1 - 1 - i = 0 by omega, Nat.pow_zero, Nat.div_one]
      simp only [bv]; omega
    · have ih := bv_bit bf off w i (by omega)
      rw [show w + 1 - 1 - i = (w - 1 - i) + 1 by omega, Nat.pow_succ', ← Nat.div_div_eq_div_mul]
      have : bv bf off (w + 1) / 2 = bv bf off w := by simp only [bv]; omega
      rw [this, ih]
theorem putN_back {b : List Int} (hb : isB b) (off w v : Nat) (ho : off + w ≤ 8 * b.length) : putN (putN b off w v) off w (bv (bl b) off w) = b := by
  refine bytes_ext (putN_isB _ _ _ _) hb (by rw [putN_length, putN_length]) fun p hp => ?_
  rw [putN_length, putN_length] at hp
  rw [putN_bit _ _ _ _ _ (by rw [putN_length]; exact hp)]
  unfold putBit
  by_cases q : off ≤ p ∧ p < off + w
  · rw [if_pos q, show off + w - 1 - p = w - 1 - (p - off) by omega, bv_bit _ _ _ _ (by omega), show off + (p - off) = p by omega]
  · rw [if_neg q, putN_bit _ _ _ _ _ hp]
    unfold putBit
    rw [if_neg q]
theorem getB_of {b : List Int} {off w : Int} {x : Nat} (h : getB b off w = some x) : (0 ≤ off ∧ 1 ≤ w ∧ w ≤ 128 ∧ off + w ≤ 8 * (b.length : Int)) ∧ x = bv (bl b) off.toNat w.toNat := by
  unfold getB at h
  split at h
  · rename_i k; cases h; exact ⟨k, rfl⟩
  · cases h
theorem getB_len {b b' : List Int} {off w : Int} (h : b.length = b'.length) : (getB b off w).isSome = (getB b' off w).isSome := by
  unfold getB
  rw [h]
  split <;> rfl
theorem putF_back {hs : List HeadS} {b mt : List Int} (P : PkOk hs b mt) {f : FieldS} (v : Nat) {x : Nat} (h : getF hs b mt f = .ok x) :
    putF hs (putF hs b mt f v).2.1 (putF hs b mt f v).2.2 f x = (0, (b, mt)) := by
  cases hw : whereF hs b mt f with
  | none => unfold getF at h; rw [hw] at h; cases h
  | some ca =>
    obtain ⟨c, a⟩ := ca
    have hg : getB c (bitV a f.2.2.2.1) f.2.2.2.2.1 = some x := by
      unfold getF at h
      rw [hw] at h
      simp only at h
      cases hg : getB c (bitV a f.2.2.2.1) f.2.2.2.2.1 with
      | none => rw [hg] at h; cases h
      | some y => rw [hg] at h; cases h; rfl
    obtain ⟨hk, hx⟩ := getB_of hg
    have hput : putF hs b mt f v = (0, if f.2.1 = 3 then (b, putB mt (bitV a f.2.2.2.1) f.2.2.2.2.1 v) else (putB b (bitV a f.2.2.2.1) f.2.2.2.2.1 v, mt)) := by
      unfold putF; rw [hw]; simp only; rw [hg]; rfl
    have key : ∀ y : List Int, isB y → getB y (bitV a f.2.2.2.1) f.2.2.2.2.1 = some x → putB (putB y (bitV a f.2.2.2.1) f.2.2.2.2.1 v) (bitV a f.2.2.2.1) f.2.2.2.2.1 x = y := fun y hy hgy => by
      obtain ⟨k1, k2⟩ := getB_of hgy
      rw [k2]
      unfold putB
      exact putN_back hy _ _ v (by omega)
    rw [hput]
    rcases where_in hw with ⟨c3, rfl, _⟩ | ⟨c3, rfl, _⟩
    · simp only [if_pos c3]
      unfold putF
      rw [where_put hw, if_pos c3]
      simp only
      have : (getB (putB c (bitV a f.2.2.2.1) f.2.2.2.2.1 v) (bitV a f.2.2.2.1) f.2.2.2.2.1).isSome = true := by
        rw [getB_len (b' := c) (putB_length _ _ _ _), hg]; rfl
      rw [if_pos this, if_pos c3, key c P.mB hg]
    · simp only [if_neg c3]
      unfold putF
      rw [where_put hw, if_neg c3]
      simp only
      have : (getB (putB c (bitV a f.2.2.2.1) f.2.2.2.2.1 v) (bitV a f.2.2.2.1) f.2.2.2.2.1).isSome = true := by
        rw [getB_len (b' := c) (putB_length _ _ _ _), hg]; rfl
      rw [if_pos this, if_neg c3, key c P.bB hg]
/-- Why a field is not got is told by where it is. -/
theorem getF_len {hs : List HeadS} {b mt b' mt' : List Int} (h1 : b.length = b'.length) (h2 : mt.length = mt'.length) (o : FieldS) : (exW (getF hs b mt o)).2.1 = (exW (getF hs b' mt' o)).2.1 := by
  cases hw : whereF hs b mt o with
  | none =>
    have hw' : whereF hs b' mt' o = none := by
      cases h : whereF hs b' mt' o with
      | none => rfl
      | some ca =>
        obtain ⟨c, a⟩ := ca
        rw [where_put (b' := b) (mt' := mt) h] at hw; cases hw
    unfold getF
    rw [hw, hw']
  | some ca =>
    obtain ⟨c, a⟩ := ca
    unfold getF
    rw [hw, where_put (b' := b') (mt' := mt') hw]
    simp only
    have hl : (getB c (bitV a o.2.2.2.1) o.2.2.2.2.1).isSome = (getB (if o.2.1 = 3 then mt' else b') (bitV a o.2.2.2.1) o.2.2.2.2.1).isSome := by
      rcases where_in hw with ⟨c3, rfl, _⟩ | ⟨c3, rfl, _⟩
      · rw [if_pos c3]; exact getB_len h2
      · rw [if_neg c3]; exact getB_len h1
    cases hx : getB c (bitV a o.2.2.2.1) o.2.2.2.2.1 with
    | none =>
      rw [hx] at hl
      cases hy : getB (if o.2.1 = 3 then mt' else b') (bitV a o.2.2.2.1) o.2.2.2.2.1 with
      | none => rfl
      | some y => rw [hy] at hl; cases hl
    | some x =>
      rw [hx] at hl
      cases hy : getB (if o.2.1 = 3 then mt' else b') (bitV a o.2.2.2.1) o.2.2.2.2.1 with
      | none => rw [hy] at hl; cases hl
      | some y => rfl
/-- The other bytes stay. -/
theorem getF_apart {hs : List HeadS} {b mt : List Int} {f o : FieldS} (v : Nat) (h : ¬ (f.2.1 = 3 ↔ o.2.1 = 3)) : getF hs (putF hs b mt f v).2.1 (putF hs b mt f v).2.2 o = getF hs b mt o := by
  have hp : (f.2.1 = 3 → (putF hs b mt f v).2.1 = b) ∧ (f.2.1 ≠ 3 → (putF hs b mt f v).2.2 = mt) := by
    unfold putF
    split
    · exact ⟨fun _ => rfl, fun _ => rfl⟩
    · split
      · exact ⟨fun c => by rw [if_pos c], fun c => by rw [if_neg c]⟩
      · exact ⟨fun _ => rfl, fun _ => rfl⟩
  have hwh : whereF hs (putF hs b mt f v).2.1 (putF hs b mt f v).2.2 o = whereF hs b mt o := by
    unfold whereF
    by_cases o1 : o.2.1 = 1
    · rw [if_pos o1, if_pos o1, hp.1 (by omega)]
    rw [if_neg o1, if_neg o1]
    by_cases o3 : o.2.1 = 3
    · rw [if_pos o3, if_pos o3, hp.2 (by omega)]
    rw [if_neg o3, if_neg o3]
    by_cases o2 : o.2.1 = 2
    · rw [if_pos o2, if_pos o2, hp.1 (by omega)]
    · rw [if_neg o2, if_neg o2]
  unfold getF
  rw [hwh]
end Go.AMach

/- Layer 17: the sum of bytes. -/
namespace Go.AMach
set_option linter.unusedVariables false
set_option linter.unusedSimpArgs false
set_option linter.unnecessarySimpa false
open Go
set_option linter.unusedVariables false

/-- A sum, what goes beyond 16 bits added again. -/
def foldV (n : Nat) : Nat := if n = 0 then 0 else (n - 1) % 65535 + 1
theorem foldV_le (n : Nat) : foldV n ≤ 65535 := by unfold foldV; split; omega; omega
theorem foldV_small {n : Nat} (h : n ≤ 65535) : foldV n = n := by unfold foldV; split; omega; omega
theorem foldV_step {n : Nat} (h : 65535 < n) : foldV (n % 65536 + n / 65536) = foldV n := by
  unfold foldV
  rw [if_neg (by omega), if_neg (by omega)]
  have e : n - 1 = (n % 65536 + n / 65536 - 1) + 65535 * (n / 65536) := by omega
  rw [e, Nat.add_mul_mod_self_left]
theorem foldV_fold (n : Nat) : foldV (foldV n) = foldV n := foldV_small (foldV_le n)
theorem and16 (a : Nat) (h : a < 18446744073709551616) : IntKind.wrap .u64 ((BitVec.toNat (BitVec.ofInt (IntKind.bits .u64) (a : Int) &&& BitVec.ofInt (IntKind.bits .u64) (65535 : Int)) : Nat) : Int) = ((a % 65536 : Nat) : Int) := by
  have := andU a 65535 h (by decide)
  rw [show (65535 : Nat) = 2 ^ 16 - 1 from rfl, Nat.and_two_pow_sub_one_eq_mod] at this
  exact this
theorem L_fold (k : Int → Option Res) : ∀ (m n : Nat), n < m → n < 1000000000000 → L_z23_0 FUEL k m (n : Int) = k ((foldV n : Nat) : Int)
  | 0, _, h, _ => by omega
  | m + 1, n, hm, hn => by
    show F_z23_0 FUEL k (L_z23_0 FUEL k m) (n : Int) = _
    unfold F_z23_0
    simp only [cond_dec]
    by_cases h : 65535 < n
    · rw [if_pos (by omega), and16 n (by omega), if_pos (by omega)]
      have e : Int.fdiv (n : Int) (2 ^ (min (Int.toNat 16) (IntKind.bits .u64))) = ((n / 65536 : Nat) : Int) := by
        rw [show min (Int.toNat 16) (IntKind.bits .u64) = 16 from rfl, fdiv_nat]
      have e2 : IntKind.wrap .u64 (((n % 65536 : Nat) : Int) + ((n / 65536 : Nat) : Int)) = ((n % 65536 + n / 65536 : Nat) : Int) := by rw [u64_in _ (by omega)]; omega
      simp only [e, e2]
      rw [L_fold k m (n % 65536 + n / 65536) (by omega) (by omega), foldV_step h]
    · rw [if_neg (by omega), foldV_small (by omega)]
theorem Q_fold (n : Nat) (h : n < 1000000000000) : Q_z23 (n : Int) = some ((((foldV n : Nat) : Int), ()), ()) := by
  refine fin ?_
  unfold M_z23
  refine Eq.trans (L_fold _ FUEL n (fuel_big (by omega)) h) ?_
  have := foldV_le n
  rw [show IntKind.wrap .u16 ((foldV n : Nat) : Int) = ((foldV n : Nat) : Int) by simp [IntKind.wrap, IntKind.bits, IntKind.signed]; omega]

/-- The sum of bytes, two and two. -/
def ws : Bool → List Nat → Nat
  | _, [] => 0
  | true, b :: r => 256 * b + ws false r
  | false, b :: r => b + ws true r
theorem ws_le : ∀ (hi : Bool) (l : List Nat), (∀ b ∈ l, b < 256) → ws hi l ≤ 65280 * l.length
  | _, [], _ => by simp [ws]
  | true, b :: r, h => by
    have := ws_le false r fun x hx => h x (List.mem_cons_of_mem _ hx)
    have := h b List.mem_cons_self
    simp only [ws, List.length_cons]; omega
  | false, b :: r, h => by
    have := ws_le true r fun x hx => h x (List.mem_cons_of_mem _ hx)
    have := h b List.mem_cons_self
    simp only [ws, List.length_cons]; omega
theorem ws_append : ∀ (x y : List Nat), x.length % 2 = 0 → ws true (x ++ y) = ws true x + ws true y
  | [], y, _ => by simp [ws]
  | [_], y, h => by simp at h
  | a :: b :: x, y, h => by
    have := ws_append x y (by simp at h; omega)
    simp only [List.cons_append, ws, this]; omega
theorem L_Sum2 (k : Int → Bool → Option Res) (s : ByteArray) (hs : s.size ≤ 1000000) : ∀ (m i acc : Nat) (hi : Bool), i ≤ s.size → s.size - i < m → acc ≤ 65280 * i → ∃ hi', L_z24_2 FUEL k s (s.size : Int) m (acc : Int) hi (i : Int) = k ((acc + ws hi ((nats s).drop i) : Nat) : Int) hi'
  | 0, _, _, _, _, h, _ => by omega
  | m + 1, i, acc, hi, hil, hm, ha => by
    show ∃ hi', F_z24_2 FUEL k s (s.size : Int) (L_z24_2 FUEL k s (s.size : Int) m) (acc : Int) hi (i : Int) = _
    unfold F_z24_2
    simp only [cond_dec]
    by_cases h : i < s.size
    · rw [if_pos (by omega), if_pos ⟨by omega, by omega⟩]
      simp only [toNat_cast]
      have hb : (nats s).getD i 0 < 256 := by
        rw [List.getD_eq_getElem?_getD, List.getElem?_eq_getElem (by rw [nats_length]; exact h)]
        exact nats_lt s (List.getElem_mem _)
      rw [byteAt_nats s h, drop_rdd (0 : Nat) (l := nats s) (i := i) (by rw [nats_length]; exact h)]
      have er : rdd 0 (nats s) i = (nats s).getD i 0 := rfl
      rw [er, i64_succ (by omega)]
      generalize (nats s).getD i 0 = b at hb
      cases hi with
      | true =>
        rw [cond_true, if_pos (by omega)]
        have e1 : IntKind.wrap .u64 (IntKind.wrap .u64 (b : Int) * 2 ^ (min (Int.toNat 8) (IntKind.bits .u64))) = ((256 * b : Nat) : Int) := by
          rw [show min (Int.toNat 8) (IntKind.bits .u64) = 8 from rfl, u64_in (b : Int) (by omega), u64_in _ (by omega)]; omega
        have e2 : IntKind.wrap .u64 ((acc : Int) + ((256 * b : Nat) : Int)) = ((acc + 256 * b : Nat) : Int) := by rw [u64_in _ (by omega)]; omega
        rw [e1, e2]
        obtain ⟨hi', hh⟩ := L_Sum2 k s hs m (i + 1) (acc + 256 * b) false (by omega) (by omega) (by omega)
        exact ⟨hi', by rw [Bool.not_true, hh]; simp only [ws, Nat.add_assoc]⟩
      | false =>
        rw [cond_false]
        have e2 : IntKind.wrap .u64 ((acc : Int) + IntKind.wrap .u64 (b : Int)) = ((acc + b : Nat) : Int) := by rw [u64_in (b : Int) (by omega), u64_in _ (by omega)]; omega
        rw [e2]
        obtain ⟨hi', hh⟩ := L_Sum2 k s hs m (i + 1) (acc + b) true (by omega) (by omega) (by omega)
        exact ⟨hi', by rw [Bool.not_false, hh]; simp only [ws, Nat.add_assoc]⟩
    · rw [if_neg (by omega), List.drop_of_length_le (by rw [nats_length]; omega)]
      exact ⟨hi, rfl⟩
theorem Q_Sum1 (s : ByteArray) (hs : s.size ≤ 1000000) : Q_z24 [s] = some ((((foldV (ws true (nats s)) : Nat) : Int), ()), ()) := by
  have hw := ws_le true (nats s) fun b hb => nats_lt s hb
  rw [nats_length] at hw
  have hf := foldV_le (ws true (nats s))
  refine fin ?_
  unfold M_z24
  have key : ∀ (m : Nat) (kk : Int → Option Res), 2 ≤ m → L_z24_0 FUEL kk [s] (([s].length : Nat) : Int) m 0 true 0 = kk ((foldV (ws true (nats s)) : Nat) : Int) := fun m kk hm => by
    obtain ⟨m, rfl⟩ : ∃ n, m = n + 2 := ⟨m - 2, by omega⟩
    show F_z24_0 FUEL kk [s] _ (L_z24_0 FUEL kk [s] _ (m + 1)) 0 true 0 = _
    unfold F_z24_0
    have c1 : decide ((0 : Int) < (([s].length : Nat) : Int)) = true := rfl
    have c2 : decide ((0 : Int) ≤ 0 ∧ (0 : Int) < (([s].length : Nat) : Int)) = true := rfl
    have r0 : rdd ByteArray.empty [s] (Int.toNat 0) = s := rfl
    rw [c1, c2, cond_true, cond_true, r0]
    obtain ⟨hi', hh⟩ := L_Sum2 (fun y2 y3 => let y4 : ((Int × Unit) × Unit) := (q_z23 y2)
 cond (ok_z23 y2)
 (L_z24_0 FUEL kk [s] (([s].length : Nat) : Int) (m + 1) (IntKind.wrap .u64 y4.1.1) y3 (IntKind.wrap .i64 ((0 : Int) + (1 : Int))))
 (none)) s hs FUEL 0 0 true (by omega) (by unfold FUEL; omega) (by omega)
    refine Eq.trans hh ?_
    rw [List.drop_zero, Nat.zero_add]
    simp only [ok_z23, q_z23, Q_fold _ (show ws true (nats s) < 1000000000000 by omega), RS.get, Option.getD_some, Option.isSome_some, cond_true]
    show F_z24_0 FUEL kk [s] _ (L_z24_0 FUEL kk [s] _ m) _ _ 1 = _
    unfold F_z24_0
    have c3 : decide ((1 : Int) < (([s].length : Nat) : Int)) = false := rfl
    rw [c3, cond_false, u64_in _ (by omega)]
  refine Eq.trans (key FUEL _ (by unfold FUEL; omega)) ?_
  simp only [ok_z23, q_z23, Q_fold _ (show foldV (ws true (nats s)) < 1000000000000 by omega), foldV_fold, RS.get, Option.getD_some, Option.isSome_some, cond_true]
theorem Q_Good (s : ByteArray) (hs : s.size ≤ 1000000) : Q_z27 s = some ((decide (foldV (ws true (nats s)) = 65535), ()), ()) := by
  refine fin ?_
  unfold M_z27
  simp only [ok_z24, q_z24, Q_Sum1 s hs, RS.get, Option.getD_some, Option.isSome_some, cond_true, int_beq]
  generalize foldV (ws true (nats s)) = x
  have : decide ((x : Int) = 65535) = decide (x = 65535) := decide_eq_decide.2 ⟨fun h => by omega, fun h => by omega⟩
  rw [this]

/-- Bytes, as natural numbers. -/
def natL (l : List Int) : List Nat := l.map Int.toNat
theorem nats_bytesOf {l : List Int} (h : isB l) : nats (bytesOf l) = natL l := by
  unfold nats natL
  rw [bytesOf_list, List.map_map]
  exact List.map_congr_left fun x hx => by
    have := u8_nat (h x hx)
    show (u8 x).toNat = x.toNat
    omega
/-- Two bytes, put as a number of 16 bits. -/
theorem putN_two {L R : List Int} {p q : Int} (hb : isB (L ++ p :: q :: R)) (v : Nat) : putN (L ++ p :: q :: R) (8 * L.length) 16 v = L ++ ((v / 256 % 256 : Nat) : Int) :: ((v % 256 : Nat) : Int) :: R := by
  have hB : isB (L ++ ((v / 256 % 256 : Nat) : Int) :: ((v % 256 : Nat) : Int) :: R) := fun x hx => by
    rcases List.mem_append.1 hx with hx | hx
    · exact hb x (List.mem_append.2 (.inl hx))
    · rcases List.mem_cons.1 hx with rfl | hx
      · omega
      · rcases List.mem_cons.1 hx with rfl | hx
        · omega
        · exact hb x (List.mem_append.2 (.inr (List.mem_cons_of_mem _ (List.mem_cons_of_mem _ hx))))
  have bm : ∀ (x k : Nat), k < 8 → x % 256 / 2 ^ k % 2 = x / 2 ^ k % 2 := fun x k hk => by
    rw [show (256 : Nat) = 2 ^ k * 2 ^ (8 - k) by rw [← Nat.pow_add, show k + (8 - k) = 8 by omega], Nat.mod_mul_right_div_self, Nat.mod_mod_of_dvd]
    exact ⟨2 ^ (8 - k - 1), by rw [← Nat.pow_succ']; congr 1; omega⟩
  refine bytes_ext (putN_isB _ _ _ _) hB (by rw [putN_length]; simp) fun i hi => ?_
  rw [putN_length] at hi
  rw [putN_bit _ _ _ _ _ hi]
  unfold putBit
  have hlen : (L ++ p :: q :: R).length = L.length + 2 + R.length := by simp; omega
  by_cases c0 : i / 8 < L.length
  · rw [if_neg (by omega)]
    refine bitOf_congr ?_
    unfold bl
    rw [rdd_lt (by simp; omega), rdd_lt (by simp; omega), List.getElem_append_left c0, List.getElem_append_left c0]
  by_cases c1 : i / 8 = L.length
  · rw [if_pos (by omega)]
    have : bl (L ++ ((v / 256 % 256 : Nat) : Int) :: ((v % 256 : Nat) : Int) :: R) (i / 8) = v / 256 % 256 := by
      unfold bl; rw [c1, rdd_mid, Int.toNat_natCast]
    unfold bitOf
    rw [this, bm _ _ (by omega), Nat.div_div_eq_div_mul, show (256 : Nat) * 2 ^ (7 - i % 8) = 2 ^ (8 * L.length + 16 - 1 - i) by rw [show (256 : Nat) = 2 ^ 8 from rfl, ← Nat.pow_add]; congr 1; omega]
  by_cases c2 : i / 8 = L.length + 1
  · rw [if_pos (by omega)]
    have : bl (L ++ ((v / 256 % 256 : Nat) : Int) :: ((v % 256 : Nat) : Int) :: R) (i / 8) = v % 256 := by
      unfold bl
      rw [c2, show L ++ ((v / 256 % 256 : Nat) : Int) :: ((v % 256 : Nat) : Int) :: R = (L ++ [((v / 256 % 256 : Nat) : Int)]) ++ ((v % 256 : Nat) : Int) :: R by simp]
      have := rdd_mid (d := (0 : Int)) (L ++ [((v / 256 % 256 : Nat) : Int)]) ((v % 256 : Nat) : Int) R
      rw [List.length_append, List.length_singleton] at this
      rw [this, Int.toNat_natCast]
    unfold bitOf
    rw [this, bm _ _ (by omega), show 7 - i % 8 = 8 * L.length + 16 - 1 - i by omega]
  · rw [if_neg (by omega)]
    refine bitOf_congr ?_
    unfold bl
    rw [rdd_lt (by rw [hlen]; omega), rdd_lt (by simp; omega), List.getElem_append_right (by omega), List.getElem_append_right (by omega)]
    obtain ⟨j, hj⟩ : ∃ j, i / 8 - L.length = j + 2 := ⟨i / 8 - L.length - 2, by omega⟩
    simp only [hj, List.getElem_cons_succ]
end Go.AMach

/- Layer 17: a checksum in a packet. -/
namespace Go.AMach
set_option linter.unusedVariables false
set_option linter.unusedSimpArgs false
set_option linter.unnecessarySimpa false
open Go
set_option linter.unusedVariables false

theorem Q_bLen (n : Nat) (row : List Int) : Q_z1f n row = some ((((n : Nat) : Int), ()), ((n, ()), (row, ()))) := fin rfl
/-- A field's byte; or why not. -/
def atV (fr off : Int) (len : Nat) : Int × Int := if off < 0 then (0, 1) else if off / 8 > (len : Int) - fr then (0, 1) else (fr + off / 8, 0)
theorem Q_atB (fr : Int) (f : FieldS) (n : Nat) (row : List Int) (hf : 0 ≤ fr ∧ fr ≤ 1000000) (ho : f.2.2.2.1 ≤ 9223372036854775807) (hn : n ≤ 1000000) :
    Q_z1g fr f n row = some (((atV fr f.2.2.2.1 n).1, ((atV fr f.2.2.2.1 n).2, ())), ((n, ()), (row, ()))) := by
  refine fin ?_
  unfold M_z1g atV
  simp only [cond_dec]
  by_cases h0 : f.2.2.2.1 < 0
  · rw [if_pos h0, if_pos h0]
  rw [if_neg h0, if_neg h0]
  have h8 : ((8 : Int) != 0) = true := by decide
  have e : IntKind.wrap .i64 (Int.tdiv f.2.2.2.1 8) = f.2.2.2.1 / 8 := by
    rw [Int.tdiv_eq_ediv_of_nonneg (by omega), IntWalk.i64_in _ (by omega)]
  have e2 : IntKind.wrap .i64 (((n : Nat) : Int) - fr) = (n : Int) - fr := IntWalk.i64_in _ (by omega)
  simp only [h8, cond_true, ok_z1f, q_z1f, Q_bLen, RS.get, Option.getD_some, Option.isSome_some, e, e2]
  by_cases h1 : f.2.2.2.1 / 8 > (n : Int) - fr
  · rw [if_pos h1, if_pos h1]
  · rw [if_neg h1, if_neg h1, IntWalk.i64_in _ (by omega)]
/-- A field's byte in a packet. -/
def atF (hs : List HeadS) (b mt : List Int) (f : FieldS) : Int × Int := match whereF hs b mt f with
  | none => (0, 3)
  | some (c, a) => atV a f.2.2.2.1 c.length
theorem Q_pAt {hs : List HeadS} {b mt : List Int} (P : PkOk hs b mt) (pt : Int) (f : FieldS) (hf : FieldT.good f) :
    Q_z1h f hs.length pt b.length b hs mt.length mt = some (((atF hs b mt f).1, ((atF hs b mt f).2, ())), pkS hs pt b mt) := by
  obtain ⟨h1, h2, h3, h4, h5, _⟩ := hf
  have r4 := wf_i64 h4
  obtain ⟨p1, p2, p3⟩ := Q_place P pt f
  refine fin ?_
  unfold M_z1h atF
  cases hw : whereF hs b mt f with
  | none =>
    obtain ⟨q0, q1, q2⟩ := p1 hw
    simp only [ok_z17, ok_z17_1, ok_z17_2, q_z17_2, q0, q1, q2, RS.get, Option.getD_some, Option.isSome_some, Option.isSome_none, cond_true, cond_false]
    rfl
  | some ca =>
    obtain ⟨c, a⟩ := ca
    rcases where_in hw with ⟨c3, rfl, rfl⟩ | ⟨c3, rfl, ha⟩
    · obtain ⟨q0, q1⟩ := p2 _ _ hw c3
      simp only [ok_z17, ok_z17_1, q_z17_1, q0, q1, RS.get, Option.getD_some, Option.isSome_some, Option.isSome_none, cond_true, cond_false, int_bne, decide_true, Bool.not_true, ok_z1g, q_z1g, Q_atB 0 f c.length c (by omega) r4.2 (by have := P.ml; omega)]
    · have q0 := p3 _ _ hw c3
      have ha' : 0 ≤ a ∧ a ≤ 1000000 := by
        rcases ha with h | h
        · omega
        · exact atOf_ok P h
      simp only [ok_z17, q_z17, q0, RS.get, Option.getD_some, Option.isSome_some, cond_true, cond_false, int_bne, decide_true, Bool.not_true, ok_z1g, q_z1g, Q_atB a f c.length c ha' r4.2 (by have := P.bl; omega)]
def spotF (hs : List HeadS) (b mt : List Int) (f : FieldS) : Int × Int := if f.2.1 = 3 then (0, 3) else atF hs b mt f
theorem Q_pSpot {hs : List HeadS} {b mt : List Int} (P : PkOk hs b mt) (pt : Int) (f : FieldS) (hf : FieldT.good f) :
    Q_z1i f hs.length pt b.length b hs mt.length mt = some (((spotF hs b mt f).1, ((spotF hs b mt f).2, ())), pkS hs pt b mt) := by
  refine fin ?_
  unfold M_z1i spotF
  simp only [int_beq, cond_dec]
  by_cases c3 : f.2.1 = 3
  · rw [if_pos c3, if_pos c3]
  · rw [if_neg c3, if_neg c3]
    simp only [ok_z1h, q_z1h, Q_pAt P pt f hf, RS.get, Option.getD_some, Option.isSome_some, cond_true]

theorem Q_bSum {b : List Int} (hb : isB b) (k n : Nat) (hk : k + n ≤ b.length) (hl : b.length ≤ 1000000) :
    Q_z25 (k : Int) (n : Int) b.length b = some ((((foldV (ws true (natL ((b.drop k).take n))) : Nat) : Int), (0, ())), ((b.length, ()), (b, ()))) := by
  have ho : Q_z1j (k : Int) (n : Int) b.length b = some ((0, ()), ((b.length, ()), (b, ()))) := by
    refine fin ?_
    unfold M_z1j
    simp only [cond_dec]
    rw [if_neg (by omega), if_neg (by omega), if_neg (by omega), IntWalk.i64_in _ (by omega), if_neg (by omega)]
  refine fin ?_
  unfold M_z25
  have e : IntKind.wrap .i64 ((k : Int) + (n : Int)) = ((k + n : Nat) : Int) := by rw [IntWalk.i64_in _ (by omega)]; omega
  have hc : cutL (0 : Int) b (0 + k) (k + n - k) = (b.drop k).take n := by rw [cutL_eq (by omega), Nat.zero_add, Nat.add_sub_cancel_left]
  have hB : isB ((b.drop k).take n) := fun x hx => hb x (List.mem_of_mem_drop (List.mem_of_mem_take hx))
  have hl2 : ((b.drop k).take n).length = n := by rw [List.length_take, List.length_drop]; omega
  have d : decide ((0 : Int) ≤ (k : Int) ∧ (k : Int) ≤ ((k + n : Nat) : Int) ∧ ((k + n : Nat) : Int) ≤ ((b.length : Nat) : Int) ∧ ((b.length : Nat) : Int) ≤ ((b.length : Nat) : Int)) = true := by rw [decide_eq_true_eq]; omega
  simp only [ok_z1j, q_z1j, ho, RS.get, Option.getD_some, Option.isSome_some, cond_true, int_bne, decide_true, Bool.not_true, cond_false, e, d, toNat_cast, hc, ok_z24, q_z24, Q_Sum1 _ (show (bytesOf ((b.drop k).take n)).size ≤ 1000000 by rw [bytesOf_size, hl2]; omega), nats_bytesOf hB]

theorem not16 (c : Nat) (h : c ≤ 65535) : IntKind.wrap .u16 ((BitVec.toNat (BitVec.ofInt (IntKind.bits .u16) (IntKind.max .u16) ^^^ BitVec.ofInt (IntKind.bits .u16) (c : Int)) : Nat) : Int) = ((65535 - c : Nat) : Int) := by
  have e : BitVec.toNat (BitVec.ofInt (IntKind.bits .u16) (IntKind.max .u16) ^^^ BitVec.ofInt (IntKind.bits .u16) (c : Int)) = 65535 - c := by
    show BitVec.toNat (BitVec.ofInt 16 65535 ^^^ BitVec.ofInt 16 (c : Int)) = _
    have e1 : BitVec.ofInt 16 65535 = BitVec.allOnes 16 := by decide
    rw [e1, BitVec.allOnes_xor, BitVec.toNat_not, BitVec.toNat_ofInt]
    omega
  rw [e]
  simp [IntKind.wrap, IntKind.bits, IntKind.signed]; omega

/-- A field of the packet, whole bytes. -/
abbrev fldP (off w : Int) : FieldS := (0, (1, (0, (off, (w, ())))))
theorem putF_P {hs : List HeadS} {b mt : List Int} (m w v : Nat) (h : 8 * m + w ≤ 8 * b.length) (hw : 1 ≤ w ∧ w ≤ 128) (hm : m ≤ 9216) : putF hs b mt (fldP ((8 * m : Nat) : Int) (w : Int)) v = (0, (putN b (8 * m) w v, mt)) := by
  unfold putF
  have hwh : whereF hs b mt (fldP ((8 * m : Nat) : Int) (w : Int)) = some (b, 0) := rfl
  rw [hwh]
  have hbit : bitV 0 ((8 * m : Nat) : Int) = ((8 * m : Nat) : Int) := by unfold bitV; rw [if_neg (by omega)]; omega
  simp only [fldP, hbit]
  have hg : (getB b ((8 * m : Nat) : Int) (w : Int)).isSome = true := by unfold getB; rw [if_pos (by omega)]; rfl
  rw [if_pos hg, if_neg (by decide)]
  unfold putB
  rw [toNat_cast, toNat_cast]

theorem Q_pSum {hs : List HeadS} {b mt : List Int} (P : PkOk hs b mt) (pt : Int) (k n m : Nat) (hn : n ≠ 0) (hk : k + n ≤ b.length) (hm : m + 2 ≤ b.length) (hbl : b.length ≤ 9216) :
    ∃ c : Nat, c = foldV (ws true (natL (((putN b (8 * m) 16 0).drop k).take n))) ∧ Q_z26 (fldP ((8 * m : Nat) : Int) 16) (fldP ((8 * k : Nat) : Int) 8) (n : Int) hs.length pt b.length b hs mt.length mt =
      some ((0, ()), pkS hs pt (putN (putN b (8 * m) 16 0) (8 * m) 16 (65535 - c)) mt) := by
  refine ⟨_, rfl, ?_⟩
  have g1 : FieldT.good (fldP ((8 * m : Nat) : Int) 16) := by
    refine ⟨(show (Lit.int .i64 0).wf = true by decide), (show (Lit.int .u8 1).wf = true by decide), (show (Lit.int .i64 0).wf = true by decide), ?_, (show (Lit.int .i64 16).wf = true by decide), trivial⟩
    show (Lit.int .i64 ((8 * m : Nat) : Int)).wf = true
    simp [Lit.wf, IntKind.min, IntKind.max, IntKind.bits, IntKind.signed]; omega
  have g2 : FieldT.good (fldP ((8 * k : Nat) : Int) 8) := by
    refine ⟨(show (Lit.int .i64 0).wf = true by decide), (show (Lit.int .u8 1).wf = true by decide), (show (Lit.int .i64 0).wf = true by decide), ?_, (show (Lit.int .i64 8).wf = true by decide), trivial⟩
    show (Lit.int .i64 ((8 * k : Nat) : Int)).wf = true
    simp [Lit.wf, IntKind.min, IntKind.max, IntKind.bits, IntKind.signed]; omega
  have qs := Q_pSpot P pt _ g2
  have hsp : spotF hs b mt (fldP ((8 * k : Nat) : Int) 8) = ((k : Int), 0) := by
    unfold spotF atF
    have hwh : whereF hs b mt (fldP ((8 * k : Nat) : Int) 8) = some (b, 0) := rfl
    rw [if_neg (show ¬ (1 : Int) = 3 by decide), hwh]
    unfold atV
    simp only [fldP]
    rw [if_neg (by omega), if_neg (by omega)]
    congr 1; omega
  rw [hsp] at qs
  have q1 := Q_bSum P.bB k n hk (by omega)
  have q2 := Q_pPut P pt _ g1 0 (by decide)
  have hp0 := putF_P (hs := hs) (mt := mt) (b := b) m 16 0 (by omega) (by omega) (by omega)
  have w16 : ((16 : Nat) : Int) = 16 := rfl
  rw [w16] at hp0
  rw [hp0] at q2
  have P1 := putF_ok P (fldP ((8 * m : Nat) : Int) 16) 0
  rw [hp0] at P1
  have q3 := Q_bSum P1.bB k n (by show k + n ≤ (putN b (8 * m) 16 0).length; rw [putN_length]; exact hk) (by show (putN b (8 * m) 16 0).length ≤ _; rw [putN_length]; omega)
  simp only at q2 q3 P1
  generalize hc : foldV (ws true (natL (((putN b (8 * m) 16 0).drop k).take n))) = c at q3 ⊢
  have hcl : c ≤ 65535 := by rw [← hc]; exact foldV_le _
  have q4 := Q_pPut P1 pt _ g1 (65535 - c) (by omega)
  have hp1 := putF_P (hs := hs) (mt := mt) (b := putN b (8 * m) 16 0) m 16 (65535 - c) (by rw [putN_length]; omega) (by omega) (by omega)
  rw [w16] at hp1
  rw [hp1] at q4
  have hw : (((0 : Int), (((65535 - c : Nat) : Int), ())) : WordS) = wN (65535 - c) := by
    unfold wN W2
    rw [Nat.div_eq_of_lt (by omega), Nat.mod_eq_of_lt (by omega)]; rfl
  have hw0 : (((0 : Int), ((0 : Int), ())) : WordS) = wN 0 := rfl
  have hu : IntKind.wrap .u64 ((65535 - c : Nat) : Int) = ((65535 - c : Nat) : Int) := u64_in _ (by omega)
  refine fin ?_
  unfold M_z26
  have hn0 : decide ((n : Int) = 0) = false := decide_eq_false (by omega)
  simp only [ok_z1i, q_z1i, qs, RS.get, Option.getD_some, Option.isSome_some, cond_true, int_bne, int_beq, decide_true, Bool.not_true, cond_false, hn0, ok_z25, q_z25, q1, ok_z22, q_z22, hw0, q2, q3, not16 c hcl, hu, ok_z0k, q_z0k, Q_New, hw, q4]
end Go.AMach
