/- Parts of the proof. -/
import Derived.Test.YtcngpijmkdpbgaaGc
import Derived.Test.YtcngpijmkdpbgaaAm23
import Derived.Test.YtcngpijmkdpbgaaPa
/- Numbers of 128 bits as natural numbers; texts of fields. -/
namespace Go.AMach
set_option linter.unusedVariables false
set_option linter.unusedSimpArgs false
set_option linter.unnecessarySimpa false
open Go
set_option linter.unusedVariables false

/-- A number of 128 bits. -/
def wN (v : Nat) : WordS := W2 (v / 18446744073709551616) (v % 18446744073709551616)
theorem wN_of (h l : Nat) (hl : l < 18446744073709551616) : W2 h l = wN (h * 18446744073709551616 + l) := by
  unfold wN
  congr 1 <;> omega
theorem wN_zero : wN 0 = ((0, (0, ())) : WordS) := rfl
theorem wN_inj {a b : Nat} (h : wN a = wN b) : a = b := by
  unfold wN W2 at h
  simp only [Prod.mk.injEq] at h
  obtain ⟨h1, h2, _⟩ := h
  omega
theorem bv128 (bf : Nat → Nat) (off : Nat) {w : Nat} (h : w ≤ 128) : bv bf off w < 340282366920938463463374607431768211456 :=
  Nat.lt_of_lt_of_le (bv_lt bf off w) (Nat.le_trans (Nat.pow_le_pow_right (by decide) h) (by decide))

theorem getP_wN (bf : Nat → Nat) (hb : ∀ i, bf i < 256) (off w : Nat) (h1 : 1 ≤ w) (h2 : w ≤ 128) : getP (fun i => (bf i : Int)) off w = wN (bv bf off w) := by
  obtain ⟨h, l, e, hh, hl, hv⟩ := getP_val bf hb off w h1 h2
  rw [e, wN_of h l hl, hv]

theorem div_lift (h l n : Nat) (hn : n ≤ 64) (hl : l < 18446744073709551616) : (h * 18446744073709551616 + l) / 2 ^ n = h * 2 ^ (64 - n) + l / 2 ^ n := by
  have e : (18446744073709551616 : Nat) = 2 ^ (64 - n) * 2 ^ n := by rw [← Nat.pow_add, show 64 - n + n = 64 by omega]
  have hp : 0 < 2 ^ n := Nat.two_pow_pos _
  rw [show h * 18446744073709551616 + l = l + 2 ^ n * (h * 2 ^ (64 - n)) by rw [e, Nat.mul_comm (2 ^ n), Nat.mul_assoc]; omega, Nat.add_mul_div_left _ _ hp]
  omega

theorem fdiv_nat (a k : Nat) : Int.fdiv (a : Int) (2 ^ k) = ((a / 2 ^ k : Nat) : Int) := by
  rw [Int.fdiv_eq_ediv_of_nonneg _ (Int.le_of_lt (Int.pow_pos (by decide)))]
  push_cast; rfl
theorem Right_N (v k : Nat) (hk : k ≤ 127) (hv : v < 340282366920938463463374607431768211456) : (q_z0n (wN v) (k : Int)).1.1 = wN (v / 2 ^ k) := by
  have hh : v / 18446744073709551616 < 18446744073709551616 := by omega
  have hl : v % 18446744073709551616 < 18446744073709551616 := Nat.mod_lt _ (by decide)
  have hvv : v = v / 18446744073709551616 * 18446744073709551616 + v % 18446744073709551616 := by omega
  have hM : M_z0n FUEL (wN v) (k : Int) = some (encRes ro_z0n rh_z0n ((wN (v / 2 ^ k), ()), ())) := by
    unfold M_z0n
    simp only [cond_dec]
    by_cases h0 : k = 0
    · subst h0
      rw [if_pos (by omega), Nat.pow_zero, Nat.div_one]
    · rw [if_neg (by omega)]
      by_cases h64 : 64 ≤ k
      · rw [if_pos (by omega)]
        have e1 : IntKind.wrap .i64 ((k : Int) - 64) = ((k - 64 : Nat) : Int) := by rw [IntWalk.i64_in _ (by omega)]; omega
        rw [e1, if_pos (by omega), toNat_cast]
        have b1 : min (k - 64) (IntKind.bits .u64) = k - 64 := Nat.min_eq_left (by show k - 64 ≤ 64; omega)
        rw [b1]
        have e3 : Int.fdiv (wN v).1 (2 ^ (k - 64)) = ((v / 18446744073709551616 / 2 ^ (k - 64) : Nat) : Int) := fdiv_nat _ _
        have e4 : v / 2 ^ k = v / 18446744073709551616 / 2 ^ (k - 64) := by
          rw [Nat.div_div_eq_div_mul, show (18446744073709551616 : Nat) = 2 ^ 64 from rfl, ← Nat.pow_add, show 64 + (k - 64) = k by omega]
        rw [e3, e4]
        have hq : v / 18446744073709551616 / 2 ^ (k - 64) < 18446744073709551616 := Nat.lt_of_le_of_lt (Nat.div_le_self _ _) hh
        generalize v / 18446744073709551616 / 2 ^ (k - 64) = q at hq ⊢
        have : wN q = W2 0 q := by rw [wN_of 0 q hq, Nat.zero_mul, Nat.zero_add]
        rw [this]; rfl
      · rw [if_neg (by omega), if_pos (by omega), if_pos (by omega)]
        have e1 : IntKind.wrap .i64 (64 - (k : Int)) = ((64 - k : Nat) : Int) := by rw [IntWalk.i64_in _ (by omega)]; omega
        rw [e1, if_pos (by omega), toNat_cast, toNat_cast]
        have b1 : min k (IntKind.bits .u64) = k := Nat.min_eq_left (by show k ≤ 64; omega)
        have b2 : min (64 - k) (IntKind.bits .u64) = 64 - k := Nat.min_eq_left (by show 64 - k ≤ 64; omega)
        rw [b1, b2]
        generalize hH : v / 18446744073709551616 = H at hh hvv
        generalize hL : v % 18446744073709551616 = L at hl hvv
        have hw : wN v = W2 H L := by unfold wN; rw [hH, hL]
        rw [hw]
        have hp : 0 < 2 ^ k := Nat.two_pow_pos _
        have e2 : IntKind.wrap .u64 ((W2 H L).1 * 2 ^ (64 - k)) = ((2 ^ (64 - k) * (H % 2 ^ k) : Nat) : Int) := by
          have : ((W2 H L).1 * 2 ^ (64 - k)) = ((H * 2 ^ (64 - k) : Nat) : Int) := by unfold W2; push_cast; rfl
          rw [this, wrapU]
          congr 1
          rw [show (18446744073709551616 : Nat) = 2 ^ k * 2 ^ (64 - k) by rw [← Nat.pow_add, show k + (64 - k) = 64 by omega], Nat.mul_mod_mul_right, Nat.mul_comm]
        have e3 : Int.fdiv (W2 H L).2.1 (2 ^ k) = ((L / 2 ^ k : Nat) : Int) := by
          unfold W2
          rw [Int.fdiv_eq_ediv_of_nonneg _ (Int.le_of_lt (Int.pow_pos (by decide)))]
          push_cast; rfl
        have e4 : Int.fdiv (W2 H L).1 (2 ^ k) = ((H / 2 ^ k : Nat) : Int) := by
          unfold W2
          rw [Int.fdiv_eq_ediv_of_nonneg _ (Int.le_of_lt (Int.pow_pos (by decide)))]
          push_cast; rfl
        have hs : L / 2 ^ k < 2 ^ (64 - k) := by
          rw [Nat.div_lt_iff_lt_mul hp, ← Nat.pow_add, show 64 - k + k = 64 by omega]; exact hl
        have hm : H % 2 ^ k < 2 ^ k := Nat.mod_lt _ hp
        have hs2 : 2 ^ (64 - k) * (H % 2 ^ k) + L / 2 ^ k < 18446744073709551616 := by
          have : 2 ^ (64 - k) * (H % 2 ^ k + 1) ≤ 2 ^ (64 - k) * 2 ^ k := Nat.mul_le_mul_left _ hm
          rw [← Nat.pow_add, show 64 - k + k = 64 by omega, Nat.mul_add, Nat.mul_one] at this
          exact Nat.lt_of_lt_of_le (Nat.add_lt_add_left hs _) this
        simp only [e2, e3, e4]
        have hor := orU (L / 2 ^ k) (2 ^ (64 - k) * (H % 2 ^ k)) (Nat.lt_of_le_of_lt (Nat.div_le_self _ _) hl) (Nat.lt_of_le_of_lt (Nat.le_add_right _ _) hs2)
        rw [hor, Nat.or_comm, or_add _ _ _ hs]
        have hval : v / 2 ^ k = H / 2 ^ k * 18446744073709551616 + (2 ^ (64 - k) * (H % 2 ^ k) + L / 2 ^ k) := by
          rw [hvv, div_lift H L k (by omega) hl]
          have : H = 2 ^ k * (H / 2 ^ k) + H % 2 ^ k := (Nat.div_add_mod _ _).symm
          have h2 : H * 2 ^ (64 - k) = H / 2 ^ k * 18446744073709551616 + 2 ^ (64 - k) * (H % 2 ^ k) := by
            conv => lhs; rw [this]
            rw [Nat.add_mul, show (18446744073709551616 : Nat) = 2 ^ k * 2 ^ (64 - k) by rw [← Nat.pow_add, show k + (64 - k) = 64 by omega], Nat.mul_comm (H % 2 ^ k)]
            rw [Nat.mul_comm (2 ^ k) (H / 2 ^ k), Nat.mul_assoc]
          omega
        rw [hval, ← wN_of _ _ hs2]
        rfl
  have : Q_z0n (wN v) (k : Int) = some ((wN (v / 2 ^ k), ()), ()) := fin hM
  unfold q_z0n
  rw [this]; rfl

theorem Cut_N (v w : Nat) (hw : w ≤ 128) (hv : v < 340282366920938463463374607431768211456) : (q_z0q (wN v) (w : Int)).1.1 = wN (v % 2 ^ w) := by
  unfold wN
  rw [Cut_val _ _ w hw (by omega) (Nat.mod_lt _ (by decide))]
  by_cases h : w ≤ 64
  · have e1 : w - 64 = 0 := by omega
    rw [e1, Nat.min_eq_left h]
    have hd : (2 : Nat) ^ w ∣ 18446744073709551616 := by rw [show (18446744073709551616 : Nat) = 2 ^ 64 from rfl]; exact Nat.pow_dvd_pow 2 h
    have hlt : v % 2 ^ w < 18446744073709551616 := Nat.lt_of_lt_of_le (Nat.mod_lt _ (Nat.two_pow_pos _)) (Nat.le_trans (Nat.pow_le_pow_right (by decide) h) (by decide))
    rw [Nat.mod_mod_of_dvd _ hd, Nat.mod_eq_of_lt hlt, Nat.div_eq_of_lt hlt]
    simp [Nat.mod_one]
  · rw [Nat.min_eq_right (by omega), show (2 : Nat) ^ 64 = 18446744073709551616 from rfl, Nat.mod_mod]
    have e : (2 : Nat) ^ w = 18446744073709551616 * 2 ^ (w - 64) := by rw [show (18446744073709551616 : Nat) = 2 ^ 64 from rfl, ← Nat.pow_add, show 64 + (w - 64) = w by omega]
    rw [e, Nat.mod_mul]
    congr 1
    · rw [Nat.add_mul_div_left _ _ (by decide), Nat.div_eq_of_lt (Nat.mod_lt _ (by decide))]; omega
    · rw [Nat.add_mul_mod_self_left, Nat.mod_mod]

/-! -: Bytes -/
def u8 (x : Int) : UInt8 := UInt8.ofNat x.toNat
theorem foldl_push (l : List Int) : ∀ (b : ByteArray), (l.foldl (fun r n => r.push (UInt8.ofNat n.toNat)) b).data.toList = b.data.toList ++ l.map u8 := by
  induction l with
  | nil => intro b; simp
  | cons x l ih =>
    intro b
    rw [List.foldl_cons, ih]
    show (b.data.push _).toList ++ _ = _
    simp [u8]
theorem bytesOf_list (l : List Int) : (bytesOf l).data.toList = l.map u8 := by
  unfold bytesOf
  rw [foldl_push]; simp
theorem bytesOf_size (l : List Int) : (bytesOf l).size = l.length := by
  have := congrArg List.length (bytesOf_list l)
  simpa using this
/-- Are these bytes? -/
def isB (l : List Int) : Prop := ∀ x ∈ l, 0 ≤ x ∧ x ≤ 255
theorem u8_nat {x : Int} (h : 0 ≤ x ∧ x ≤ 255) : (((u8 x).toNat : Nat) : Int) = x := by
  unfold u8
  rw [UInt8.toNat_ofNat']
  omega
theorem byteAt_bytesOf {l : List Int} (hl : isB l) {i : Nat} (hi : i < l.length) : byteAt (bytesOf l) i = rdd 0 l i := by
  unfold byteAt
  rw [bytesOf_list, List.getD_eq_getElem?_getD, List.getElem?_map, List.getElem?_eq_getElem hi, rdd_lt hi]
  exact u8_nat (hl _ (List.getElem_mem hi))
theorem bytesL_isB (s : ByteArray) : isB (bytesL s) := fun x hx => by
  unfold bytesL at hx
  simp only [List.mem_map] at hx
  obtain ⟨b, _, rfl⟩ := hx
  have := UInt8.toNat_lt b
  omega
theorem bytesL_length (s : ByteArray) : (bytesL s).length = s.size := by simp [bytesL]
theorem ba_ext' {a b : ByteArray} (h : a.data.toList = b.data.toList) : a = b := by
  cases a; cases b; simpa using h
theorem bytesOf_bytesL (s : ByteArray) : bytesOf (bytesL s) = s := by
  apply ba_ext'
  rw [bytesOf_list]
  unfold bytesL
  rw [List.map_map]
  have : (u8 ∘ fun b : UInt8 => ((b.toNat : Nat) : Int)) = id := by
    funext b
    show UInt8.ofNat (((b.toNat : Nat) : Int).toNat) = b
    rw [Int.toNat_natCast]
    simp
  rw [this]; simp
theorem bytesL_bytesOf {l : List Int} (h : isB l) : bytesL (bytesOf l) = l := by
  unfold bytesL
  rw [bytesOf_list, List.map_map]
  have : ∀ x ∈ l, ((fun b : UInt8 => ((b.toNat : Nat) : Int)) ∘ u8) x = x := fun x hx => u8_nat (h x hx)
  rw [List.map_congr_left this]; simp
theorem bytesOf_inj {a b : List Int} (ha : isB a) (hb : isB b) (h : bytesOf a = bytesOf b) : a = b := by
  rw [← bytesL_bytesOf ha, ← bytesL_bytesOf hb, h]
theorem bytesOf_extract (l : List Int) (a b : Nat) : (bytesOf l).extract a b = bytesOf ((l.take b).drop a) := by
  apply ba_ext'
  rw [bytesOf_list, ByteArray.data_extract]
  have : ((bytesOf l).data.extract a b).toList = (((bytesOf l).data.toList).take b).drop a := by simp [List.drop_take]
  rw [this, bytesOf_list, List.map_drop, List.map_take]

/-! ### The text of a field -/
/-- A number's last bytes, the highest ahead. -/
def be (n v : Nat) : List Int := mkL n fun i => ((v / 256 ^ (n - 1 - i) % 256 : Nat) : Int)
theorem be_length (n v : Nat) : (be n v).length = n := mkL_length _ _
theorem be_isB (n v : Nat) : isB (be n v) := fun x hx => by
  unfold be mkL at hx
  simp only [List.mem_map] at hx
  obtain ⟨i, _, rfl⟩ := hx
  have := Nat.mod_lt (v / 256 ^ (n - 1 - i)) (show 0 < 256 by decide)
  omega
theorem be_drop (n m v : Nat) (h : m ≤ n) : (be n v).drop (n - m) = be m v := by
  apply List.ext_getElem?
  intro i
  rw [List.getElem?_drop]
  by_cases hi : i < m
  · unfold be
    rw [mkL_get hi, mkL_get (by omega), show n - 1 - (n - m + i) = m - 1 - i by omega]
  · rw [List.getElem?_eq_none (by rw [be_length]; omega), List.getElem?_eq_none (by rw [be_length]; omega)]

theorem wrap8 (n : Nat) : IntKind.wrap .u8 (n : Int) = ((n % 256 : Nat) : Int) := by
  simp [IntKind.wrap, IntKind.bits, IntKind.signed]

/-- How many bytes a width needs. -/
def nB (w : Int) : Nat := if w < 1 ∨ w > 128 then 0 else (w.toNat + 7) / 8
/-- The text of a number, in a field. -/
def textV (v : Nat) (w : Int) : ByteArray := bytesOf (be (nB w) (v % 2 ^ w.toNat))
theorem textV_size (v : Nat) (w : Int) : (textV v w).size = nB w := by unfold textV; rw [bytesOf_size, be_length]
end Go.AMach

/- A packet: its fields and their texts. -/
namespace Go.AMach
set_option linter.unusedVariables false
set_option linter.unusedSimpArgs false
set_option linter.unnecessarySimpa false
open Go
set_option linter.unusedVariables false

/-- Bytes as natural numbers. -/
def bl (b : List Int) (i : Nat) : Nat := (rdd 0 b i).toNat
theorem isB_rdd {b : List Int} (h : isB b) (i : Nat) : 0 ≤ rdd 0 b i ∧ rdd 0 b i ≤ 255 := by
  by_cases hi : i < b.length
  · exact h _ (rdd_mem hi)
  · rw [rdd_ge (by omega)]; omega
theorem bl_lt {b : List Int} (h : isB b) (i : Nat) : bl b i < 256 := by have := isB_rdd h i; unfold bl; omega
theorem bl_cast {b : List Int} (h : isB b) (i : Nat) : ((bl b i : Nat) : Int) = rdd 0 b i := by have := isB_rdd h i; unfold bl; omega
/-- A number among bytes, by its bits. -/
def getB (b : List Int) (off w : Int) : Option Nat := if 0 ≤ off ∧ 1 ≤ w ∧ w ≤ 128 ∧ off + w ≤ 8 * (b.length : Int) then some (bv (bl b) off.toNat w.toNat) else none
def getE (off w : Int) : Int := if w < 1 then 1 else if w > 128 then 1 else if off < 0 then 1 else 4
theorem getE_ne (off w : Int) : getE off w ≠ 0 := by unfold getE; split; decide; split; decide; split <;> decide

theorem Q_GetBad (s : ByteArray) (off w : Int) (hs : s.size < 1000000000) (ho : off ≤ 9223372036854775807)
    (h : ¬ (0 ≤ off ∧ 1 ≤ w ∧ w ≤ 128 ∧ off + w ≤ 8 * (s.size : Int))) : Q_z0r s off w = some (((wN 0), (getE off w, ())), ()) := by
  have hm : Q_z0i s off w = some ((getE off w, ()), ()) := by
    refine fin ?_
    unfold M_z0i getE
    simp only [cond_dec]
    refine ite_eq (fun h1 => by rw [if_pos h1]) fun h1 => ?_
    rw [if_neg h1]
    refine ite_eq (fun h2 => by rw [if_pos h2]) fun h2 => ?_
    rw [if_neg h2]
    refine ite_eq (fun h3 => by rw [if_pos h3]) fun h3 => ?_
    rw [if_neg h3, IntWalk.i64_in (8 * (s.size : Int)) (by omega), IntWalk.i64_in _ (by omega), if_pos (by omega)]
  refine fin ?_
  unfold M_z0r
  simp only [ok_z0i, q_z0i, hm, RS.get, Option.getD_some, Option.isSome_some, cond_true, int_bne]
  rw [decide_eq_false (getE_ne off w), Bool.not_false, cond_true]
  rfl

theorem bv_congr {f g : Nat → Nat} {off : Nat} : ∀ (w : Nat), (∀ i, off ≤ i → i < off + w → bitOf f i = bitOf g i) → bv f off w = bv g off w
  | 0, _ => rfl
  | w + 1, h => by
    rw [bv_add f off w 1, bv_add g off w 1, bv_congr w fun i h1 h2 => h i h1 (by omega)]
    congr 1
    show 2 * 0 + bitOf f (off + w) = 2 * 0 + bitOf g (off + w)
    rw [h (off + w) (by omega) (by omega)]
theorem bitOf_congr {f g : Nat → Nat} {i : Nat} (h : f (i / 8) = g (i / 8)) : bitOf f i = bitOf g i := by unfold bitOf; rw [h]

/-- A slice that does not begin at a block's beginning. -/
theorem decs_hs {id e fr n : Nat} {r : List EK} {xs : List AV} (h : fr ≠ e) : EK.decs (.hs id e :: r) (.hs false id fr n :: xs) = none := by
  have : EK.dec (.hs id e) (.hs false id fr n) = none := if_neg fun k => h k.2
  simp only [EK.decs, this]
theorem dec_off {fr n : Nat} {y : Int} {x : HK.sems rh_z1a_1} (h : fr ≠ 0) : decRes ro_z1a rh_z1a (some (encRes ro_z1a_1 rh_z1a_1 (((fr, n), (y, ())), x))) = none := by
  unfold decRes encRes
  simp only [EK.encs, EK.enc, oneOr, unOr, ro_z1a, ro_z1a_1, decs_hs h, List.length]

theorem Q_bWin (b : List Int) (off w : Int) (hl : b.length ≤ 1000000) (ho : -9223372036854775808 ≤ off ∧ off ≤ 9223372036854775807) :
    (getB b off w = none → Q_z1a off w b.length b = some ((b.length, (0, ())), ((b.length, ()), (b, ())))) ∧
    (∀ v, getB b off w = some v → (off.toNat / 8 = 0 ∧ Q_z1a off w b.length b = some (((off.toNat + w.toNat + 7) / 8 - off.toNat / 8, (((off.toNat / 8 : Nat) : Int), ())), ((b.length, ()), (b, ())))) ∨ Q_z1a off w b.length b = none ∧ Q_z1a_1 off w b.length b = some (((off.toNat / 8, (off.toNat + w.toNat + 7) / 8 - off.toNat / 8), (((off.toNat / 8 : Nat) : Int), ())), ((b.length, ()), (b, ())))) := by
  have hw : 1 ≤ w → w ≤ 128 → IntKind.wrap .i64 (IntKind.wrap .i64 (8 * (b.length : Int)) - w) = 8 * (b.length : Int) - w := fun h1 h2 => by
    rw [IntWalk.i64_in (8 * (b.length : Int)) (by omega), IntWalk.i64_in _ (by omega)]
  refine ⟨fun hn => ?_, fun v hv => ?_⟩
  · have hn' : ¬ (0 ≤ off ∧ 1 ≤ w ∧ w ≤ 128 ∧ off + w ≤ 8 * (b.length : Int)) := fun k => by unfold getB at hn; rw [if_pos k] at hn; cases hn
    refine fin ?_
    unfold M_z1a
    simp only [cond_dec]
    refine ite_eq (fun _ => rfl) fun h1 => ite_eq (fun _ => rfl) fun h2 => ite_eq (fun _ => rfl) fun h3 => ?_
    rw [hw (by omega) (by omega), if_pos (by omega)]
  · have hv' : 0 ≤ off ∧ 1 ≤ w ∧ w ≤ 128 ∧ off + w ≤ 8 * (b.length : Int) := Classical.byContradiction fun k => by unfold getB at hv; rw [if_neg k] at hv; cases hv
    have hM : M_z1a FUEL off w b.length b = some (encRes ro_z1a_1 rh_z1a_1 (((off.toNat / 8, (off.toNat + w.toNat + 7) / 8 - off.toNat / 8), (((off.toNat / 8 : Nat) : Int), ())), ((b.length, ()), (b, ())))) := by
      unfold M_z1a
      simp only [cond_dec]
      have e2 : IntKind.wrap .i64 (Int.tdiv off 8) = ((off.toNat / 8 : Nat) : Int) := by
        rw [Int.tdiv_eq_ediv_of_nonneg (by omega), IntWalk.i64_in _ (by omega)]; omega
      have e1 : IntKind.wrap .i64 (Int.tdiv (IntKind.wrap .i64 (IntKind.wrap .i64 (off + w) + 7)) 8) = (((off.toNat + w.toNat + 7) / 8 : Nat) : Int) := by
        rw [IntWalk.i64_in (off + w) (by omega), IntWalk.i64_in (off + w + 7) (by omega), Int.tdiv_eq_ediv_of_nonneg (by omega), IntWalk.i64_in _ (by omega)]; omega
      have h8 : ((8 : Int) != 0) = true := by decide
      rw [if_neg (by omega), if_neg (by omega), if_neg (by omega), hw (by omega) (by omega), if_neg (by omega)]
      simp only [h8, cond_true, e1, e2, toNat_cast, Nat.zero_add]
      rw [if_pos ⟨by omega, by omega, by omega, by omega⟩]
    by_cases hz : off.toNat / 8 = 0
    · refine .inl ⟨hz, ?_⟩
      rw [hz] at hM ⊢
      exact fin hM
    · refine .inr ⟨?_, fin hM⟩
      show decRes _ _ _ = _
      rw [hM]
      generalize off.toNat / 8 = fr at hz ⊢
      exact dec_off hz

theorem Q_bGet {b : List Int} (hb : isB b) (off w : Int) (hl : b.length ≤ 1000000) (ho : -9223372036854775808 ≤ off ∧ off ≤ 9223372036854775807) :
    Q_z1b off w b.length b = some ((match getB b off w with | some v => (wN v, (0, ())) | none => (wN 0, (getE off w, ()))), ((b.length, ()), (b, ()))) := by
  obtain ⟨h0, h1⟩ := Q_bWin b off w hl ho
  refine fin ?_
  unfold M_z1b
  cases hg : getB b off w with
  | none =>
    have hn' : ¬ (0 ≤ off ∧ 1 ≤ w ∧ w ≤ 128 ∧ off + w ≤ 8 * (b.length : Int)) := fun k => by unfold getB at hg; rw [if_pos k] at hg; cases hg
    simp only [ok_z1a, q_z1a, h0 hg, RS.get, Option.getD_some, Option.isSome_some, cond_true, cutL_all]
    have e : IntKind.wrap .i64 (off - IntKind.wrap .i64 (8 * (0 : Int))) = off := by
      rw [show IntKind.wrap .i64 (8 * (0 : Int)) = 0 by rfl, IntWalk.i64_in _ (by omega)]; omega
    rw [e]
    have := Q_GetBad (bytesOf b) off w (by rw [bytesOf_size]; omega) ho.2 (by rw [bytesOf_size]; exact hn')
    simp only [ok_z0r, q_z0r, this, RS.get, Option.getD_some, Option.isSome_some, cond_true]
  | some v =>
    have hv' : 0 ≤ off ∧ 1 ≤ w ∧ w ≤ 128 ∧ off + w ≤ 8 * (b.length : Int) := Classical.byContradiction fun k => by unfold getB at hg; rw [if_neg k] at hg; cases hg
    have hvv : bv (bl b) off.toNat w.toNat = v := by unfold getB at hg; rw [if_pos hv'] at hg; exact Option.some.inj hg
    have h1 := h1 v hg
    generalize hf : off.toNat / 8 = fr at h1
    generalize hn : (off.toNat + w.toNat + 7) / 8 - fr = n at h1
    have e : IntKind.wrap .i64 (off - IntKind.wrap .i64 (8 * ((fr : Nat) : Int))) = ((off.toNat - 8 * fr : Nat) : Int) := by
      rw [IntWalk.i64_in (8 * ((fr : Nat) : Int)) (by omega), IntWalk.i64_in _ (by omega)]; omega
    have hwn : w = ((w.toNat : Nat) : Int) := by omega
    have hcut : cutL (0 : Int) b fr n = (b.drop fr).take n := cutL_eq (by omega)
    have hlen : (cutL (0 : Int) b fr n).length = n := cutL_length' _ _ _ _
    have hcB : isB (cutL (0 : Int) b fr n) := fun x hx => by
      rw [hcut] at hx
      exact hb _ (List.mem_of_mem_drop (List.mem_of_mem_take hx))
    have hG := Q_Get (bytesOf (cutL (0 : Int) b fr n)) (off.toNat - 8 * fr) w.toNat (by rw [bytesOf_size, hlen]; omega) (by omega) (by omega) (by omega)
    rw [if_pos (by rw [bytesOf_size, hlen]; omega), ← hwn] at hG
    have hval : getP (byteAt (bytesOf (cutL (0 : Int) b fr n))) (off.toNat - 8 * fr) w.toNat = wN v := by
      have c1 : getP (byteAt (bytesOf (cutL (0 : Int) b fr n))) (off.toNat - 8 * fr) w.toNat = getP (fun i => ((bl (cutL (0 : Int) b fr n) i : Nat) : Int)) (off.toNat - 8 * fr) w.toNat :=
        getP_congr (by omega) fun i hi => by rw [byteAt_bytesOf hcB (by rw [hlen]; omega), bl_cast hcB]
      rw [c1, getP_wN _ (bl_lt hcB) _ _ (by omega) (by omega)]
      congr 1
      rw [← hvv]
      have c2 : bv (bl (cutL (0 : Int) b fr n)) (off.toNat - 8 * fr) w.toNat = bv (fun j => bl b (fr + j)) (off.toNat - 8 * fr) w.toNat :=
        bv_congr _ fun i h1 h2 => bitOf_congr (by
          unfold bl
          rw [hcut, rdd_lt (by rw [List.length_take, List.length_drop]; omega), rdd_lt (by omega)]
          simp)
      rw [c2, bv_shift, show 8 * fr + (off.toNat - 8 * fr) = off.toNat by omega]
    rcases h1 with ⟨z, a1⟩ | ⟨a1, a2⟩
    · subst z
      simp only [ok_z1a, q_z1a, a1, e, ok_z0r, q_z0r, hG, RS.get, Option.getD_some, Option.isSome_some, cond_true, hval]
    · simp only [ok_z1a, ok_z1a_1, q_z1a_1, a1, a2, e, ok_z0r, q_z0r, hG, RS.get, Option.getD_some, Option.isSome_some, Option.isSome_none, cond_true, cond_false, hval]

/-! ### Fields of a packet -/
theorem Q_bit (fr off : Int) (h : 0 ≤ fr ∧ fr ≤ 1000000) (ho : off ≤ 9223372036854775807) : Q_z18 fr off = some ((((if off < 0 then -1 else 8 * fr + min off 147456 : Int)), ()), ()) := by
  refine fin ?_
  unfold M_z18
  simp only [cond_dec]
  by_cases h0 : off < 0
  · rw [if_pos h0, if_pos h0]
  · rw [if_neg h0, if_neg h0]
    have e : (if (147456 : Int) < off then (147456 : Int) else off) = min off 147456 := by
      by_cases h1 : (147456 : Int) < off
      · rw [if_pos h1]; omega
      · rw [if_neg h1]; omega
    rw [e, IntWalk.i64_in (8 * fr) (by omega), IntWalk.i64_in _ (by omega)]

/-- Where a node's header begins. -/
def atOf (hs : List HeadS) (id : Int) : Option Int := (hs.find? fun h => decide (h.1 = id)).map fun h => h.2.1
/-- Where a field is. -/
def whereF (hs : List HeadS) (b mt : List Int) (f : FieldS) : Option (List Int × Int) :=
  if f.2.1 = 1 then some (b, 0) else if f.2.1 = 3 then some (mt, 0) else if f.2.1 = 2 then (atOf hs f.2.2.1).map fun a => (b, a) else none
def bitV (fr off : Int) : Int := if off < 0 then -1 else 8 * fr + min off 147456
/-- A field's number; or why not. -/
def getF (hs : List HeadS) (b mt : List Int) (f : FieldS) : Except Int Nat := match whereF hs b mt f with
  | none => .error 3
  | some (c, a) => match getB c (bitV a f.2.2.2.1) f.2.2.2.2.1 with
    | none => .error 1
    | some v => .ok v

structure PkOk (hs : List HeadS) (b mt : List Int) : Prop where
  bB : isB b
  mB : isB mt
  bl : b.length ≤ 100000
  ml : mt.length ≤ 100000
  hl : hs.length ≤ 1000000
  at_ : ∀ h ∈ hs, 0 ≤ h.2.1 ∧ h.2.1 ≤ 1000000
theorem atOf_ok {hs : List HeadS} {b mt : List Int} (P : PkOk hs b mt) {id a : Int} (h : atOf hs id = some a) : 0 ≤ a ∧ a ≤ 1000000 := by
  unfold atOf at h
  cases hf : hs.find? (fun h => decide (h.1 = id)) with
  | none => rw [hf] at h; cases h
  | some x =>
    rw [hf] at h
    cases h
    exact P.at_ x (List.mem_of_find?_eq_some hf)
/-- The blocks of a packet. -/
abbrev pkS (hs : List HeadS) (pt : Int) (b mt : List Int) : HK.sems rh_z17 := (((), (hs.length, ((), (pt, ())))), ((b.length, ()), (b, (hs, ((mt.length, ()), (mt, ()))))))

theorem L_place (kr : Int → Int → Option Res) (kt : Unit → Option Res) (hs : List HeadS) (hl : hs.length ≤ 1000000) (f : FieldS) : ∀ (m i : Nat), i ≤ hs.length → hs.length - i < m →
    L_z17_1 FUEL kr kt hs.length (hs.length : Int) hs f m (i : Int) = (match atOf (hs.drop i) f.2.2.1 with | some a => kr a 0 | none => kt ())
  | 0, _, _, h => by omega
  | m + 1, i, hi, hm => by
    show F_z17_1 FUEL kr kt hs.length (hs.length : Int) hs f (L_z17_1 FUEL kr kt hs.length (hs.length : Int) hs f m) (i : Int) = _
    unfold F_z17_1
    simp only [cond_dec]
    by_cases h : i < hs.length
    · rw [if_pos (by omega), if_pos ⟨by omega, by omega⟩]
      simp only [toNat_cast, int_beq, cond_dec]
      rw [drop_rdd zHeadS h]
      unfold atOf
      rw [List.find?_cons]
      by_cases e : (rdd zHeadS hs i).1 = f.2.2.1
      · rw [if_pos e, decide_eq_true e]; rfl
      · rw [if_neg e, decide_eq_false e, i64_succ (by omega), L_place kr kt hs hl f m (i + 1) (by omega) (by omega)]
        rfl
    · rw [if_neg (by omega), List.drop_of_length_le (by omega)]
      rfl

theorem dec_p0 {y z : Int} {x : HK.sems rh_z17} : decRes ro_z17 rh_z17 (some (encRes ro_z17_1 rh_z17_1 (((), (y, (z, ()))), x))) = none := rfl
theorem dec_p1 {y z : Int} {x : HK.sems rh_z17} : decRes ro_z17 rh_z17 (some (encRes ro_z17_2 rh_z17_2 (((), (y, (z, ()))), x))) = none := rfl
theorem dec_p2 {y z : Int} {x : HK.sems rh_z17} : decRes ro_z17_1 rh_z17_1 (some (encRes ro_z17_2 rh_z17_2 (((), (y, (z, ()))), x))) = none := rfl

theorem Q_pGet {hs : List HeadS} {b mt : List Int} (P : PkOk hs b mt) (pt : Int) (f : FieldS) (hf : FieldT.good f) :
    Q_z1c f hs.length pt b.length b hs mt.length mt = some ((match getF hs b mt f with | .ok v => (wN v, (0, ())) | .error r => (wN 0, (r, ()))), pkS hs pt b mt) := by
  obtain ⟨h1, h2, h3, h4, h5, _⟩ := hf
  have r4 := wf_i64 h4
  have hM : M_z17 FUEL f hs.length pt b.length b hs mt.length mt = if f.2.1 = 3 then some (encRes ro_z17_1 rh_z17_1 (((), (0, (0, ()))), pkS hs pt b mt))
      else (match whereF hs b mt f with | some (c, a) => some (encRes ro_z17 rh_z17 (((), (a, (0, ()))), pkS hs pt b mt)) | none => some (encRes ro_z17_2 rh_z17_2 (((), (0, (3, ()))), pkS hs pt b mt))) := by
    unfold M_z17 whereF
    simp only [int_beq, cond_dec]
    by_cases c1 : f.2.1 = 1
    · rw [if_pos c1, if_pos c1, if_neg (by omega)]
    rw [if_neg c1, if_neg c1]
    by_cases c3 : f.2.1 = 3
    · rw [if_pos c3, if_pos c3]
    rw [if_neg c3, if_neg c3, if_neg c3]
    by_cases c2 : f.2.1 = 2
    · rw [if_pos c2, if_pos c2]
      refine Eq.trans (L_place _ _ hs P.hl f FUEL 0 (by omega) (by have := P.hl; unfold FUEL; omega)) ?_
      rw [List.drop_zero]
      cases atOf hs f.2.2.1 <;> rfl
    · rw [if_neg c2, if_neg c2]
  have hbit : ∀ a, 0 ≤ a ∧ a ≤ 1000000 → Q_z18 a f.2.2.2.1 = some ((bitV a f.2.2.2.1, ()), ()) := fun a ha => Q_bit a _ ha r4.2
  have rbit : ∀ a, 0 ≤ a ∧ a ≤ 1000000 → -9223372036854775808 ≤ bitV a f.2.2.2.1 ∧ bitV a f.2.2.2.1 ≤ 9223372036854775807 := fun a ha => by unfold bitV; split <;> omega
  have ne := getE_ne
  refine fin ?_
  unfold M_z1c getF
  by_cases c3 : f.2.1 = 3
  · rw [if_pos c3] at hM
    have w3 : whereF hs b mt f = some (mt, 0) := by unfold whereF; rw [if_neg (by omega), if_pos c3]
    have q0 : Q_z17 f hs.length pt b.length b hs mt.length mt = none := by unfold Q_z17; rw [hM]; exact dec_p0
    have q1 : Q_z17_1 f hs.length pt b.length b hs mt.length mt = some (((), (0, (0, ()))), pkS hs pt b mt) := fin hM
    simp only [ok_z17, ok_z17_1, q_z17_1, q0, q1, RS.get, Option.getD_some, Option.isSome_some, Option.isSome_none, cond_true, cond_false, w3]
    simp only [int_bne, decide_true, Bool.not_true, cond_false, ok_z18, q_z18, hbit 0 (by omega), ok_z1b, q_z1b, Q_bGet P.mB (bitV 0 f.2.2.2.1) f.2.2.2.2.1 (by have := P.ml; omega) (rbit 0 (by omega)), RS.get, Option.getD_some, Option.isSome_some, cond_true]
    cases getB mt (bitV 0 f.2.2.2.1) f.2.2.2.2.1 with
    | none => simp only [decide_eq_false (ne _ _), Bool.not_false, cond_true]; rfl
    | some v => simp only [decide_true, Bool.not_true, cond_false]
  rw [if_neg c3] at hM
  cases hw : whereF hs b mt f with
  | none =>
    rw [hw] at hM
    have q0 : Q_z17 f hs.length pt b.length b hs mt.length mt = none := by unfold Q_z17; rw [hM]; exact dec_p1
    have q1 : Q_z17_1 f hs.length pt b.length b hs mt.length mt = none := by unfold Q_z17_1; rw [hM]; exact dec_p2
    have q2 : Q_z17_2 f hs.length pt b.length b hs mt.length mt = some (((), (0, (3, ()))), pkS hs pt b mt) := fin hM
    simp only [ok_z17, ok_z17_1, ok_z17_2, q_z17_2, q0, q1, q2, RS.get, Option.getD_some, Option.isSome_some, Option.isSome_none, cond_true, cond_false]
    rfl
  | some ca =>
    obtain ⟨c, a⟩ := ca
    rw [hw] at hM
    have hca : c = b ∧ 0 ≤ a ∧ a ≤ 1000000 := by
      unfold whereF at hw
      by_cases c1 : f.2.1 = 1
      · rw [if_pos c1] at hw; cases hw; exact ⟨rfl, by omega, by omega⟩
      rw [if_neg c1, if_neg c3] at hw
      by_cases c2 : f.2.1 = 2
      · rw [if_pos c2] at hw
        cases ha : atOf hs f.2.2.1 with
        | none => rw [ha] at hw; cases hw
        | some x => rw [ha] at hw; cases hw; exact ⟨rfl, atOf_ok P ha⟩
      · rw [if_neg c2] at hw; cases hw
    obtain ⟨rfl, ha⟩ := hca
    have q0 : Q_z17 f hs.length pt c.length c hs mt.length mt = some (((), (a, (0, ()))), pkS hs pt c mt) := fin hM
    simp only [ok_z17, q_z17, q0, RS.get, Option.getD_some, Option.isSome_some, cond_true]
    simp only [int_bne, decide_true, Bool.not_true, cond_false, ok_z18, q_z18, hbit a ha, ok_z1b, q_z1b, Q_bGet P.bB (bitV a f.2.2.2.1) f.2.2.2.2.1 (by have := P.bl; omega) (rbit a ha), RS.get, Option.getD_some, Option.isSome_some, cond_true]
    cases getB c (bitV a f.2.2.2.1) f.2.2.2.2.1 with
    | none => simp only [decide_eq_false (ne _ _), Bool.not_false, cond_true]; rfl
    | some v => simp only [decide_true, Bool.not_true, cond_false]
end Go.AMach

/- Hashes: a byte taken in, and a number mixed, are told from another. -/
namespace Go.AMach
set_option linter.unusedVariables false
set_option linter.unusedSimpArgs false
set_option linter.unnecessarySimpa false
open Go
set_option linter.unusedVariables false

abbrev M32 : Nat := 4294967296
theorem wrapu32 (n : Nat) : IntKind.wrap .u32 (n : Int) = ((n % 4294967296 : Nat) : Int) := by
  simp [IntKind.wrap, IntKind.bits, IntKind.signed]
theorem ofIntNat32 (a : Nat) (h : a < 4294967296) : (BitVec.ofInt 32 (a : Int)).toNat = a := by
  simp; omega
theorem xor32 (a b : Nat) (ha : a < 4294967296) (hb : b < 4294967296) :
    IntKind.wrap .u32 ((BitVec.toNat (BitVec.ofInt (IntKind.bits .u32) (a : Int) ^^^ BitVec.ofInt (IntKind.bits .u32) (b : Int)) : Nat) : Int) = ((a ^^^ b : Nat) : Int) := by
  have : BitVec.toNat (BitVec.ofInt (IntKind.bits .u32) (a : Int) ^^^ BitVec.ofInt (IntKind.bits .u32) (b : Int)) = a ^^^ b := by
    show BitVec.toNat (BitVec.ofInt 32 (a : Int) ^^^ BitVec.ofInt 32 (b : Int)) = _
    rw [BitVec.toNat_xor, ofIntNat32 a ha, ofIntNat32 b hb]
  rw [this, wrapu32, Nat.mod_eq_of_lt (Nat.xor_lt_two_pow (n := 32) ha hb)]
theorem xor_cancel {a b c : Nat} (h : a ^^^ c = b ^^^ c) : a = b := by
  have := congrArg (· ^^^ c) h
  simpa [Nat.xor_assoc] using this
theorem xor_shift_inj (k : Nat) (hk : 0 < k) : ∀ (n a b : Nat), a ≤ n → a ^^^ (a / 2 ^ k) = b ^^^ (b / 2 ^ k) → a = b
  | 0, a, b, h, e => by
    have : a = 0 := by omega
    subst this
    rw [Nat.zero_div, Nat.xor_zero] at e
    -- b ^ b / 2^k = 0
    have : b = b / 2 ^ k := by
      have := congrArg (· ^^^ (b / 2 ^ k)) e
      simpa [Nat.xor_assoc] using this.symm
    have h2 : 2 ≤ 2 ^ k := Nat.le_trans (by decide : 2 ≤ 2 ^ 1) (Nat.pow_le_pow_right (by decide) hk)
    by_cases hb : b = 0
    · exact hb.symm
    · have := Nat.div_lt_self (by omega : 0 < b) (by omega : 1 < 2 ^ k); omega
  | n + 1, a, b, h, e => by
    have e2 : a / 2 ^ k ^^^ (a / 2 ^ k / 2 ^ k) = b / 2 ^ k ^^^ (b / 2 ^ k / 2 ^ k) := by
      have := congrArg (· / 2 ^ k) e
      simpa [Nat.xor_div_two_pow] using this
    by_cases ha : a = 0
    · exact xor_shift_inj k hk 0 a b (by omega) e
    · have h2 : 2 ≤ 2 ^ k := Nat.le_trans (by decide : 2 ≤ 2 ^ 1) (Nat.pow_le_pow_right (by decide) hk)
      have hlt := Nat.div_lt_self (by omega : 0 < a) (by omega : 1 < 2 ^ k)
      have := xor_shift_inj k hk n (a / 2 ^ k) (b / 2 ^ k) (by omega) e2
      rw [this] at e
      exact xor_cancel e
theorem mul_inj32 {a b c d : Nat} (hcd : c * d % 4294967296 = 1) (ha : a < 4294967296) (hb : b < 4294967296) (h : a * c % 4294967296 = b * c % 4294967296) : a = b := by
  have k : ∀ x, x < 4294967296 → x * c % 4294967296 * d % 4294967296 = x := fun x hx => by
    rw [Nat.mod_mul_mod, Nat.mul_assoc, Nat.mul_mod, hcd, Nat.mul_one, Nat.mod_mod, Nat.mod_eq_of_lt hx]
  rw [← k a ha, h, k b hb]

/-! -: FNV -/
def fnv (h b : Nat) : Nat := (h ^^^ b) * 16777619 % 4294967296
theorem fnv_lt (h b : Nat) : fnv h b < 4294967296 := Nat.mod_lt _ (by decide)
theorem fnv_inj {h g b : Nat} (hh : h < 4294967296) (hg : g < 4294967296) (hb : b < 4294967296) (e : fnv h b = fnv g b) : h = g :=
  xor_cancel (mul_inj32 (d := 899433627) (by decide) (Nat.xor_lt_two_pow (n := 32) hh hb) (Nat.xor_lt_two_pow (n := 32) hg hb) e)
theorem fnv_inj2 {h b c : Nat} (hh : h < 4294967296) (hb : b < 4294967296) (hc : c < 4294967296) (e : fnv h b = fnv h c) : b = c := by
  have := mul_inj32 (d := 899433627) (by decide) (Nat.xor_lt_two_pow (n := 32) hh hb) (Nat.xor_lt_two_pow (n := 32) hh hc) e
  rw [Nat.xor_comm h b, Nat.xor_comm h c] at this
  exact xor_cancel this
def fnvL (h : Nat) (l : List Nat) : Nat := l.foldl fnv h
theorem fnvL_lt : ∀ (l : List Nat) (h : Nat), h < 4294967296 → fnvL h l < 4294967296
  | [], h, hh => hh
  | b :: r, h, hh => fnvL_lt r _ (fnv_lt h b)
def nats (s : ByteArray) : List Nat := s.data.toList.map fun b => b.toNat
theorem nats_length (s : ByteArray) : (nats s).length = s.size := by simp [nats]
theorem nats_lt (s : ByteArray) {b : Nat} (h : b ∈ nats s) : b < 256 := by
  unfold nats at h
  simp only [List.mem_map] at h
  obtain ⟨x, _, rfl⟩ := h
  exact UInt8.toNat_lt x
theorem nats_inj {s t : ByteArray} (h : nats s = nats t) : s = t := by
  apply ba_ext'
  unfold nats at h
  exact (List.map_inj_right (fun x y e => UInt8.toNat_inj.1 e)).1 h
theorem byteAt_nats (s : ByteArray) {i : Nat} (h : i < s.size) : byteAt s i = (((nats s).getD i 0 : Nat) : Int) := by
  unfold byteAt nats
  rw [List.getD_eq_getElem?_getD, List.getD_eq_getElem?_getD, List.getElem?_map, List.getElem?_eq_getElem (by simpa using h)]
  rfl

def fnv0 : Nat := 2166136261
/-- A number, mixed. -/
def xsh (k a : Nat) : Nat := a ^^^ (a / 2 ^ k)
def mixV (h : Nat) : Nat := xsh 16 (xsh 13 (xsh 16 h * 2246822507 % 4294967296) * 3266489909 % 4294967296)
theorem xsh_lt {k a : Nat} (h : a < 4294967296) : xsh k a < 4294967296 := Nat.xor_lt_two_pow (n := 32) h (Nat.lt_of_le_of_lt (Nat.div_le_self _ _) h)
theorem xsh_inj {k a b : Nat} (hk : 0 < k) (h : xsh k a = xsh k b) : a = b := xor_shift_inj k hk a a b (Nat.le_refl _) h
theorem mixV_inj {a b : Nat} (ha : a < 4294967296) (hb : b < 4294967296) (h : mixV a = mixV b) : a = b := by
  have h1 := xsh_inj (by decide) h
  have h2 := mul_inj32 (d := 2127672349) (by decide) (xsh_lt (Nat.mod_lt _ (by decide))) (xsh_lt (Nat.mod_lt _ (by decide))) h1
  have h3 := xsh_inj (by decide) h2
  have h4 := mul_inj32 (d := 2781581891) (by decide) (xsh_lt ha) (xsh_lt hb) h3
  exact xsh_inj (by decide) h4
/-! ### One byte changed -/
/-- At how many places do lists differ? -/
def diffs : List Nat → List Nat → Nat
  | a :: r, b :: s => (if a = b then 0 else 1) + diffs r s
  | _, _ => 0
theorem diffs_zero : ∀ {l m : List Nat}, l.length = m.length → diffs l m = 0 → l = m
  | [], [], _, _ => rfl
  | [], _ :: _, h, _ => by simp at h
  | _ :: _, [], h, _ => by simp at h
  | a :: r, b :: s, h, e => by
    simp only [diffs] at e
    split at e
    · rename_i hab
      have hrs : r = s := diffs_zero (by simpa using h) (by omega)
      rw [hab, hrs]
    · omega
theorem fnvL_ne (l : List Nat) (hl : ∀ b ∈ l, b < 256) : ∀ {h g : Nat}, h < 4294967296 → g < 4294967296 → h ≠ g → fnvL h l ≠ fnvL g l := by
  induction l with
  | nil => exact fun _ _ hne => hne
  | cons b r ih =>
    intro h g hh hg hne
    have hb := hl b List.mem_cons_self
    exact ih (fun x hx => hl x (List.mem_cons_of_mem _ hx)) (fnv_lt _ _) (fnv_lt _ _) fun e => hne (fnv_inj hh hg (by omega) e)
theorem fnvL_one : ∀ {l m : List Nat}, (∀ b ∈ l, b < 256) → (∀ b ∈ m, b < 256) → l.length = m.length → diffs l m = 1 → ∀ {h : Nat}, h < 4294967296 → fnvL h l ≠ fnvL h m
  | [], _, _, _, _, h, _, _ => by simp [diffs] at h
  | _ :: _, [], _, _, h, _, _, _ => by simp at h
  | a :: r, b :: s, hl, hm, h, e, g, hg => by
    have ha := hl a List.mem_cons_self
    have hb := hm b List.mem_cons_self
    simp only [diffs] at e
    split at e
    · rename_i hab
      subst hab
      exact fnvL_one (fun x hx => hl x (List.mem_cons_of_mem _ hx)) (fun x hx => hm x (List.mem_cons_of_mem _ hx)) (by simpa using h) (by omega) (fnv_lt _ _)
    · rename_i hab
      have hrs := diffs_zero (by simpa using h) (show diffs r s = 0 by omega)
      subst hrs
      exact fnvL_ne r (fun x hx => hl x (List.mem_cons_of_mem _ hx)) (fnv_lt _ _) (fnv_lt _ _) fun e => hab (fnv_inj2 hg (by omega) (by omega) e)
/-- The number of a text. -/
def numT (s : ByteArray) : Nat := mixV (fnvL fnv0 (nats s))
theorem numT_ne {s t : ByteArray} (h : s.size = t.size) (e : diffs (nats s) (nats t) = 1) : numT s ≠ numT t := fun k =>
  fnvL_one (fun b hb => nats_lt s hb) (fun b hb => nats_lt t hb) (by rw [nats_length, nats_length, h]) e (show fnv0 < 4294967296 by decide)
    (mixV_inj (fnvL_lt _ _ (by decide)) (fnvL_lt _ _ (by decide)) k)
end Go.AMach

/- Keys of a packet. -/
namespace Go.AMach
set_option linter.unusedVariables false
set_option linter.unusedSimpArgs false
set_option linter.unnecessarySimpa false
open Go
set_option linter.unusedVariables false

theorem sizeV_at {x : NodeS} {s : ByteArray} {a : Int} (h : (sizeV x s a).2 = 0) : 0 ≤ a ∧ a ≤ (s.size : Int) := by
  unfold sizeV at h
  by_cases h1 : ¬ mayL x
  · rw [if_pos h1] at h; simp at h
  rw [if_neg h1] at h
  by_cases h2 : x.2.2.2.1 > 0
  · rw [if_pos h2] at h
    split at h
    · simp at h
    · have := finV_fine h; omega
  · rw [if_neg h2] at h
    have := finV_fine h; omega
theorem W_at (l : List NodeS) (s : ByteArray) : ∀ (f : Nat) (at_ : Int) (x : NodeS), ∀ h ∈ (W l s f at_ x).1, 0 ≤ h.2.1 ∧ h.2.1 ≤ (s.size : Int)
  | 0, at_, x => by simp [W]
  | f + 1, at_, x => by
    simp only [W]
    by_cases c1 : (sizeV x s at_).2 ≠ 0
    · rw [if_pos c1]; simp
    rw [if_neg c1]
    have ha := sizeV_at (Classical.byContradiction fun k => c1 k)
    by_cases c2 : (nextV l x s at_).2 ≠ 0
    · rw [if_pos c2]; simpa using ha
    rw [if_neg c2]
    split
    · simpa using ha
    · rename_i y _
      intro h hh
      rcases List.mem_cons.1 hh with rfl | hh
      · exact ha
      · exact W_at l s f _ y h hh
theorem walkV_at (l : List NodeS) (s : ByteArray) : ∀ h ∈ (walkV l s).1, 0 ≤ h.2.1 ∧ h.2.1 ≤ (s.size : Int) := by
  unfold walkV
  split
  · split
    · exact W_at l s 64 0 _
    · simp
  · simp

/-! ### The bytes of a packet's fields -/
theorem getB_some {b : List Int} {off w : Int} {v : Nat} (h : getB b off w = some v) : 1 ≤ w ∧ w ≤ 128 ∧ v < 2 ^ w.toNat ∧ v < 340282366920938463463374607431768211456 := by
  unfold getB at h
  split at h
  · rename_i k
    cases h
    exact ⟨k.2.1, k.2.2.1, bv_lt _ _ _, bv128 _ _ (by omega)⟩
  · cases h
theorem getF_ok {hs : List HeadS} {b mt : List Int} {f : FieldS} {v : Nat} (h : getF hs b mt f = .ok v) : 1 ≤ f.2.2.2.2.1 ∧ f.2.2.2.2.1 ≤ 128 ∧ v < 2 ^ f.2.2.2.2.1.toNat ∧ v < 340282366920938463463374607431768211456 := by
  unfold getF at h
  split at h
  · cases h
  · split at h
    · cases h
    · rename_i v' hv
      cases h
      exact getB_some hv
theorem getF_err {hs : List HeadS} {b mt : List Int} {f : FieldS} {r : Int} (h : getF hs b mt f = .error r) : r = 1 ∨ r = 3 := by
  unfold getF at h
  split at h
  · cases h; exact .inr rfl
  · split at h
    · cases h; exact .inl rfl
    · cases h
theorem nB_pos {w : Int} (h : 1 ≤ w ∧ w ≤ 128) : nB w ≠ 0 := by unfold nB; rw [if_neg (by omega)]; omega

def keyT (hs : List HeadS) (b mt : List Int) (f : FieldS) : Except Int ByteArray := match getF hs b mt f with
  | .ok v => .ok (textV v f.2.2.2.2.1)
  | .error r => .error r
/-- A key. -/
def keyL (hs : List HeadS) (b mt : List Int) : List FieldS → Except Int ByteArray
  | [] => .ok ByteArray.empty
  | f :: r => match keyT hs b mt f with
    | .error e => .error e
    | .ok s => match keyL hs b mt r with
      | .error e => .error e
      | .ok t => .ok (s ++ t)
abbrev exS (x : Except Int ByteArray) : ByteArray × (Int × Unit) := match x with
  | .ok s => (s, (0, ()))
  | .error e => (ByteArray.empty, (e, ()))

theorem keyL_size {hs : List HeadS} {b mt : List Int} : ∀ {l : List FieldS} {s : ByteArray}, keyL hs b mt l = .ok s → s.size ≤ 16 * l.length
  | [], s, h => by cases h; exact Nat.le_refl 0
  | f :: r, s, h => by
    simp only [keyL] at h
    cases h1 : keyT hs b mt f with
    | error e => rw [h1] at h; cases h
    | ok x =>
      rw [h1] at h
      cases h2 : keyL hs b mt r with
      | error e => rw [h2] at h; cases h
      | ok t =>
        rw [h2] at h
        cases h
        have := keyL_size h2
        have hx : x.size ≤ 16 := by
          unfold keyT at h1
          split at h1
          · rename_i v hv
            cases h1
            rw [textV_size]; have := getF_ok hv; unfold nB; rw [if_neg (by omega)]; omega
          · cases h1
        rw [ByteArray.size_append, List.length_cons]; omega

theorem ofL_key {hs : List HeadS} {b mt : List Int} (P : PkOk hs b mt) (pt : Int) (T : FieldS → HK.sems rh_z17 → Option ((ByteArray × (Int × Unit)) × HK.sems rh_z17))
    (hT : ∀ f, FieldT.good f → T f (pkS hs pt b mt) = some (exS (keyT hs b mt f), pkS hs pt b mt)) : ∀ (l : List FieldS) (acc : ByteArray), (∀ f ∈ l, FieldT.good f) → acc.size + 16 * l.length ≤ 100000000 →
      ofL T l (pkS hs pt b mt) acc = some ((match keyL hs b mt l with | .ok s => (acc ++ s, (0, ())) | .error e => (ByteArray.empty, (e, ()))), pkS hs pt b mt)
  | [], acc, _, _ => by
    simp only [ofL, keyL]
    rw [show acc ++ ByteArray.empty = acc by apply ba_ext'; simp]
  | f :: r, acc, hg, hs' => by
    rw [List.length_cons] at hs'
    simp only [ofL, keyL, hT f (hg f List.mem_cons_self)]
    cases h1 : keyT hs b mt f with
    | error e =>
      have hne : e ≠ 0 := by
        unfold keyT at h1
        split at h1
        · cases h1
        · rename_i r' hr
          cases h1
          have := getF_err hr; omega
      simp only [exS, if_neg hne]
    | ok x =>
      have hx : x.size ≤ 16 := by
        have := keyL_size (hs := hs) (b := b) (mt := mt) (l := [f]) (s := x) (by simp only [keyL, h1]; congr 1; apply ba_ext'; simp)
        simpa using this
      simp only [exS, if_true]
      rw [if_pos (by omega), ofL_key P pt T hT r (acc ++ x) (fun y hy => hg y (List.mem_cons_of_mem _ hy)) (by rw [ByteArray.size_append]; omega)]
      cases keyL hs b mt r with
      | error e => rfl
      | ok t =>
        simp only []
        rw [show acc ++ x ++ t = acc ++ (x ++ t) by apply ba_ext'; simp]

def numX (x : Except Int ByteArray) : Int × (Int × Unit) := match x with
  | .ok s => (((numT s : Nat) : Int), (0, ()))
  | .error e => (0, (e, ()))
theorem keyL_one (hs : List HeadS) (b mt : List Int) (f : FieldS) : keyL hs b mt [f] = keyT hs b mt f := by
  simp only [keyL]
  cases keyT hs b mt f with
  | error e => rfl
  | ok s => simp only []; congr 1; apply ba_ext'; simp
theorem keyL_append (hs : List HeadS) (b mt : List Int) : ∀ (l m : List FieldS), keyL hs b mt (l ++ m) = match keyL hs b mt l with
    | .error e => .error e
    | .ok s => match keyL hs b mt m with
      | .error e => .error e
      | .ok t => .ok (s ++ t)
  | [], m => by
    simp only [List.nil_append, keyL]
    cases keyL hs b mt m with
    | error e => rfl
    | ok t => simp only []; congr 1
  | f :: r, m => by
    simp only [List.cons_append, keyL, keyL_append hs b mt r m]
    cases keyT hs b mt f with
    | error e => rfl
    | ok s =>
      cases keyL hs b mt r with
      | error e => rfl
      | ok t =>
        cases keyL hs b mt m with
        | error e => rfl
        | ok u => simp only []; congr 1; apply ba_ext'; simp
end Go.AMach

/- A number put into bytes; into a packet. -/
namespace Go.AMach
set_option linter.unusedVariables false
set_option linter.unusedSimpArgs false
set_option linter.unnecessarySimpa false
open Go
set_option linter.unusedVariables false

/-! ### Bits of bytes -/
/-- The number of some bits. -/
def bvG (g : Nat → Nat) (off : Nat) : Nat → Nat
  | 0 => 0
  | w + 1 => 2 * bvG g off w + g (off + w)
theorem bv_bvG (bf : Nat → Nat) (off : Nat) : ∀ w, bv bf off w = bvG (bitOf bf) off w
  | 0 => rfl
  | w + 1 => by simp only [bv, bvG, bv_bvG bf off w]
theorem bvG_congr {g g' : Nat → Nat} {off : Nat} : ∀ w, (∀ i, off ≤ i → i < off + w → g i = g' i) → bvG g off w = bvG g' off w
  | 0, _ => rfl
  | w + 1, h => by
    simp only [bvG]
    rw [bvG_congr w fun i h1 h2 => h i h1 (by omega), h (off + w) (by omega) (by omega)]
theorem bl_bvG {b : List Int} (hb : isB b) (i : Nat) : bl b i = bvG (bitOf (bl b)) (8 * i) 8 := by
  rw [← bv_bvG, bv_byte _ _ _ (by omega), Nat.sub_self, Nat.pow_zero, Nat.div_one, Nat.mod_eq_of_lt (bl_lt hb i)]
theorem bitOf_lt (bf : Nat → Nat) (i : Nat) : bitOf bf i < 2 := Nat.mod_lt _ (by decide)
/-- Bytes are told by their bits. -/
theorem bytes_ext {a b : List Int} (ha : isB a) (hb : isB b) (hl : a.length = b.length) (h : ∀ p, p < 8 * a.length → bitOf (bl a) p = bitOf (bl b) p) : a = b := by
  apply List.ext_getElem hl
  intro i h1 h2
  have e : bl a i = bl b i := by
    rw [bl_bvG ha, bl_bvG hb]
    exact bvG_congr 8 fun p q1 q2 => h p (by omega)
  have ea := bl_cast ha i
  have eb := bl_cast hb i
  rw [rdd_lt h1] at ea
  rw [rdd_lt h2] at eb
  rw [← ea, ← eb, e]

/-- Some of the bits are a number's. -/
def putBit (b : List Int) (off w v : Nat) (p : Nat) : Nat := if off ≤ p ∧ p < off + w then v / 2 ^ (off + w - 1 - p) % 2 else bitOf (bl b) p
def putN (b : List Int) (off w v : Nat) : List Int := mkL b.length fun i => ((bvG (putBit b off w v) (8 * i) 8 : Nat) : Int)
theorem bvG_lt {g : Nat → Nat} {off : Nat} (hg : ∀ i, g i < 2) : ∀ w, bvG g off w < 2 ^ w
  | 0 => by simp [bvG]
  | w + 1 => by
    have := bvG_lt (off := off) hg w
    have := hg (off + w)
    simp only [bvG, Nat.pow_succ]; omega
theorem putBit_lt (b : List Int) (off w v p : Nat) : putBit b off w v p < 2 := by
  unfold putBit
  split
  · exact Nat.mod_lt _ (by decide)
  · exact bitOf_lt _ _
theorem putN_length (b : List Int) (off w v : Nat) : (putN b off w v).length = b.length := mkL_length _ _
theorem putN_isB (b : List Int) (off w v : Nat) : isB (putN b off w v) := fun x hx => by
  unfold putN mkL at hx
  simp only [List.mem_map] at hx
  obtain ⟨i, _, rfl⟩ := hx
  have := bvG_lt (off := 8 * i) (putBit_lt b off w v) 8
  omega
theorem bvG8_bit {g : Nat → Nat} (hg : ∀ i, g i < 2) (o : Nat) {k : Nat} (hk : k < 8) : bvG g o 8 / 2 ^ (7 - k) % 2 = g (o + k) := by
  have h0 := hg (o + 0); have h1 := hg (o + 1); have h2 := hg (o + 2); have h3 := hg (o + 3)
  have h4 := hg (o + 4); have h5 := hg (o + 5); have h6 := hg (o + 6); have h7 := hg (o + 7)
  have e : bvG g o 8 = 128 * g (o + 0) + 64 * g (o + 1) + 32 * g (o + 2) + 16 * g (o + 3) + 8 * g (o + 4) + 4 * g (o + 5) + 2 * g (o + 6) + g (o + 7) := by
    simp only [bvG]; omega
  rw [e]
  match k, hk with
  | 0, _ => show _ / 128 % 2 = _; omega
  | 1, _ => show _ / 64 % 2 = _; omega
  | 2, _ => show _ / 32 % 2 = _; omega
  | 3, _ => show _ / 16 % 2 = _; omega
  | 4, _ => show _ / 8 % 2 = _; omega
  | 5, _ => show _ / 4 % 2 = _; omega
  | 6, _ => show _ / 2 % 2 = _; omega
  | 7, _ => show _ / 1 % 2 = _; omega
theorem putN_bit (b : List Int) (off w v p : Nat) (hp : p < 8 * b.length) : bitOf (bl (putN b off w v)) p = putBit b off w v p := by
  have e : bl (putN b off w v) (p / 8) = bvG (putBit b off w v) (8 * (p / 8)) 8 := by
    unfold bl putN rdd
    rw [List.getD_eq_getElem?_getD, mkL_get (by omega)]
    simp
  unfold bitOf
  rw [e, bvG8_bit (putBit_lt b off w v) _ (Nat.mod_lt p (by decide))]
  congr 1; omega
/-- What is put is there. -/
theorem bvG_val (v off w : Nat) (g : Nat → Nat) (hg : ∀ p, off ≤ p → p < off + w → g p = v / 2 ^ (off + w - 1 - p) % 2) : ∀ k, k ≤ w → bvG g off k = v / 2 ^ (w - k) % 2 ^ k
  | 0, _ => by simp [bvG, Nat.mod_one]
  | k + 1, h => by
    simp only [bvG]
    rw [bvG_val v off w g hg k (by omega), hg (off + k) (by omega) (by omega), show off + w - 1 - (off + k) = w - (k + 1) by omega]
    have e1 : v / 2 ^ (w - k) = v / 2 ^ (w - (k + 1)) / 2 := by rw [Nat.div_div_eq_div_mul, ← Nat.pow_succ]; congr 2; omega
    rw [e1, Nat.pow_succ, Nat.mul_comm (2 ^ k) 2, Nat.mod_mul]; omega
theorem getB_put {b : List Int} {off w : Nat} (v : Nat) (h : off + w ≤ 8 * b.length) (h1 : 1 ≤ w) (h2 : w ≤ 128) : getB (putN b off w v) (off : Int) (w : Int) = some (v % 2 ^ w) := by
  unfold getB
  rw [putN_length, if_pos ⟨by omega, by omega, by omega, by omega⟩, toNat_cast, toNat_cast, bv_bvG]
  congr 1
  rw [bvG_val v off w _ (fun p q1 q2 => by rw [putN_bit b off w v p (by omega)]; unfold putBit; rw [if_pos ⟨q1, q2⟩]) w (Nat.le_refl _), Nat.sub_self, Nat.pow_zero, Nat.div_one]

/-! ### One bit -/
def orV (x : Int) (s : Nat) : Int := IntKind.wrap .u8 ((BitVec.toNat (BitVec.ofInt (IntKind.bits .u8) x ||| BitVec.ofInt (IntKind.bits .u8) (IntKind.wrap .u8 ((1 : Int) * 2 ^ (min s (IntKind.bits .u8))))) : Nat) : Int)
def clrV (x : Int) (s : Nat) : Int := IntKind.wrap .u8 ((BitVec.toNat (BitVec.ofInt (IntKind.bits .u8) x &&& ~~~(BitVec.ofInt (IntKind.bits .u8) (IntKind.wrap .u8 ((1 : Int) * 2 ^ (min s (IntKind.bits .u8)))))) : Nat) : Int)
def bitsOk (x s : Nat) : Bool :=
  decide (0 ≤ orV (x : Int) s) && decide (orV (x : Int) s ≤ 255) && decide (0 ≤ clrV (x : Int) s) && decide (clrV (x : Int) s ≤ 255) &&
  (List.range 8).all fun t => ((orV (x : Int) s).toNat / 2 ^ t % 2 == if t = s then 1 else x / 2 ^ t % 2) && ((clrV (x : Int) s).toNat / 2 ^ t % 2 == if t = s then 0 else x / 2 ^ t % 2)
theorem bits_all : ((List.range 256).all fun x => (List.range 8).all fun s => bitsOk x s) = true := by kernel_rfl
theorem bits_ok {x s : Nat} (hx : x < 256) (hs : s < 8) : bitsOk x s = true := by
  have h := List.all_eq_true.1 bits_all x (List.mem_range.2 hx)
  exact List.all_eq_true.1 h s (List.mem_range.2 hs)
/-- A bit set, or cleared. -/
def setV (x : Int) (s bit : Nat) : Int := if bit = 1 then orV x s else clrV x s
theorem setV_ok {x : Int} {s bit : Nat} (hx : 0 ≤ x ∧ x ≤ 255) (hs : s < 8) (hb : bit < 2) : (0 ≤ setV x s bit ∧ setV x s bit ≤ 255) ∧ ∀ t, t < 8 → (setV x s bit).toNat / 2 ^ t % 2 = if t = s then bit else x.toNat / 2 ^ t % 2 := by
  have h := bits_ok (x := x.toNat) (s := s) (by omega) hs
  unfold bitsOk at h
  rw [show ((x.toNat : Nat) : Int) = x by omega] at h
  simp only [Bool.and_eq_true, decide_eq_true_eq, List.all_eq_true, List.mem_range, beq_iff_eq] at h
  obtain ⟨⟨⟨⟨a1, a2⟩, a3⟩, a4⟩, a5⟩ := h
  unfold setV
  by_cases e : bit = 1
  · simp only [if_pos e]
    exact ⟨⟨a1, a2⟩, fun t ht => by rw [(a5 t ht).1, e]⟩
  · simp only [if_neg e]
    exact ⟨⟨a3, a4⟩, fun t ht => by rw [(a5 t ht).2, show bit = 0 by omega]⟩
theorem set_isB {l : List Int} (h : isB l) {i : Nat} {x : Int} (hx : 0 ≤ x ∧ x ≤ 255) : isB (l.set i x) := fun y hy => by
  rcases List.mem_or_eq_of_mem_set hy with h' | h'
  · exact h y h'
  · rw [h']; exact hx
theorem set_bit {l : List Int} (hl : isB l) {at_ bit : Nat} (ha : at_ / 8 < l.length) (hb : bit < 2) : isB (l.set (at_ / 8) (setV (rdd 0 l (at_ / 8)) (7 - at_ % 8) bit)) ∧ ∀ p, bitOf (bl (l.set (at_ / 8) (setV (rdd 0 l (at_ / 8)) (7 - at_ % 8) bit))) p = if p = at_ then bit else bitOf (bl l) p := by
  obtain ⟨h1, h2⟩ := setV_ok (s := 7 - at_ % 8) (isB_rdd hl (at_ / 8)) (by omega) hb
  refine ⟨set_isB hl h1, fun p => ?_⟩
  by_cases e : p / 8 = at_ / 8
  · have e1 : bl (l.set (at_ / 8) (setV (rdd 0 l (at_ / 8)) (7 - at_ % 8) bit)) (p / 8) = (setV (rdd 0 l (at_ / 8)) (7 - at_ % 8) bit).toNat := by
      unfold bl
      rw [e, rdd_lt (by simpa using ha), List.getElem_set_self]
    unfold bitOf
    rw [e1, h2 (7 - p % 8) (by omega)]
    by_cases e2 : p = at_
    · rw [if_pos (by rw [e2]), if_pos e2]
    · rw [if_neg (by omega), if_neg e2, e]; rfl
  · have e1 : bl (l.set (at_ / 8) (setV (rdd 0 l (at_ / 8)) (7 - at_ % 8) bit)) (p / 8) = bl l (p / 8) := by
      unfold bl rdd
      rw [List.getD_eq_getElem?_getD, List.getElem?_set_ne (fun k => e k.symm)]; rfl
    rw [if_neg (fun k => e (by rw [k]))]
    unfold bitOf; rw [e1]
end Go.AMach

/- A number put into a packet. -/
namespace Go.AMach
set_option linter.unusedVariables false
set_option linter.unusedSimpArgs false
set_option linter.unnecessarySimpa false
open Go
set_option linter.unusedVariables false

theorem And_one (v : Nat) : ∃ r : Int, Q_z0p (wN v) (((0 : Int), ((1 : Int), ())) : WordS) = some (((r, (((v % 2 : Nat) : Int), ())), ()), ()) := by
  refine ⟨IntKind.wrap .u64 ((BitVec.toNat (BitVec.ofInt (IntKind.bits .u64) (wN v).1 &&& BitVec.ofInt (IntKind.bits .u64) (0 : Int)) : Nat) : Int), fin ?_⟩
  unfold M_z0p
  have : IntKind.wrap .u64 ((BitVec.toNat (BitVec.ofInt (IntKind.bits .u64) (wN v).2.1 &&& BitVec.ofInt (IntKind.bits .u64) (1 : Int)) : Nat) : Int) = ((v % 2 : Nat) : Int) := by
    have h := andU (v % 18446744073709551616) 1 (Nat.mod_lt _ (by decide)) (by decide)
    rw [Nat.and_one_is_mod] at h
    refine h.trans ?_
    congr 1; omega
  simp only [this]

theorem L_fPut (k : List Int → Option Res) (v : Nat) (hv : v < 340282366920938463463374607431768211456) (b : List Int) (off w : Nat) (hw : 1 ≤ w ∧ w ≤ 128) (ho : off + w ≤ 8 * b.length) (hl : b.length ≤ 1000000) : ∀ (m i : Nat) (c : List Int), i ≤ w → w - i < m → c.length = b.length → isB c → (∀ p, bitOf (bl c) p = if off + w - i ≤ p ∧ p < off + w then v / 2 ^ (off + w - 1 - p) % 2 else bitOf (bl b) p) →
    ∃ c', L_z20_0 FUEL k (off : Int) (w : Int) b.length (w : Int) (wN v) m (i : Int) c = k c' ∧ c'.length = b.length ∧ isB c' ∧ (∀ p, bitOf (bl c') p = putBit b off w v p)
  | 0, _, _, _, h, _, _, _ => by omega
  | m + 1, i, c, hi, hm, hc, hB, hp => by
    show ∃ c', F_z20_0 FUEL k (off : Int) (w : Int) b.length (w : Int) (wN v) (L_z20_0 FUEL k (off : Int) (w : Int) b.length (w : Int) (wN v) m) (i : Int) c = k c' ∧ _
    unfold F_z20_0
    rw [cond_dec]
    by_cases h : i < w
    · rw [if_pos (by omega)]
      generalize ha : off + w - 1 - i = a
      have e1 : IntKind.wrap .i64 (IntKind.wrap .i64 (IntKind.wrap .i64 ((off : Int) + (w : Int)) - 1) - (i : Int)) = (a : Int) := by
        rw [IntWalk.i64_in ((off : Int) + w) (by omega), IntWalk.i64_in ((off : Int) + w - 1) (by omega), IntWalk.i64_in _ (by omega)]; omega
      have e2 : IntKind.wrap .i64 (7 - Int.tmod (a : Int) 8) = ((7 - a % 8 : Nat) : Int) := by
        rw [Int.tmod_eq_emod_of_nonneg (by omega), IntWalk.i64_in _ (by omega)]; omega
      have e3 : IntKind.wrap .i64 (Int.tdiv (a : Int) 8) = ((a / 8 : Nat) : Int) := by
        rw [Int.tdiv_eq_ediv_of_nonneg (by omega), IntWalk.i64_in _ (by omega)]; omega
      have h8 : ((8 : Int) != 0) = true := by decide
      have hr := Right_N v i (by omega) hv
      obtain ⟨ra, hand⟩ := And_one (v / 2 ^ i)
      have hd : decide ((0 : Int) ≤ ((7 - a % 8 : Nat) : Int)) = true := by rw [decide_eq_true_eq]; omega
      have hd2 : decide ((0 : Int) ≤ ((a / 8 : Nat) : Int) ∧ ((a / 8 : Nat) : Int) < ((b.length : Nat) : Int)) = true := by rw [decide_eq_true_eq]; omega
      simp only [e1, e2, e3, h8, hd, hd2, cond_true, toNat_cast, ok_z0n, Q_Right (wN v) (i : Int) (by omega), hr, ok_z0k, q_z0k, Q_New, ok_z0p, q_z0p, hand, RS.get, Option.getD_some, Option.isSome_some, int_beq]
      generalize hbit : v / 2 ^ i % 2 = bit
      have hbl : bit < 2 := by rw [← hbit]; exact Nat.mod_lt _ (by decide)
      obtain ⟨s1, s2⟩ := set_bit hB (at_ := a) (bit := bit) (by omega) hbl
      have key := L_fPut k v hv b off w hw ho hl m (i + 1) (c.set (a / 8) (setV (rdd 0 c (a / 8)) (7 - a % 8) bit)) (by omega) (by omega) (by simpa using hc) s1 fun p => by
        rw [s2 p]
        by_cases e : p = a
        · rw [if_pos e, if_pos (by omega), e, ← hbit]
          congr 3; omega
        · rw [if_neg e, hp p]
          by_cases q : off + w - i ≤ p ∧ p < off + w
          · rw [if_pos q, if_pos (by omega)]
          · rw [if_neg q, if_neg (by omega)]
      rw [i64_succ (by omega)]
      by_cases hb1 : bit = 1
      · rw [decide_eq_true (by omega), cond_true]
        unfold setV orV at key
        rw [if_pos hb1] at key
        exact key
      · rw [decide_eq_false (by omega), cond_false]
        unfold setV clrV at key
        rw [if_neg hb1] at key
        exact key
    · rw [if_neg (by omega)]
      refine ⟨c, rfl, hc, hB, fun p => ?_⟩
      rw [hp p]
      unfold putBit
      by_cases q : off ≤ p ∧ p < off + w
      · rw [if_pos (by omega), if_pos q]
      · rw [if_neg (by omega), if_neg q]

theorem Q_fPut (v : Nat) (hv : v < 340282366920938463463374607431768211456) {b : List Int} (hb : isB b) (off w : Nat) (hw : 1 ≤ w ∧ w ≤ 128) (ho : off + w ≤ 8 * b.length) (hl : b.length ≤ 1000000) :
    Q_z20 (bytesOf b) (off : Int) (w : Int) (wN v) = some ((bytesOf (putN b off w v), (0, ())), ()) := by
  refine fin ?_
  unfold M_z20
  have hm := Q_fmay (bytesOf b) off w (by rw [bytesOf_size]; omega) hw.1 hw.2 (by omega)
  rw [if_pos (by rw [bytesOf_size]; exact ho)] at hm
  simp only [ok_z0i, q_z0i, hm, RS.get, Option.getD_some, Option.isSome_some, cond_true, int_bne, decide_true, Bool.not_true, cond_false, bytesOf_size, bytesL_bytesOf hb]
  obtain ⟨c', h1, h2, h3, h4⟩ := L_fPut (fun y9 => some (encRes ro_z20 rh_z20 (((bytesOf (cutL (0 : Int) y9 0 b.length)), ((0 : Int), ())), ()))) v hv b off w hw ho hl FUEL 0 b (by omega) (by unfold FUEL; omega) rfl hb fun p => by rw [if_neg (by omega)]
  have hc : c' = putN b off w v := bytes_ext h3 (putN_isB _ _ _ _) (by rw [h2, putN_length]) fun p hp => by rw [h4, putN_bit b off w v p (by omega)]
  refine Eq.trans h1 ?_
  have hcut : cutL (0 : Int) c' 0 b.length = c' := by rw [← h2]; exact cutL_all _ _
  rw [hc] at hcut
  simp only [hc, hcut]
theorem Q_fPutBad (s : ByteArray) (off w : Int) (wd : WordS) (hs : s.size < 1000000000) (ho : off ≤ 9223372036854775807)
    (h : ¬ (0 ≤ off ∧ 1 ≤ w ∧ w ≤ 128 ∧ off + w ≤ 8 * (s.size : Int))) : Q_z20 s off w wd = some (((ByteArray.empty), (getE off w, ())), ()) := by
  have hm : Q_z0i s off w = some ((getE off w, ()), ()) := by
    refine fin ?_
    unfold M_z0i getE
    simp only [cond_dec]
    refine ite_eq (fun h1 => by rw [if_pos h1]) fun h1 => ?_
    rw [if_neg h1]
    refine ite_eq (fun h2 => by rw [if_pos h2]) fun h2 => ?_
    rw [if_neg h2]
    refine ite_eq (fun h3 => by rw [if_pos h3]) fun h3 => ?_
    rw [if_neg h3, IntWalk.i64_in (8 * (s.size : Int)) (by omega), IntWalk.i64_in _ (by omega), if_pos (by omega)]
  refine fin ?_
  unfold M_z20
  simp only [ok_z0i, q_z0i, hm, RS.get, Option.getD_some, Option.isSome_some, cond_true, int_bne]
  rw [decide_eq_false (getE_ne off w), Bool.not_false, cond_true]
  rfl

/-- What stands in some of the bytes is put in there. -/
theorem putN_window (b : List Int) (hb : isB b) (off w v fr n : Nat) (h1 : fr = off / 8) (h2 : n = (off + w + 7) / 8 - fr) (ho : off + w ≤ 8 * b.length) (hw : 1 ≤ w) :
    b.take fr ++ (putN ((b.drop fr).take n) (off - 8 * fr) w v ++ b.drop (fr + n)) = putN b off w v := by
  have hcl : ((b.drop fr).take n).length = n := by rw [List.length_take, List.length_drop]; omega
  have hB : isB (b.take fr ++ (putN ((b.drop fr).take n) (off - 8 * fr) w v ++ b.drop (fr + n))) := fun x hx => by
    rcases List.mem_append.1 hx with hx | hx
    · exact hb x (List.mem_of_mem_take hx)
    · rcases List.mem_append.1 hx with hx | hx
      · exact putN_isB _ _ _ _ x hx
      · exact hb x (List.mem_of_mem_drop hx)
  have hL : (b.take fr ++ (putN ((b.drop fr).take n) (off - 8 * fr) w v ++ b.drop (fr + n))).length = b.length := by
    simp only [List.length_append, List.length_take, List.length_drop, putN_length, hcl]; omega
  refine bytes_ext hB (putN_isB _ _ _ _) (by rw [hL, putN_length]) fun p hp => ?_
  rw [hL] at hp
  rw [putN_bit b off w v p hp]
  have hl1 : (b.take fr).length = fr := by rw [List.length_take]; omega
  have hl2 : (putN ((b.drop fr).take n) (off - 8 * fr) w v).length = n := by rw [putN_length, hcl]
  by_cases c1 : p / 8 < fr
  · have : bl (b.take fr ++ (putN ((b.drop fr).take n) (off - 8 * fr) w v ++ b.drop (fr + n))) (p / 8) = bl b (p / 8) := by
      unfold bl
      rw [rdd_lt (by rw [hL]; omega), rdd_lt (l := b) (by omega), List.getElem_append_left (by omega), List.getElem_take]
    rw [bitOf_congr this]
    unfold putBit; rw [if_neg (by omega)]
  by_cases c2 : p / 8 < fr + n
  · have : bl (b.take fr ++ (putN ((b.drop fr).take n) (off - 8 * fr) w v ++ b.drop (fr + n))) (p / 8) = bl (putN ((b.drop fr).take n) (off - 8 * fr) w v) (p / 8 - fr) := by
      unfold bl
      rw [rdd_lt (by rw [hL]; omega), rdd_lt (l := putN ((b.drop fr).take n) (off - 8 * fr) w v) (by omega), List.getElem_append_right (by omega), List.getElem_append_left (by omega)]
      simp only [hl1]
    have e1 : bitOf (bl (b.take fr ++ (putN ((b.drop fr).take n) (off - 8 * fr) w v ++ b.drop (fr + n)))) p = bitOf (bl (putN ((b.drop fr).take n) (off - 8 * fr) w v)) (p - 8 * fr) := by
      unfold bitOf
      rw [this, show (p - 8 * fr) / 8 = p / 8 - fr by omega, show (p - 8 * fr) % 8 = p % 8 by omega]
    rw [e1, putN_bit _ _ _ _ _ (by rw [hcl]; omega)]
    unfold putBit
    by_cases q : off ≤ p ∧ p < off + w
    · rw [if_pos (by omega), if_pos q]
      congr 3; omega
    · rw [if_neg (by omega), if_neg q]
      unfold bitOf
      have : bl ((b.drop fr).take n) ((p - 8 * fr) / 8) = bl b (p / 8) := by
        unfold bl
        rw [rdd_lt (by rw [hcl]; omega), rdd_lt (l := b) (by omega), List.getElem_take, List.getElem_drop]
        congr 2; omega
      rw [this, show (p - 8 * fr) % 8 = p % 8 by omega]
  · have : bl (b.take fr ++ (putN ((b.drop fr).take n) (off - 8 * fr) w v ++ b.drop (fr + n))) (p / 8) = bl b (p / 8) := by
      unfold bl
      rw [rdd_lt (by rw [hL]; omega), rdd_lt (l := b) (by omega), List.getElem_append_right (by omega), List.getElem_append_right (by omega), List.getElem_drop]
      simp only [hl1, hl2]
      congr 2; omega
    rw [bitOf_congr this]
    unfold putBit; rw [if_neg (by omega)]

/-- Bytes with a number put in. -/
def putB (b : List Int) (off w : Int) (v : Nat) : List Int := putN b off.toNat w.toNat v
theorem Q_bPut {b : List Int} (hb : isB b) (off w : Int) (v : Nat) (hv : v < 340282366920938463463374607431768211456) (hl : b.length ≤ 1000000) (ho : -9223372036854775808 ≤ off ∧ off ≤ 9223372036854775807) :
    Q_z21 off w (wN v) b.length b = some (((if (getB b off w).isSome then 0 else getE off w), ()), ((b.length, ()), ((if (getB b off w).isSome then putB b off w v else b), ()))) := by
  obtain ⟨h0, h1⟩ := Q_bWin b off w hl ho
  refine fin ?_
  unfold M_z21
  cases hg : getB b off w with
  | none =>
    have hn' : ¬ (0 ≤ off ∧ 1 ≤ w ∧ w ≤ 128 ∧ off + w ≤ 8 * (b.length : Int)) := fun k => by unfold getB at hg; rw [if_pos k] at hg; cases hg
    simp only [ok_z1a, q_z1a, h0 hg, RS.get, Option.getD_some, Option.isSome_some, cond_true, cutL_all]
    have e : IntKind.wrap .i64 (off - IntKind.wrap .i64 (8 * (0 : Int))) = off := by
      rw [show IntKind.wrap .i64 (8 * (0 : Int)) = 0 by rfl, IntWalk.i64_in _ (by omega)]; omega
    rw [e]
    have := Q_fPutBad (bytesOf b) off w (wN v) (by rw [bytesOf_size]; omega) ho.2 (by rw [bytesOf_size]; exact hn')
    simp only [ok_z20, q_z20, this, RS.get, Option.getD_some, Option.isSome_some, cond_true, int_beq, decide_eq_false (getE_ne off w), cond_false]
    rfl
  | some v0 =>
    have hv' : 0 ≤ off ∧ 1 ≤ w ∧ w ≤ 128 ∧ off + w ≤ 8 * (b.length : Int) := Classical.byContradiction fun k => by unfold getB at hg; rw [if_neg k] at hg; cases hg
    have h1 := h1 v0 hg
    generalize hf : off.toNat / 8 = fr at h1
    generalize hn : (off.toNat + w.toNat + 7) / 8 - fr = n at h1
    have e : IntKind.wrap .i64 (off - IntKind.wrap .i64 (8 * ((fr : Nat) : Int))) = ((off.toNat - 8 * fr : Nat) : Int) := by
      rw [IntWalk.i64_in (8 * ((fr : Nat) : Int)) (by omega), IntWalk.i64_in _ (by omega)]; omega
    have hwn : w = ((w.toNat : Nat) : Int) := by omega
    have hcut : cutL (0 : Int) b fr n = (b.drop fr).take n := cutL_eq (by omega)
    have hlen : ((b.drop fr).take n).length = n := by rw [List.length_take, List.length_drop]; omega
    have hcB : isB ((b.drop fr).take n) := fun x hx => hb _ (List.mem_of_mem_drop (List.mem_of_mem_take hx))
    have hP := Q_fPut v hv hcB (off.toNat - 8 * fr) w.toNat (by omega) (by rw [hlen]; omega) (by rw [hlen]; omega)
    rw [← hwn] at hP
    have hpl : (putN ((b.drop fr).take n) (off.toNat - 8 * fr) w.toNat v).length = n := by rw [putN_length, hlen]
    have hsz : (bytesOf (putN ((b.drop fr).take n) (off.toNat - 8 * fr) w.toNat v)).size = n := by rw [bytesOf_size, hpl]
    have hnew := putN_window b hb off.toNat w.toNat v fr n hf.symm hn.symm (by omega) (by omega)
    have hc1 : cutL (0 : Int) b 0 fr = b.take fr := by rw [cutL_eq (by omega), List.drop_zero]
    have hc2 : cutL (0 : Int) (bytesL (bytesOf (putN ((b.drop fr).take n) (off.toNat - 8 * fr) w.toNat v))) 0 (Nat.min n n) = putN ((b.drop fr).take n) (off.toNat - 8 * fr) w.toNat v := by
      rw [bytesL_bytesOf (putN_isB _ _ _ _), show Nat.min n n = n from Nat.min_self n]
      have := cutL_all (0 : Int) (putN ((b.drop fr).take n) (off.toNat - 8 * fr) w.toNat v)
      rw [hpl] at this; exact this
    have hc3 : cutL (0 : Int) b (fr + n) (b.length - (fr + n)) = b.drop (fr + n) := by
      rw [cutL_eq (by omega), List.take_of_length_le (by rw [List.length_drop]; omega)]
    have d1 : decide (fr + n ≤ b.length) = true := by rw [decide_eq_true_eq]; omega
    simp only [Option.isSome_some, if_true]
    unfold putB
    rcases h1 with ⟨z, a1⟩ | ⟨a1, a2⟩
    · subst z
      simp only [ok_z1a, q_z1a, a1, e, hcut, ok_z20, q_z20, hP, RS.get, Option.getD_some, Option.isSome_some, cond_true, int_beq, decide_true, d1, hsz, hc1, hc2, hpl, hc3, hnew]
    · simp only [ok_z1a, ok_z1a_1, q_z1a_1, a1, a2, e, hcut, ok_z20, q_z20, hP, RS.get, Option.getD_some, Option.isSome_some, Option.isSome_none, cond_true, cond_false, int_beq, decide_true, d1, hsz, hc1, hc2, hpl, hc3, hnew]
end Go.AMach

/- A number put into a field of a packet. -/
namespace Go.AMach
set_option linter.unusedVariables false
set_option linter.unusedSimpArgs false
set_option linter.unnecessarySimpa false
open Go
set_option linter.unusedVariables false

/-- A packet with a number put into a field: why not; its bytes; its metadata. -/
def putF (hs : List HeadS) (b mt : List Int) (f : FieldS) (v : Nat) : Int × (List Int × List Int) := match whereF hs b mt f with
  | none => (3, (b, mt))
  | some (c, a) => if (getB c (bitV a f.2.2.2.1) f.2.2.2.2.1).isSome then (0, (if f.2.1 = 3 then (b, putB mt (bitV a f.2.2.2.1) f.2.2.2.2.1 v) else (putB b (bitV a f.2.2.2.1) f.2.2.2.2.1 v, mt))) else (1, (b, mt))
theorem putB_length (b : List Int) (off w : Int) (v : Nat) : (putB b off w v).length = b.length := putN_length _ _ _ _
theorem putF_len (hs : List HeadS) (b mt : List Int) (f : FieldS) (v : Nat) : (putF hs b mt f v).2.1.length = b.length ∧ (putF hs b mt f v).2.2.length = mt.length := by
  unfold putF
  split
  · exact ⟨rfl, rfl⟩
  · split
    · split
      · exact ⟨rfl, putB_length _ _ _ _⟩
      · exact ⟨putB_length _ _ _ _, rfl⟩
    · exact ⟨rfl, rfl⟩
theorem putF_ok {hs : List HeadS} {b mt : List Int} (P : PkOk hs b mt) (f : FieldS) (v : Nat) : PkOk hs (putF hs b mt f v).2.1 (putF hs b mt f v).2.2 := by
  obtain ⟨l1, l2⟩ := putF_len hs b mt f v
  refine ⟨?_, ?_, by rw [l1]; exact P.bl, by rw [l2]; exact P.ml, P.hl, P.at_⟩
  · unfold putF
    split
    · exact P.bB
    · split
      · split
        · exact P.bB
        · exact putN_isB _ _ _ _
      · exact P.bB
  · unfold putF
    split
    · exact P.mB
    · split
      · split
        · exact putN_isB _ _ _ _
        · exact P.mB
      · exact P.mB
theorem putF_why (hs : List HeadS) (b mt : List Int) (f : FieldS) (v : Nat) : (putF hs b mt f v).1 = match getF hs b mt f with | .ok _ => 0 | .error e => e := by
  unfold putF getF
  cases whereF hs b mt f with
  | none => rfl
  | some ca =>
    obtain ⟨c, a⟩ := ca
    simp only
    cases getB c (bitV a f.2.2.2.1) f.2.2.2.2.1 <;> rfl
theorem putF_no {hs : List HeadS} {b mt : List Int} {f : FieldS} {v : Nat} (h : (putF hs b mt f v).1 ≠ 0) : (putF hs b mt f v).2 = (b, mt) := by
  unfold putF at h ⊢
  split
  · rfl
  · rename_i c a hw
    rw [hw] at h
    simp only at h
    split
    · rename_i k
      rw [if_pos k] at h; exact absurd rfl h
    · rfl
theorem where_in {hs : List HeadS} {b mt c : List Int} {a : Int} {f : FieldS} (h : whereF hs b mt f = some (c, a)) : (f.2.1 = 3 ∧ c = mt ∧ a = 0) ∨ (f.2.1 ≠ 3 ∧ c = b ∧ (a = 0 ∨ atOf hs f.2.2.1 = some a)) := by
  unfold whereF at h
  by_cases c1 : f.2.1 = 1
  · rw [if_pos c1] at h; cases h; exact .inr ⟨by omega, rfl, .inl rfl⟩
  rw [if_neg c1] at h
  by_cases c3 : f.2.1 = 3
  · rw [if_pos c3] at h; cases h; exact .inl ⟨c3, rfl, rfl⟩
  rw [if_neg c3] at h
  by_cases c2 : f.2.1 = 2
  · rw [if_pos c2] at h
    cases ha : atOf hs f.2.2.1 with
    | none => rw [ha] at h; cases h
    | some x => rw [ha] at h; cases h; exact .inr ⟨c3, rfl, .inr rfl⟩
  · rw [if_neg c2] at h; cases h
theorem where_put {hs : List HeadS} {b mt b' mt' c : List Int} {a : Int} {f : FieldS} (h : whereF hs b mt f = some (c, a)) : whereF hs b' mt' f = some (if f.2.1 = 3 then mt' else b', a) := by
  unfold whereF at h ⊢
  by_cases c1 : f.2.1 = 1
  · rw [if_pos c1] at h ⊢; cases h; rw [if_neg (by omega)]
  rw [if_neg c1] at h ⊢
  by_cases c3 : f.2.1 = 3
  · rw [if_pos c3] at h ⊢; cases h; rw [if_pos c3]
  rw [if_neg c3] at h ⊢
  by_cases c2 : f.2.1 = 2
  · rw [if_pos c2] at h ⊢
    cases ha : atOf hs f.2.2.1 with
    | none => rw [ha] at h; cases h
    | some x => rw [ha] at h; cases h; rw [if_neg c3]; rfl
  · rw [if_neg c2] at h; cases h
/-- What was put in is got. -/
theorem getF_put {hs : List HeadS} {b mt : List Int} {f : FieldS} (v : Nat) (h : (putF hs b mt f v).1 = 0) : getF hs (putF hs b mt f v).2.1 (putF hs b mt f v).2.2 f = .ok (v % 2 ^ f.2.2.2.2.1.toNat) := by
  cases hw : whereF hs b mt f with
  | none => unfold putF at h; rw [hw] at h; cases h
  | some ca =>
    obtain ⟨c, a⟩ := ca
    have hp : (getB c (bitV a f.2.2.2.1) f.2.2.2.2.1).isSome = true := by
      cases hg : getB c (bitV a f.2.2.2.1) f.2.2.2.2.1 with
      | some x => rfl
      | none => unfold putF at h; rw [hw] at h; simp [hg] at h
    have hk : 0 ≤ bitV a f.2.2.2.1 ∧ 1 ≤ f.2.2.2.2.1 ∧ f.2.2.2.2.1 ≤ 128 ∧ bitV a f.2.2.2.1 + f.2.2.2.2.1 ≤ 8 * (c.length : Int) := by
      unfold getB at hp
      split at hp
      · assumption
      · cases hp
    have key : ∀ x : List Int, x.length = c.length → getB (putB x (bitV a f.2.2.2.1) f.2.2.2.2.1 v) (bitV a f.2.2.2.1) f.2.2.2.2.1 = some (v % 2 ^ f.2.2.2.2.1.toNat) := fun x hx => by
      have := getB_put (b := x) (off := (bitV a f.2.2.2.1).toNat) (w := f.2.2.2.2.1.toNat) v (by omega) (by omega) (by omega)
      rw [show (((bitV a f.2.2.2.1).toNat : Nat) : Int) = bitV a f.2.2.2.1 by omega, show ((f.2.2.2.2.1.toNat : Nat) : Int) = f.2.2.2.2.1 by omega] at this
      exact this
    have hput : (putF hs b mt f v).2 = if f.2.1 = 3 then (b, putB mt (bitV a f.2.2.2.1) f.2.2.2.2.1 v) else (putB b (bitV a f.2.2.2.1) f.2.2.2.2.1 v, mt) := by
      unfold putF; rw [hw]; simp only; rw [if_pos hp]
    unfold getF
    rw [where_put hw, hput]
    rcases where_in hw with ⟨c3, rfl, _⟩ | ⟨c3, rfl, _⟩
    · simp only [if_pos c3]; rw [key _ rfl]
    · simp only [if_neg c3]; rw [key _ rfl]

theorem dec_q0 {y z : Int} {x : HK.sems rh_z17} : decRes ro_z17 rh_z17 (some (encRes ro_z17_1 rh_z17_1 (((), (y, (z, ()))), x))) = none := rfl

/-- Where a field is, as the program tells it. -/
theorem Q_place {hs : List HeadS} {b mt : List Int} (P : PkOk hs b mt) (pt : Int) (f : FieldS) :
    (whereF hs b mt f = none → Q_z17 f hs.length pt b.length b hs mt.length mt = none ∧ Q_z17_1 f hs.length pt b.length b hs mt.length mt = none ∧ Q_z17_2 f hs.length pt b.length b hs mt.length mt = some (((), (0, (3, ()))), pkS hs pt b mt)) ∧
    (∀ c a, whereF hs b mt f = some (c, a) → f.2.1 = 3 → Q_z17 f hs.length pt b.length b hs mt.length mt = none ∧ Q_z17_1 f hs.length pt b.length b hs mt.length mt = some (((), (a, (0, ()))), pkS hs pt b mt)) ∧
    (∀ c a, whereF hs b mt f = some (c, a) → f.2.1 ≠ 3 → Q_z17 f hs.length pt b.length b hs mt.length mt = some (((), (a, (0, ()))), pkS hs pt b mt)) := by
  have hM : M_z17 FUEL f hs.length pt b.length b hs mt.length mt = if f.2.1 = 3 then some (encRes ro_z17_1 rh_z17_1 (((), (0, (0, ()))), pkS hs pt b mt))
      else (match whereF hs b mt f with | some (c, a) => some (encRes ro_z17 rh_z17 (((), (a, (0, ()))), pkS hs pt b mt)) | none => some (encRes ro_z17_2 rh_z17_2 (((), (0, (3, ()))), pkS hs pt b mt))) := by
    unfold M_z17 whereF
    simp only [int_beq, cond_dec]
    by_cases c1 : f.2.1 = 1
    · rw [if_pos c1, if_pos c1, if_neg (by omega)]
    rw [if_neg c1, if_neg c1]
    by_cases c3 : f.2.1 = 3
    · rw [if_pos c3, if_pos c3]
    rw [if_neg c3, if_neg c3, if_neg c3]
    by_cases c2 : f.2.1 = 2
    · rw [if_pos c2, if_pos c2]
      refine Eq.trans (L_place _ _ hs P.hl f FUEL 0 (by omega) (by have := P.hl; unfold FUEL; omega)) ?_
      rw [List.drop_zero]
      cases atOf hs f.2.2.1 <;> rfl
    · rw [if_neg c2, if_neg c2]
  refine ⟨fun hw => ?_, fun c a hw c3 => ?_, fun c a hw c3 => ?_⟩
  · have c3 : ¬ f.2.1 = 3 := fun k => by unfold whereF at hw; rw [if_neg (by omega), if_pos k] at hw; cases hw
    rw [if_neg c3, hw] at hM
    exact ⟨by unfold Q_z17; rw [hM]; exact dec_p1, by unfold Q_z17_1; rw [hM]; exact dec_p2, fin hM⟩
  · rw [if_pos c3] at hM
    have ha : a = 0 := by rcases where_in hw with ⟨_, _, h⟩ | ⟨h, _⟩; exact h; exact absurd c3 h
    subst ha
    exact ⟨by unfold Q_z17; rw [hM]; exact dec_p0, fin hM⟩
  · rw [if_neg c3, hw] at hM
    exact fin hM

theorem Q_pPut {hs : List HeadS} {b mt : List Int} (P : PkOk hs b mt) (pt : Int) (f : FieldS) (hf : FieldT.good f) (v : Nat) (hv : v < 340282366920938463463374607431768211456) :
    Q_z22 f (wN v) hs.length pt b.length b hs mt.length mt = some (((putF hs b mt f v).1, ()), pkS hs pt (putF hs b mt f v).2.1 (putF hs b mt f v).2.2) := by
  obtain ⟨h1, h2, h3, h4, h5, _⟩ := hf
  have r4 := wf_i64 h4
  obtain ⟨p1, p2, p3⟩ := Q_place P pt f
  have hbit : ∀ a, 0 ≤ a ∧ a ≤ 1000000 → Q_z18 a f.2.2.2.1 = some ((bitV a f.2.2.2.1, ()), ()) := fun a ha => Q_bit a _ ha r4.2
  have rbit : ∀ a, 0 ≤ a ∧ a ≤ 1000000 → -9223372036854775808 ≤ bitV a f.2.2.2.1 ∧ bitV a f.2.2.2.1 ≤ 9223372036854775807 := fun a ha => by unfold bitV; split <;> omega
  refine fin ?_
  unfold M_z22 putF
  cases hw : whereF hs b mt f with
  | none =>
    obtain ⟨q0, q1, q2⟩ := p1 hw
    simp only [ok_z17, ok_z17_1, ok_z17_2, q_z17_2, q0, q1, q2, RS.get, Option.getD_some, Option.isSome_some, Option.isSome_none, cond_true, cond_false]
    rfl
  | some ca =>
    obtain ⟨c, a⟩ := ca
    rcases where_in hw with ⟨c3, rfl, rfl⟩ | ⟨c3, rfl, ha⟩
    · obtain ⟨q0, q1⟩ := p2 _ _ hw c3
      simp only [ok_z17, ok_z17_1, q_z17_1, q0, q1, RS.get, Option.getD_some, Option.isSome_some, Option.isSome_none, cond_true, cond_false]
      simp only [int_beq, int_bne, decide_true, cond_true, ok_z18, q_z18, hbit 0 (by omega), ok_z21, q_z21, Q_bPut P.mB (bitV 0 f.2.2.2.1) f.2.2.2.2.1 v hv (by have := P.ml; omega) (rbit 0 (by omega)), RS.get, Option.getD_some, Option.isSome_some]
      cases getB c (bitV 0 f.2.2.2.1) f.2.2.2.2.1 with
      | none =>
        simp only [Option.isSome_none, Bool.false_eq_true, if_false, decide_eq_false (getE_ne _ _), Bool.not_false, cond_true]
      | some x =>
        simp only [Option.isSome_some, if_true, decide_true, Bool.not_true, cond_false, if_pos c3]
        unfold pkS
        rw [putB_length]
    · have q0 := p3 _ _ hw c3
      have ha' : 0 ≤ a ∧ a ≤ 1000000 := by
        rcases ha with h | h
        · omega
        · exact atOf_ok P h
      simp only [ok_z17, q_z17, q0, RS.get, Option.getD_some, Option.isSome_some, cond_true]
      simp only [int_beq, int_bne, decide_true, cond_true, ok_z18, q_z18, hbit a ha', ok_z21, q_z21, Q_bPut P.bB (bitV a f.2.2.2.1) f.2.2.2.2.1 v hv (by have := P.bl; omega) (rbit a ha'), RS.get, Option.getD_some, Option.isSome_some]
      cases getB c (bitV a f.2.2.2.1) f.2.2.2.2.1 with
      | none =>
        simp only [Option.isSome_none, Bool.false_eq_true, if_false, decide_eq_false (getE_ne _ _), Bool.not_false, cond_true]
      | some x =>
        simp only [Option.isSome_some, if_true, decide_true, Bool.not_true, cond_false, if_neg c3]
        unfold pkS
        rw [putB_length]

/-- A word of the program. -/
theorem word_N {w : WordS} (h : WordT.good w) : ∃ v, w = wN v ∧ v < 340282366920938463463374607431768211456 := by
  obtain ⟨h1, h2, _⟩ := h
  have r1 := wf_u64 h1
  have r2 := wf_u64 h2
  refine ⟨w.1.toNat * 18446744073709551616 + w.2.1.toNat, ?_, by omega⟩
  rw [← wN_of _ _ (by omega)]
  unfold W2
  rw [show ((w.1.toNat : Nat) : Int) = w.1 by omega, show ((w.2.1.toNat : Nat) : Int) = w.2.1 by omega]
theorem textV_mod (v : Nat) (w : Int) : textV (v % 2 ^ w.toNat) w = textV v w := by unfold textV; rw [Nat.mod_mod]
end Go.AMach

/- Layer 18: KeyGone, KeyAlike. -/
namespace Go.AMach
set_option linter.unusedVariables false
set_option linter.unusedSimpArgs false
set_option linter.unnecessarySimpa false
open Go
set_option linter.unusedVariables false

/-! ### A packet -/
def zeros : List Int := mkL 32 fun _ => (0 : Int)
theorem zeros_isB : isB zeros := fun x hx => by
  unfold zeros mkL at hx
  simp at hx
  omega
theorem bytesL_zeros : bytesL (bytesOf zeros) = zeros := bytesL_bytesOf zeros_isB
theorem zeros_size : (bytesOf zeros).size = 32 := bytesOf_size _
theorem dec_n0 {x : HK.sems rh_z01_1} : decRes ro_z01 rh_z01 (some (encRes ro_z01_1 rh_z01_1 (((), ((), ())), x))) = none := rfl
theorem Q_bNew (s : ByteArray) (h : s.size ≤ 9216) : Q_z01 s = none ∧ Q_z01_1 s = some (((), ((), ())), ((s.size, ()), (bytesL s, ()))) := by
  have hM : M_z01 FUEL s = some (encRes ro_z01_1 rh_z01_1 (((), ((), ())), ((s.size, ()), (bytesL s, ())))) := by
    unfold M_z01
    rw [cond_dec, if_neg (by omega)]
  exact ⟨by unfold Q_z01; rw [hM]; exact dec_n0, fin hM⟩
theorem Q_bNewBad (s : ByteArray) (h : 9216 < s.size) : Q_z01 s = some (((), ((), ())), ()) := by
  refine fin ?_
  unfold M_z01
  rw [cond_dec, if_pos (by omega)]
theorem Q_pNew (n : Int) (s : ByteArray) (h : s.size ≤ 9216) : Q_z02 n s = some (((), ((), ())), (((), ((), ((), (n, ())))), ((s.size, ()), (bytesL s, ((zeros.length, ()), (zeros, ())))))) := by
  refine fin ?_
  unfold M_z02
  obtain ⟨a0, a1⟩ := Q_bNew s h
  obtain ⟨b0, b1⟩ := Q_bNew (bytesOf zeros) (by rw [zeros_size]; omega)
  have d : decide ((0 : Int) ≤ (32 : Int) ∧ (32 : Int) ≤ (32 : Int) ∧ (1 : Nat) * (32 : Int) ≤ (2 : Int) ^ 46) = true := by decide
  have hz : (bytesOf (mkL (Int.toNat (32 : Int)) (fun i => (0 : Int)))) = bytesOf zeros := rfl
  simp only [ok_z01, ok_z01_1, q_z01_1, a0, a1, d, hz, b0, b1, RS.get, Option.getD_some, Option.isSome_some, Option.isSome_none, cond_true, cond_false, bytesL_zeros, zeros_size]
  rfl
theorem dec_n1 : decRes ro_z02 rh_z02 (some (encRes ro_z02_2 rh_z02_2 (((), ((), ())), ()))) = none := rfl
theorem Q_pNewBad (n : Int) (s : ByteArray) (h : 9216 < s.size) : Q_z02 n s = none ∧ Q_z02_2 n s = some (((), ((), ())), ()) := by
  have hM : M_z02 FUEL n s = some (encRes ro_z02_2 rh_z02_2 (((), ((), ())), ())) := by
    unfold M_z02
    simp only [ok_z01, Q_bNewBad s h, Option.isSome_some, cond_true]
  exact ⟨by unfold Q_z02; rw [hM]; exact dec_n1, fin hM⟩
theorem Q_bText {b : List Int} : Q_z03 b.length b = some ((bytesOf b, ()), ((b.length, ()), (b, ()))) := by
  refine fin ?_
  unfold M_z03
  rw [cutL_all]
theorem Q_pWalk (l : List NodeS) (hl : Nodes l) (n : Int) (b mt : List Int) (h : b.length < 1000000000) : Q_z0y l n b.length b mt.length mt =
    some (((walkV l (bytesOf b)).2.1, ((walkV l (bytesOf b)).2.2, ())), (((), ((walkV l (bytesOf b)).1.length, ((), (n, ())))), ((b.length, ()), (b, ((mt.length, ()), (mt, ((walkV l (bytesOf b)).1, ()))))))) := by
  have hT : Q_z04 n b.length b mt.length mt = some ((bytesOf b, ()), (((), ((), ((), (n, ())))), ((b.length, ()), (b, ((mt.length, ()), (mt, ())))))) := by
    refine fin ?_
    unfold M_z04
    simp only [ok_z03, q_z03, Q_bText, RS.get, Option.getD_some, Option.isSome_some, cond_true]
  refine fin ?_
  unfold M_z0y
  simp only [ok_z04, q_z04, hT, RS.get, Option.getD_some, Option.isSome_some, cond_true, ok_z0x, q_z0x, Q_Walk l hl (bytesOf b) (by rw [bytesOf_size]; exact h)]

/-- The headers found. -/
noncomputable def hdsV (l : List NodeS) (s : ByteArray) : List HeadS := (walkV l s).1
theorem pk_ok (l : List NodeS) (s : ByteArray) (h : s.size ≤ 9216) : PkOk (hdsV l s) (bytesL s) zeros where
  bB := bytesL_isB s
  mB := zeros_isB
  bl := by rw [bytesL_length]; omega
  ml := by decide
  hl := by have := walkV_bound l s; unfold hdsV; omega
  at_ := fun x hx => by have := walkV_at l s x hx; omega
/-! -: KeyGone -/
end Go.AMach
