/- Numbers of 128 bits as natural numbers; texts of fields. -/
import Derived.Test.YtcngpijmkdpbgaaGc
import Derived.Test.YtcngpijmkdpbgaaAm23
namespace Go.AMach
set_option linter.unusedVariables false
set_option linter.unusedSimpArgs false
set_option linter.unnecessarySimpa false
open Go
set_option linter.unusedVariables false

/-- A number of 128 bits. -/
def wN (v : Nat) : WordS := W2 (v / 18446744073709551616) (v % 18446744073709551616)
theorem wN_of (h l : Nat) (hl : l < 18446744073709551616) : W2 h l = wN (h * 18446744073709551616 + l) := by
  unfold wN
  congr 1 <;> omega
theorem wN_zero : wN 0 = ((0, (0, ())) : WordS) := rfl
theorem wN_inj {a b : Nat} (h : wN a = wN b) : a = b := by
  unfold wN W2 at h
  simp only [Prod.mk.injEq] at h
  obtain ⟨h1, h2, _⟩ := h
  omega
theorem bv128 (bf : Nat → Nat) (off : Nat) {w : Nat} (h : w ≤ 128) : bv bf off w < 340282366920938463463374607431768211456 :=
  Nat.lt_of_lt_of_le (bv_lt bf off w) (Nat.le_trans (Nat.pow_le_pow_right (by decide) h) (by decide))

theorem getP_wN (bf : Nat → Nat) (hb : ∀ i, bf i < 256) (off w : Nat) (h1 : 1 ≤ w) (h2 : w ≤ 128) : getP (fun i => (bf i : Int)) off w = wN (bv bf off w) := by
  obtain ⟨h, l, e, hh, hl, hv⟩ := getP_val bf hb off w h1 h2
  rw [e, wN_of h l hl, hv]

theorem div_lift (h l n : Nat) (hn : n ≤ 64) (hl : l < 18446744073709551616) : (h * 18446744073709551616 + l) / 2 ^ n = h * 2 ^ (64 - n) + l / 2 ^ n := by
  have e : (18446744073709551616 : Nat) = 2 ^ (64 - n) * 2 ^ n := by rw [← Nat.pow_add, show 64 - n + n = 64 by omega]
  have hp : 0 < 2 ^ n := Nat.two_pow_pos _
  rw [show h * 18446744073709551616 + l = l + 2 ^ n * (h * 2 ^ (64 - n)) by rw [e, Nat.mul_comm (2 ^ n), Nat.mul_assoc]; omega, Nat.add_mul_div_left _ _ hp]
  omega

theorem fdiv_nat (a k : Nat) : Int.fdiv (a : Int) (2 ^ k) = ((a / 2 ^ k : Nat) : Int) := by
  rw [Int.fdiv_eq_ediv_of_nonneg _ (Int.le_of_lt (Int.pow_pos (by decide)))]
  push_cast; rfl
theorem Right_N (v k : Nat) (hk : k ≤ 127) (hv : v < 340282366920938463463374607431768211456) : (q_z0n (wN v) (k : Int)).1.1 = wN (v / 2 ^ k) := by
  have hh : v / 18446744073709551616 < 18446744073709551616 := by omega
  have hl : v % 18446744073709551616 < 18446744073709551616 := Nat.mod_lt _ (by decide)
  have hvv : v = v / 18446744073709551616 * 18446744073709551616 + v % 18446744073709551616 := by omega
  have hM : M_z0n FUEL (wN v) (k : Int) = some (encRes ro_z0n rh_z0n ((wN (v / 2 ^ k), ()), ())) := by
    unfold M_z0n
    simp only [cond_dec]
    by_cases h0 : k = 0
    · subst h0
      rw [if_pos (by omega), Nat.pow_zero, Nat.div_one]
    · rw [if_neg (by omega)]
      by_cases h64 : 64 ≤ k
      · rw [if_pos (by omega)]
        have e1 : IntKind.wrap .i64 ((k : Int) - 64) = ((k - 64 : Nat) : Int) := by rw [IntWalk.i64_in _ (by omega)]; omega
        rw [e1, if_pos (by omega), toNat_cast]
        have b1 : min (k - 64) (IntKind.bits .u64) = k - 64 := Nat.min_eq_left (by show k - 64 ≤ 64; omega)
        rw [b1]
        have e3 : Int.fdiv (wN v).1 (2 ^ (k - 64)) = ((v / 18446744073709551616 / 2 ^ (k - 64) : Nat) : Int) := fdiv_nat _ _
        have e4 : v / 2 ^ k = v / 18446744073709551616 / 2 ^ (k - 64) := by
          rw [Nat.div_div_eq_div_mul, show (18446744073709551616 : Nat) = 2 ^ 64 from rfl, ← Nat.pow_add, show 64 + (k - 64) = k by omega]
        rw [e3, e4]
        have hq : v / 18446744073709551616 / 2 ^ (k - 64) < 18446744073709551616 := Nat.lt_of_le_of_lt (Nat.div_le_self _ _) hh
        generalize v / 18446744073709551616 / 2 ^ (k - 64) = q at hq ⊢
        have : wN q = W2 0 q := by rw [wN_of 0 q hq, Nat.zero_mul, Nat.zero_add]
        rw [this]; rfl
      · rw [if_neg (by omega), if_pos (by omega), if_pos (by omega)]
        have e1 : IntKind.wrap .i64 (64 - (k : Int)) = ((64 - k : Nat) : Int) := by rw [IntWalk.i64_in _ (by omega)]; omega
        rw [e1, if_pos (by omega), toNat_cast, toNat_cast]
        have b1 : min k (IntKind.bits .u64) = k := Nat.min_eq_left (by show k ≤ 64; omega)
        have b2 : min (64 - k) (IntKind.bits .u64) = 64 - k := Nat.min_eq_left (by show 64 - k ≤ 64; omega)
        rw [b1, b2]
        generalize hH : v / 18446744073709551616 = H at hh hvv
        generalize hL : v % 18446744073709551616 = L at hl hvv
        have hw : wN v = W2 H L := by unfold wN; rw [hH, hL]
        rw [hw]
        have hp : 0 < 2 ^ k := Nat.two_pow_pos _
        have e2 : IntKind.wrap .u64 ((W2 H L).1 * 2 ^ (64 - k)) = ((2 ^ (64 - k) * (H % 2 ^ k) : Nat) : Int) := by
          have : ((W2 H L).1 * 2 ^ (64 - k)) = ((H * 2 ^ (64 - k) : Nat) : Int) := by unfold W2; push_cast; rfl
          rw [this, wrapU]
          congr 1
          rw [show (18446744073709551616 : Nat) = 2 ^ k * 2 ^ (64 - k) by rw [← Nat.pow_add, show k + (64 - k) = 64 by omega], Nat.mul_mod_mul_right, Nat.mul_comm]
        have e3 : Int.fdiv (W2 H L).2.1 (2 ^ k) = ((L / 2 ^ k : Nat) : Int) := by
          unfold W2
          rw [Int.fdiv_eq_ediv_of_nonneg _ (Int.le_of_lt (Int.pow_pos (by decide)))]
          push_cast; rfl
        have e4 : Int.fdiv (W2 H L).1 (2 ^ k) = ((H / 2 ^ k : Nat) : Int) := by
          unfold W2
          rw [Int.fdiv_eq_ediv_of_nonneg _ (Int.le_of_lt (Int.pow_pos (by decide)))]
          push_cast; rfl
        have hs : L / 2 ^ k < 2 ^ (64 - k) := by
          rw [Nat.div_lt_iff_lt_mul hp, ← Nat.pow_add, show 64 - k + k = 64 by omega]; exact hl
        have hm : H % 2 ^ k < 2 ^ k := Nat.mod_lt _ hp
        have hs2 : 2 ^ (64 - k) * (H % 2 ^ k) + L / 2 ^ k < 18446744073709551616 := by
          have : 2 ^ (64 - k) * (H % 2 ^ k + 1) ≤ 2 ^ (64 - k) * 2 ^ k := Nat.mul_le_mul_left _ hm
          rw [← Nat.pow_add, show 64 - k + k = 64 by omega, Nat.mul_add, Nat.mul_one] at this
          exact Nat.lt_of_lt_of_le (Nat.add_lt_add_left hs _) this
        simp only [e2, e3, e4]
        have hor := orU (L / 2 ^ k) (2 ^ (64 - k) * (H % 2 ^ k)) (Nat.lt_of_le_of_lt (Nat.div_le_self _ _) hl) (Nat.lt_of_le_of_lt (Nat.le_add_right _ _) hs2)
        rw [hor, Nat.or_comm, or_add _ _ _ hs]
        have hval : v / 2 ^ k = H / 2 ^ k * 18446744073709551616 + (2 ^ (64 - k) * (H % 2 ^ k) + L / 2 ^ k) := by
          rw [hvv, div_lift H L k (by omega) hl]
          have : H = 2 ^ k * (H / 2 ^ k) + H % 2 ^ k := (Nat.div_add_mod _ _).symm
          have h2 : H * 2 ^ (64 - k) = H / 2 ^ k * 18446744073709551616 + 2 ^ (64 - k) * (H % 2 ^ k) := by
            conv => lhs; rw [this]
            rw [Nat.add_mul, show (18446744073709551616 : Nat) = 2 ^ k * 2 ^ (64 - k) by rw [← Nat.pow_add, show k + (64 - k) = 64 by omega], Nat.mul_comm (H % 2 ^ k)]
            rw [Nat.mul_comm (2 ^ k) (H / 2 ^ k), Nat.mul_assoc]
          omega
        rw [hval, ← wN_of _ _ hs2]
        rfl
  have : Q_z0n (wN v) (k : Int) = some ((wN (v / 2 ^ k), ()), ()) := fin hM
  unfold q_z0n
  rw [this]; rfl

theorem Cut_N (v w : Nat) (hw : w ≤ 128) (hv : v < 340282366920938463463374607431768211456) : (q_z0q (wN v) (w : Int)).1.1 = wN (v % 2 ^ w) := by
  unfold wN
  rw [Cut_val _ _ w hw (by omega) (Nat.mod_lt _ (by decide))]
  by_cases h : w ≤ 64
  · have e1 : w - 64 = 0 := by omega
    rw [e1, Nat.min_eq_left h]
    have hd : (2 : Nat) ^ w ∣ 18446744073709551616 := by rw [show (18446744073709551616 : Nat) = 2 ^ 64 from rfl]; exact Nat.pow_dvd_pow 2 h
    have hlt : v % 2 ^ w < 18446744073709551616 := Nat.lt_of_lt_of_le (Nat.mod_lt _ (Nat.two_pow_pos _)) (Nat.le_trans (Nat.pow_le_pow_right (by decide) h) (by decide))
    rw [Nat.mod_mod_of_dvd _ hd, Nat.mod_eq_of_lt hlt, Nat.div_eq_of_lt hlt]
    simp [Nat.mod_one]
  · rw [Nat.min_eq_right (by omega), show (2 : Nat) ^ 64 = 18446744073709551616 from rfl, Nat.mod_mod]
    have e : (2 : Nat) ^ w = 18446744073709551616 * 2 ^ (w - 64) := by rw [show (18446744073709551616 : Nat) = 2 ^ 64 from rfl, ← Nat.pow_add, show 64 + (w - 64) = w by omega]
    rw [e, Nat.mod_mul]
    congr 1
    · rw [Nat.add_mul_div_left _ _ (by decide), Nat.div_eq_of_lt (Nat.mod_lt _ (by decide))]; omega
    · rw [Nat.add_mul_mod_self_left, Nat.mod_mod]

/-! -: Bytes -/
def u8 (x : Int) : UInt8 := UInt8.ofNat x.toNat
theorem foldl_push (l : List Int) : ∀ (b : ByteArray), (l.foldl (fun r n => r.push (UInt8.ofNat n.toNat)) b).data.toList = b.data.toList ++ l.map u8 := by
  induction l with
  | nil => intro b; simp
  | cons x l ih =>
    intro b
    rw [List.foldl_cons, ih]
    show (b.data.push _).toList ++ _ = _
    simp [u8]
theorem bytesOf_list (l : List Int) : (bytesOf l).data.toList = l.map u8 := by
  unfold bytesOf
  rw [foldl_push]; simp
theorem bytesOf_size (l : List Int) : (bytesOf l).size = l.length := by
  have := congrArg List.length (bytesOf_list l)
  simpa using this
/-- Are these bytes? -/
def isB (l : List Int) : Prop := ∀ x ∈ l, 0 ≤ x ∧ x ≤ 255
theorem u8_nat {x : Int} (h : 0 ≤ x ∧ x ≤ 255) : (((u8 x).toNat : Nat) : Int) = x := by
  unfold u8
  rw [UInt8.toNat_ofNat']
  omega
theorem byteAt_bytesOf {l : List Int} (hl : isB l) {i : Nat} (hi : i < l.length) : byteAt (bytesOf l) i = rdd 0 l i := by
  unfold byteAt
  rw [bytesOf_list, List.getD_eq_getElem?_getD, List.getElem?_map, List.getElem?_eq_getElem hi, rdd_lt hi]
  exact u8_nat (hl _ (List.getElem_mem hi))
theorem bytesL_isB (s : ByteArray) : isB (bytesL s) := fun x hx => by
  unfold bytesL at hx
  simp only [List.mem_map] at hx
  obtain ⟨b, _, rfl⟩ := hx
  have := UInt8.toNat_lt b
  omega
theorem bytesL_length (s : ByteArray) : (bytesL s).length = s.size := by simp [bytesL]
theorem ba_ext' {a b : ByteArray} (h : a.data.toList = b.data.toList) : a = b := by
  cases a; cases b; simpa using h
theorem bytesOf_bytesL (s : ByteArray) : bytesOf (bytesL s) = s := by
  apply ba_ext'
  rw [bytesOf_list]
  unfold bytesL
  rw [List.map_map]
  have : (u8 ∘ fun b : UInt8 => ((b.toNat : Nat) : Int)) = id := by
    funext b
    show UInt8.ofNat (((b.toNat : Nat) : Int).toNat) = b
    rw [Int.toNat_natCast]
    simp
  rw [this]; simp
theorem bytesL_bytesOf {l : List Int} (h : isB l) : bytesL (bytesOf l) = l := by
  unfold bytesL
  rw [bytesOf_list, List.map_map]
  have : ∀ x ∈ l, ((fun b : UInt8 => ((b.toNat : Nat) : Int)) ∘ u8) x = x := fun x hx => u8_nat (h x hx)
  rw [List.map_congr_left this]; simp
theorem bytesOf_inj {a b : List Int} (ha : isB a) (hb : isB b) (h : bytesOf a = bytesOf b) : a = b := by
  rw [← bytesL_bytesOf ha, ← bytesL_bytesOf hb, h]
theorem bytesOf_extract (l : List Int) (a b : Nat) : (bytesOf l).extract a b = bytesOf ((l.take b).drop a) := by
  apply ba_ext'
  rw [bytesOf_list, ByteArray.data_extract]
  have : ((bytesOf l).data.extract a b).toList = (((bytesOf l).data.toList).take b).drop a := by simp [List.drop_take]
  rw [this, bytesOf_list, List.map_drop, List.map_take]

/-! ### The text of a field -/
/-- A number's last bytes, the highest ahead. -/
def be (n v : Nat) : List Int := mkL n fun i => ((v / 256 ^ (n - 1 - i) % 256 : Nat) : Int)
theorem be_length (n v : Nat) : (be n v).length = n := mkL_length _ _
theorem be_isB (n v : Nat) : isB (be n v) := fun x hx => by
  unfold be mkL at hx
  simp only [List.mem_map] at hx
  obtain ⟨i, _, rfl⟩ := hx
  have := Nat.mod_lt (v / 256 ^ (n - 1 - i)) (show 0 < 256 by decide)
  omega
theorem be_drop (n m v : Nat) (h : m ≤ n) : (be n v).drop (n - m) = be m v := by
  apply List.ext_getElem?
  intro i
  rw [List.getElem?_drop]
  by_cases hi : i < m
  · unfold be
    rw [mkL_get hi, mkL_get (by omega), show n - 1 - (n - m + i) = m - 1 - i by omega]
  · rw [List.getElem?_eq_none (by rw [be_length]; omega), List.getElem?_eq_none (by rw [be_length]; omega)]

theorem wrap8 (n : Nat) : IntKind.wrap .u8 (n : Int) = ((n % 256 : Nat) : Int) := by
  simp [IntKind.wrap, IntKind.bits, IntKind.signed]

/-- How many bytes a width needs. -/
def nB (w : Int) : Nat := if w < 1 ∨ w > 128 then 0 else (w.toNat + 7) / 8
/-- The text of a number, in a field. -/
def textV (v : Nat) (w : Int) : ByteArray := bytesOf (be (nB w) (v % 2 ^ w.toNat))
theorem textV_size (v : Nat) (w : Int) : (textV v w).size = nB w := by unfold textV; rw [bytesOf_size, be_length]
end Go.AMach
