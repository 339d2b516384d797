/- Parts of the proof. -/
import Derived.Test.YtcngpijmkdpbgaaGreatDx
import Derived.Test.YtcngpijmkdpbgaaGreatAm23
import Derived.Laws.Strings
import Derived.Test.YtcngpijmkdpbgaaGreatGc
/- Layer 18: the jbD of a key; texts joined. -/
namespace Go.AMach
set_option linter.unusedVariables false
set_option linter.unusedSimpArgs false
set_option linter.unnecessarySimpa false
set_option linter.unusedVariables false

theorem ba_ext {a b : ByteArray} (h : a.data.toList = b.data.toList) : a = b := by
  cases a; cases b; simpa using h
theorem jAX (a b : ByteArray) : (ByteArray.toList a == ByteArray.toList b) = decide (a = b) := by
  rw [ByteArray.toList_eq, ByteArray.toList_eq]
  by_cases h : a = b
  · simp [h]
  · rw [decide_eq_false h]
    have : a.data.toList ≠ b.data.toList := fun e => h (ba_ext e)
    simpa using this
def wOk (l : List Int) : Prop := ∀ w ∈ l, 0 ≤ w ∧ w ≤ 16
instance (l : List Int) : Decidable (wOk l) := by unfold wOk; infer_instance
def jbD : ByteArray → List Int → List ByteArray
  | _, [] => []
  | s, w :: r => s.extract 0 w.toNat :: jbD (s.extract w.toNat s.size) r
end Go.AMach

/- Numbers of 128 bits as natural numbers; texts of fields. -/
namespace Go.AMach
set_option linter.unusedVariables false
set_option linter.unusedSimpArgs false
set_option linter.unnecessarySimpa false
open Go
set_option linter.unusedVariables false

def wN (v : Nat) : jaW := W2 (v / 18446744073709551616) (v % 18446744073709551616)
theorem jCu (h l : Nat) (hl : l < 18446744073709551616) : W2 h l = wN (h * 18446744073709551616 + l) := by
  unfold wN
  congr 1 <;> omega
theorem getP_wN (bf : Nat → Nat) (hb : ∀ i, bf i < 256) (off w : Nat) (h1 : 1 ≤ w) (h2 : w ≤ 128) : getP (fun i => (bf i : Int)) off w = wN (bv bf off w) := by
  obtain ⟨h, l, e, hh, hl, hv⟩ := jyY bf hb off w h1 h2
  rw [e, jCu h l hl, hv]

theorem jLC (h l n : Nat) (hn : n ≤ 64) (hl : l < 18446744073709551616) : (h * 18446744073709551616 + l) / 2 ^ n = h * 2 ^ (64 - n) + l / 2 ^ n := by
  have e : (18446744073709551616 : Nat) = 2 ^ (64 - n) * 2 ^ n := by rw [← Nat.pow_add, show 64 - n + n = 64 by omega]
  have hp : 0 < 2 ^ n := Nat.two_pow_pos _
  rw [show h * 18446744073709551616 + l = l + 2 ^ n * (h * 2 ^ (64 - n)) by rw [e, Nat.mul_comm (2 ^ n), Nat.mul_assoc]; omega, Nat.add_mul_div_left _ _ hp]
  omega

theorem jzc (a k : Nat) : Int.fdiv (a : Int) (2 ^ k) = ((a / 2 ^ k : Nat) : Int) := by
  rw [Int.fdiv_eq_ediv_of_nonneg _ (Int.le_of_lt (Int.pow_pos (by decide)))]
  push_cast; rfl
theorem Right_N (v k : Nat) (hk : k ≤ 127) (hv : v < 340282366920938463463374607431768211456) : (jBy (wN v) (k : Int)).1.1 = wN (v / 2 ^ k) := by
  have hh : v / 18446744073709551616 < 18446744073709551616 := by omega
  have hl : v % 18446744073709551616 < 18446744073709551616 := Nat.mod_lt _ (by decide)
  have hvv : v = v / 18446744073709551616 * 18446744073709551616 + v % 18446744073709551616 := by omega
  have hM : jwP FUEL (wN v) (k : Int) = some (jaa jlw jlK ((wN (v / 2 ^ k), ()), ())) := by
    unfold jwP
    simp only [jao]
    by_cases h0 : k = 0
    · subst h0
      rw [if_pos (by omega), Nat.pow_zero, Nat.div_one]
    · rw [if_neg (by omega)]
      by_cases h64 : 64 ≤ k
      · rw [if_pos (by omega)]
        have e1 : IntKind.wrap .i64 ((k : Int) - 64) = ((k - 64 : Nat) : Int) := by rw [IntWalk.i64_in _ (by omega)]; omega
        rw [e1, if_pos (by omega), jal]
        have b1 : min (k - 64) (IntKind.bits .u64) = k - 64 := Nat.min_eq_left (by show k - 64 ≤ 64; omega)
        rw [b1]
        have e3 : Int.fdiv (wN v).1 (2 ^ (k - 64)) = ((v / 18446744073709551616 / 2 ^ (k - 64) : Nat) : Int) := jzc _ _
        have e4 : v / 2 ^ k = v / 18446744073709551616 / 2 ^ (k - 64) := by
          rw [Nat.div_div_eq_div_mul, show (18446744073709551616 : Nat) = 2 ^ 64 from rfl, ← Nat.pow_add, show 64 + (k - 64) = k by omega]
        rw [e3, e4]
        have hq : v / 18446744073709551616 / 2 ^ (k - 64) < 18446744073709551616 := Nat.lt_of_le_of_lt (Nat.div_le_self _ _) hh
        generalize v / 18446744073709551616 / 2 ^ (k - 64) = q at hq ⊢
        have : wN q = W2 0 q := by rw [jCu 0 q hq, Nat.zero_mul, Nat.zero_add]
        rw [this]; rfl
      · rw [if_neg (by omega), if_pos (by omega), if_pos (by omega)]
        have e1 : IntKind.wrap .i64 (64 - (k : Int)) = ((64 - k : Nat) : Int) := by rw [IntWalk.i64_in _ (by omega)]; omega
        rw [e1, if_pos (by omega), jal, jal]
        have b1 : min k (IntKind.bits .u64) = k := Nat.min_eq_left (by show k ≤ 64; omega)
        have b2 : min (64 - k) (IntKind.bits .u64) = 64 - k := Nat.min_eq_left (by show 64 - k ≤ 64; omega)
        rw [b1, b2]
        generalize hH : v / 18446744073709551616 = H at hh hvv
        generalize hL : v % 18446744073709551616 = L at hl hvv
        have hw : wN v = W2 H L := by unfold wN; rw [hH, hL]
        rw [hw]
        have hp : 0 < 2 ^ k := Nat.two_pow_pos _
        have e2 : IntKind.wrap .u64 ((W2 H L).1 * 2 ^ (64 - k)) = ((2 ^ (64 - k) * (H % 2 ^ k) : Nat) : Int) := by
          have : ((W2 H L).1 * 2 ^ (64 - k)) = ((H * 2 ^ (64 - k) : Nat) : Int) := by unfold W2; push_cast; rfl
          rw [this, jiW]
          congr 1
          rw [show (18446744073709551616 : Nat) = 2 ^ k * 2 ^ (64 - k) by rw [← Nat.pow_add, show k + (64 - k) = 64 by omega], Nat.mul_mod_mul_right, Nat.mul_comm]
        have e3 : Int.fdiv (W2 H L).2.1 (2 ^ k) = ((L / 2 ^ k : Nat) : Int) := by
          unfold W2
          rw [Int.fdiv_eq_ediv_of_nonneg _ (Int.le_of_lt (Int.pow_pos (by decide)))]
          push_cast; rfl
        have e4 : Int.fdiv (W2 H L).1 (2 ^ k) = ((H / 2 ^ k : Nat) : Int) := by
          unfold W2
          rw [Int.fdiv_eq_ediv_of_nonneg _ (Int.le_of_lt (Int.pow_pos (by decide)))]
          push_cast; rfl
        have hs : L / 2 ^ k < 2 ^ (64 - k) := by
          rw [Nat.div_lt_iff_lt_mul hp, ← Nat.pow_add, show 64 - k + k = 64 by omega]; exact hl
        have hm : H % 2 ^ k < 2 ^ k := Nat.mod_lt _ hp
        have hs2 : 2 ^ (64 - k) * (H % 2 ^ k) + L / 2 ^ k < 18446744073709551616 := by
          have : 2 ^ (64 - k) * (H % 2 ^ k + 1) ≤ 2 ^ (64 - k) * 2 ^ k := Nat.mul_le_mul_left _ hm
          rw [← Nat.pow_add, show 64 - k + k = 64 by omega, Nat.mul_add, Nat.mul_one] at this
          exact Nat.lt_of_lt_of_le (Nat.add_lt_add_left hs _) this
        simp only [e2, e3, e4]
        have hor := orU (L / 2 ^ k) (2 ^ (64 - k) * (H % 2 ^ k)) (Nat.lt_of_le_of_lt (Nat.div_le_self _ _) hl) (Nat.lt_of_le_of_lt (Nat.le_add_right _ _) hs2)
        rw [hor, Nat.or_comm, jgE _ _ _ hs]
        have hval : v / 2 ^ k = H / 2 ^ k * 18446744073709551616 + (2 ^ (64 - k) * (H % 2 ^ k) + L / 2 ^ k) := by
          rw [hvv, jLC H L k (by omega) hl]
          have : H = 2 ^ k * (H / 2 ^ k) + H % 2 ^ k := (Nat.div_add_mod _ _).symm
          have h2 : H * 2 ^ (64 - k) = H / 2 ^ k * 18446744073709551616 + 2 ^ (64 - k) * (H % 2 ^ k) := by
            conv => lhs; rw [this]
            rw [Nat.add_mul, show (18446744073709551616 : Nat) = 2 ^ k * 2 ^ (64 - k) by rw [← Nat.pow_add, show k + (64 - k) = 64 by omega], Nat.mul_comm (H % 2 ^ k)]
            rw [Nat.mul_comm (2 ^ k) (H / 2 ^ k), Nat.mul_assoc]
          omega
        rw [hval, ← jCu _ _ hs2]
        rfl
  have : jCe (wN v) (k : Int) = some ((wN (v / 2 ^ k), ()), ()) := fin hM
  unfold jBy
  rw [this]; rfl

def u8 (x : Int) : UInt8 := UInt8.ofNat x.toNat
theorem jBI (l : List Int) : ∀ (b : ByteArray), (l.foldl (fun r n => r.push (UInt8.ofNat n.toNat)) b).data.toList = b.data.toList ++ l.map u8 := by
  induction l with
  | nil => intro b; simp
  | cons x l ih =>
    intro b
    rw [List.foldl_cons, ih]
    show (b.data.push _).toList ++ _ = _
    simp [u8]
theorem jbn (l : List Int) : (bytesOf l).data.toList = l.map u8 := by
  unfold bytesOf
  rw [jBI]; simp
theorem jaw (l : List Int) : (bytesOf l).size = l.length := by
  have := congrArg List.length (jbn l)
  simpa using this
def isB (l : List Int) : Prop := ∀ x ∈ l, 0 ≤ x ∧ x ≤ 255
theorem jCx {x : Int} (h : 0 ≤ x ∧ x ≤ 255) : (((u8 x).toNat : Nat) : Int) = x := by
  unfold u8
  rw [UInt8.toNat_ofNat']
  omega
theorem jnJ {l : List Int} (hl : isB l) {i : Nat} (hi : i < l.length) : jbs (bytesOf l) i = rdd 0 l i := by
  unfold jbs
  rw [jbn, List.getD_eq_getElem?_getD, List.getElem?_map, List.getElem?_eq_getElem hi, jbd hi]
  exact jCx (hl _ (List.getElem_mem hi))
theorem jgy (s : ByteArray) : isB (jax s) := fun x hx => by
  unfold jax at hx
  simp only [List.mem_map] at hx
  obtain ⟨b, _, rfl⟩ := hx
  have := UInt8.toNat_lt b
  omega
theorem jba (s : ByteArray) : (jax s).length = s.size := by simp [jax]
theorem jvG {a b : ByteArray} (h : a.data.toList = b.data.toList) : a = b := by
  cases a; cases b; simpa using h
theorem jgK (s : ByteArray) : bytesOf (jax s) = s := by
  apply jvG
  rw [jbn]
  unfold jax
  rw [List.map_map]
  have : (u8 ∘ fun b : UInt8 => ((b.toNat : Nat) : Int)) = id := by
    funext b
    show UInt8.ofNat (((b.toNat : Nat) : Int).toNat) = b
    rw [Int.toNat_natCast]
    simp
  rw [this]; simp
theorem jbc {l : List Int} (h : isB l) : jax (bytesOf l) = l := by
  unfold jax
  rw [jbn, List.map_map]
  have : ∀ x ∈ l, ((fun b : UInt8 => ((b.toNat : Nat) : Int)) ∘ u8) x = x := fun x hx => jCx (h x hx)
  rw [List.map_congr_left this]; simp
theorem jbl (l : List Int) (a b : Nat) : (bytesOf l).extract a b = bytesOf ((l.take b).drop a) := by
  apply jvG
  rw [jbn, ByteArray.data_extract]
  have : ((bytesOf l).data.extract a b).toList = (((bytesOf l).data.toList).take b).drop a := by simp [List.drop_take]
  rw [this, jbn, List.map_drop, List.map_take]

def be (n v : Nat) : List Int := mkL n fun i => ((v / 256 ^ (n - 1 - i) % 256 : Nat) : Int)
end Go.AMach

/- A packet: its fields and their texts. -/
namespace Go.AMach
set_option linter.unusedVariables false
set_option linter.unusedSimpArgs false
set_option linter.unnecessarySimpa false
open Go
set_option linter.unusedVariables false

def bl (b : List Int) (i : Nat) : Nat := (rdd 0 b i).toNat
theorem jvt {b : List Int} (h : isB b) (i : Nat) : 0 ≤ rdd 0 b i ∧ rdd 0 b i ≤ 255 := by
  by_cases hi : i < b.length
  · exact h _ (jbO hi)
  · rw [rdd_ge (by omega)]; omega
theorem bl_lt {b : List Int} (h : isB b) (i : Nat) : bl b i < 256 := by have := jvt h i; unfold bl; omega
theorem jvE {b : List Int} (h : isB b) (i : Nat) : ((bl b i : Nat) : Int) = rdd 0 b i := by have := jvt h i; unfold bl; omega
def getB (b : List Int) (off w : Int) : Option Nat := if 0 ≤ off ∧ 1 ≤ w ∧ w ≤ 128 ∧ off + w ≤ 8 * (b.length : Int) then some (bv (bl b) off.toNat w.toNat) else none
def getE (off w : Int) : Int := if w < 1 then 1 else if w > 128 then 1 else if off < 0 then 1 else 4
theorem jfP (off w : Int) : getE off w ≠ 0 := by unfold getE; split; decide; split; decide; split <;> decide

theorem jNs (s : ByteArray) (off w : Int) (hs : s.size < 1000000000) (ho : off ≤ 9223372036854775807)
    (h : ¬ (0 ≤ off ∧ 1 ≤ w ∧ w ≤ 128 ∧ off + w ≤ 8 * (s.size : Int))) : jJK s off w = some (((wN 0), (getE off w, ())), ()) := by
  have hm : jCh s off w = some ((getE off w, ()), ()) := by
    refine fin ?_
    unfold jCq getE
    simp only [jao]
    refine jbU (fun h1 => by rw [if_pos h1]) fun h1 => ?_
    rw [if_neg h1]
    refine jbU (fun h2 => by rw [if_pos h2]) fun h2 => ?_
    rw [if_neg h2]
    refine jbU (fun h3 => by rw [if_pos h3]) fun h3 => ?_
    rw [if_neg h3, IntWalk.i64_in (8 * (s.size : Int)) (by omega), IntWalk.i64_in _ (by omega), if_pos (by omega)]
  refine fin ?_
  unfold jKt
  simp only [jox, jBz, hm, RS.get, Option.getD_some, Option.isSome_some, cond_true, jaV]
  rw [decide_eq_false (jfP off w), Bool.not_false, cond_true]
  rfl

theorem jAE {f g : Nat → Nat} {off : Nat} : ∀ (w : Nat), (∀ i, off ≤ i → i < off + w → jbC f i = jbC g i) → bv f off w = bv g off w
  | 0, _ => rfl
  | w + 1, h => by
    rw [joI f off w 1, joI g off w 1, jAE w fun i h1 h2 => h i h1 (by omega)]
    congr 1
    show 2 * 0 + jbC f (off + w) = 2 * 0 + jbC g (off + w)
    rw [h (off + w) (by omega) (by omega)]
theorem jhg {f g : Nat → Nat} {i : Nat} (h : f (i / 8) = g (i / 8)) : jbC f i = jbC g i := by unfold jbC; rw [h]

theorem decs_hs {id e fr n : Nat} {r : List EK} {xs : List AV} (h : fr ≠ e) : EK.decs (.hs id e :: r) (.hs false id fr n :: xs) = none := by
  have : EK.dec (.hs id e) (.hs false id fr n) = none := if_neg fun k => h k.2
  simp only [EK.decs, this]
theorem dec_off {fr n : Nat} {y : Int} {x : HK.sems jgm} (h : fr ≠ 0) : jap jkq jlI (some (jaa jgi jgm (((fr, n), (y, ())), x))) = none := by
  unfold jap jaa
  simp only [EK.encs, EK.enc, jtj, unOr, jkq, jgi, decs_hs h, List.length]

theorem Q_bit (fr off : Int) (h : 0 ≤ fr ∧ fr ≤ 1000000) (ho : off ≤ 9223372036854775807) : jCb fr off = some ((((if off < 0 then -1 else 8 * fr + min off 147456 : Int)), ()), ()) := by
  refine fin ?_
  unfold jOg
  simp only [jao]
  by_cases h0 : off < 0
  · rw [if_pos h0, if_pos h0]
  · rw [if_neg h0, if_neg h0]
    have e : (if (147456 : Int) < off then (147456 : Int) else off) = min off 147456 := by
      by_cases h1 : (147456 : Int) < off
      · rw [if_pos h1]; omega
      · rw [if_neg h1]; omega
    rw [e, IntWalk.i64_in (8 * fr) (by omega), IntWalk.i64_in _ (by omega)]

def atOf (hs : List jan) (id : Int) : Option Int := (hs.find? fun h => decide (h.1 = id)).map fun h => h.2.1
def jch (hs : List jan) (b mt : List Int) (f : jaB) : Option (List Int × Int) :=
  if f.2.1 = 1 then some (b, 0) else if f.2.1 = 3 then some (mt, 0) else if f.2.1 = 2 then (atOf hs f.2.2.1).map fun a => (b, a) else none
def bitV (fr off : Int) : Int := if off < 0 then -1 else 8 * fr + min off 147456
def getF (hs : List jan) (b mt : List Int) (f : jaB) : Except Int Nat := match jch hs b mt f with
  | none => .error 3
  | some (c, a) => match getB c (bitV a f.2.2.2.1) f.2.2.2.2.1 with
    | none => .error 1
    | some v => .ok v

structure PkOk (hs : List jan) (b mt : List Int) : Prop where
  bB : isB b
  mB : isB mt
  bl : b.length ≤ 100000
  ml : mt.length ≤ 100000
  hl : hs.length ≤ 1000000
  at_ : ∀ h ∈ hs, 0 ≤ h.2.1 ∧ h.2.1 ≤ 1000000
theorem jhh {hs : List jan} {b mt : List Int} (P : PkOk hs b mt) {id a : Int} (h : atOf hs id = some a) : 0 ≤ a ∧ a ≤ 1000000 := by
  unfold atOf at h
  cases hf : hs.find? (fun h => decide (h.1 = id)) with
  | none => rw [hf] at h; cases h
  | some x =>
    rw [hf] at h
    cases h
    exact P.at_ x (List.mem_of_find?_eq_some hf)
theorem dec_p0 {y z : Int} {x : HK.sems jeF} : jap jlu jeF (some (jaa jgj jgn (((), (y, (z, ()))), x))) = none := rfl
theorem dec_p1 {y z : Int} {x : HK.sems jeF} : jap jlu jeF (some (jaa jeS jeV (((), (y, (z, ()))), x))) = none := rfl
theorem dec_p2 {y z : Int} {x : HK.sems jeF} : jap jgj jgn (some (jaa jeS jeV (((), (y, (z, ()))), x))) = none := rfl

end Go.AMach

/- Hashes: a byte taken in, and a number jEz, are told from another. -/
namespace Go.AMach
set_option linter.unusedVariables false
set_option linter.unusedSimpArgs false
set_option linter.unnecessarySimpa false
open Go
set_option linter.unusedVariables false

def nats (s : ByteArray) : List Nat := s.data.toList.map fun b => b.toNat
theorem jbr (s : ByteArray) : (nats s).length = s.size := by simp [nats]
theorem jpW (s : ByteArray) {b : Nat} (h : b ∈ nats s) : b < 256 := by
  unfold nats at h
  simp only [List.mem_map] at h
  obtain ⟨x, _, rfl⟩ := h
  exact UInt8.toNat_lt x
theorem jhe (s : ByteArray) {i : Nat} (h : i < s.size) : jbs s i = (((nats s).getD i 0 : Nat) : Int) := by
  unfold jbs nats
  rw [List.getD_eq_getElem?_getD, List.getD_eq_getElem?_getD, List.getElem?_map, List.getElem?_eq_getElem (by simpa using h)]
  rfl

end Go.AMach

/- Keys of a packet. -/
namespace Go.AMach
set_option linter.unusedVariables false
set_option linter.unusedSimpArgs false
set_option linter.unnecessarySimpa false
open Go
set_option linter.unusedVariables false

theorem jKN {x : jai} {s : ByteArray} {a : Int} (h : (jed x s a).2 = 0) : 0 ≤ a ∧ a ≤ (s.size : Int) := by
  unfold jed at h
  by_cases h1 : ¬ mayL x
  · rw [if_pos h1] at h; simp at h
  rw [if_neg h1] at h
  by_cases h2 : x.2.2.2.1 > 0
  · rw [if_pos h2] at h
    split at h
    · simp at h
    · have := jmm h; omega
  · rw [if_neg h2] at h
    have := jmm h; omega
theorem W_at (l : List jai) (s : ByteArray) : ∀ (f : Nat) (at_ : Int) (x : jai), ∀ h ∈ (W l s f at_ x).1, 0 ≤ h.2.1 ∧ h.2.1 ≤ (s.size : Int)
  | 0, at_, x => by simp [W]
  | f + 1, at_, x => by
    simp only [W]
    by_cases c1 : (jed x s at_).2 ≠ 0
    · rw [if_pos c1]; simp
    rw [if_neg c1]
    have ha := jKN (Classical.byContradiction fun k => c1 k)
    by_cases c2 : (jco l x s at_).2 ≠ 0
    · rw [if_pos c2]; simpa using ha
    rw [if_neg c2]
    split
    · simpa using ha
    · rename_i y _
      intro h hh
      rcases List.mem_cons.1 hh with rfl | hh
      · exact ha
      · exact W_at l s f _ y h hh
theorem jwX (l : List jai) (s : ByteArray) : ∀ h ∈ (jbg l s).1, 0 ≤ h.2.1 ∧ h.2.1 ≤ (s.size : Int) := by
  unfold jbg
  split
  · split
    · exact W_at l s 64 0 _
    · simp
  · simp

theorem jLy {hs : List jan} {b mt : List Int} {f : jaB} {r : Int} (h : getF hs b mt f = .error r) : r = 1 ∨ r = 3 := by
  unfold getF at h
  split at h
  · cases h; exact .inr rfl
  · split at h
    · cases h; exact .inl rfl
    · cases h
end Go.AMach

/- A number put into bytes; into a packet. -/
namespace Go.AMach
set_option linter.unusedVariables false
set_option linter.unusedSimpArgs false
set_option linter.unnecessarySimpa false
open Go
set_option linter.unusedVariables false

def bvG (g : Nat → Nat) (off : Nat) : Nat → Nat
  | 0 => 0
  | w + 1 => 2 * bvG g off w + g (off + w)
theorem jQO (bf : Nat → Nat) (off : Nat) : ∀ w, bv bf off w = bvG (jbC bf) off w
  | 0 => rfl
  | w + 1 => by simp only [bv, bvG, jQO bf off w]
theorem jun {g g' : Nat → Nat} {off : Nat} : ∀ w, (∀ i, off ≤ i → i < off + w → g i = g' i) → bvG g off w = bvG g' off w
  | 0, _ => rfl
  | w + 1, h => by
    simp only [bvG]
    rw [jun w fun i h1 h2 => h i h1 (by omega), h (off + w) (by omega) (by omega)]
theorem jQP {b : List Int} (hb : isB b) (i : Nat) : bl b i = bvG (jbC (bl b)) (8 * i) 8 := by
  rw [← jQO, jqg _ _ _ (by omega), Nat.sub_self, Nat.pow_zero, Nat.div_one, Nat.mod_eq_of_lt (bl_lt hb i)]
theorem jLU (bf : Nat → Nat) (i : Nat) : jbC bf i < 2 := Nat.mod_lt _ (by decide)
theorem juk {a b : List Int} (ha : isB a) (hb : isB b) (hl : a.length = b.length) (h : ∀ p, p < 8 * a.length → jbC (bl a) p = jbC (bl b) p) : a = b := by
  apply List.ext_getElem hl
  intro i h1 h2
  have e : bl a i = bl b i := by
    rw [jQP ha, jQP hb]
    exact jun 8 fun p q1 q2 => h p (by omega)
  have ea := jvE ha i
  have eb := jvE hb i
  rw [jbd h1] at ea
  rw [jbd h2] at eb
  rw [← ea, ← eb, e]

def jbE (b : List Int) (off w v : Nat) (p : Nat) : Nat := if off ≤ p ∧ p < off + w then v / 2 ^ (off + w - 1 - p) % 2 else jbC (bl b) p
def putN (b : List Int) (off w v : Nat) : List Int := mkL b.length fun i => ((bvG (jbE b off w v) (8 * i) 8 : Nat) : Int)
theorem jAF {g : Nat → Nat} {off : Nat} (hg : ∀ i, g i < 2) : ∀ w, bvG g off w < 2 ^ w
  | 0 => by simp [bvG]
  | w + 1 => by
    have := jAF (off := off) hg w
    have := hg (off + w)
    simp only [bvG, Nat.pow_succ]; omega
theorem jfD (b : List Int) (off w v p : Nat) : jbE b off w v p < 2 := by
  unfold jbE
  split
  · exact Nat.mod_lt _ (by decide)
  · exact jLU _ _
theorem jbG (b : List Int) (off w v : Nat) : (putN b off w v).length = b.length := jaZ _ _
theorem jgq (b : List Int) (off w v : Nat) : isB (putN b off w v) := fun x hx => by
  unfold putN mkL at hx
  simp only [List.mem_map] at hx
  obtain ⟨i, _, rfl⟩ := hx
  have := jAF (off := 8 * i) (jfD b off w v) 8
  omega
theorem jLR {g : Nat → Nat} (hg : ∀ i, g i < 2) (o : Nat) {k : Nat} (hk : k < 8) : bvG g o 8 / 2 ^ (7 - k) % 2 = g (o + k) := by
  have h0 := hg (o + 0); have h1 := hg (o + 1); have h2 := hg (o + 2); have h3 := hg (o + 3)
  have h4 := hg (o + 4); have h5 := hg (o + 5); have h6 := hg (o + 6); have h7 := hg (o + 7)
  have e : bvG g o 8 = 128 * g (o + 0) + 64 * g (o + 1) + 32 * g (o + 2) + 16 * g (o + 3) + 8 * g (o + 4) + 4 * g (o + 5) + 2 * g (o + 6) + g (o + 7) := by
    simp only [bvG]; omega
  rw [e]
  match k, hk with
  | 0, _ => show _ / 128 % 2 = _; omega
  | 1, _ => show _ / 64 % 2 = _; omega
  | 2, _ => show _ / 32 % 2 = _; omega
  | 3, _ => show _ / 16 % 2 = _; omega
  | 4, _ => show _ / 8 % 2 = _; omega
  | 5, _ => show _ / 4 % 2 = _; omega
  | 6, _ => show _ / 2 % 2 = _; omega
  | 7, _ => show _ / 1 % 2 = _; omega
theorem jpQ (b : List Int) (off w v p : Nat) (hp : p < 8 * b.length) : jbC (bl (putN b off w v)) p = jbE b off w v p := by
  have e : bl (putN b off w v) (p / 8) = bvG (jbE b off w v) (8 * (p / 8)) 8 := by
    unfold bl putN rdd
    rw [List.getD_eq_getElem?_getD, jex (by omega)]
    simp
  unfold jbC
  rw [e, jLR (jfD b off w v) _ (Nat.mod_lt p (by decide))]
  congr 1; omega
def orV (x : Int) (s : Nat) : Int := IntKind.wrap .u8 ((BitVec.toNat (BitVec.ofInt (IntKind.bits .u8) x ||| BitVec.ofInt (IntKind.bits .u8) (IntKind.wrap .u8 ((1 : Int) * 2 ^ (min s (IntKind.bits .u8))))) : Nat) : Int)
def clrV (x : Int) (s : Nat) : Int := IntKind.wrap .u8 ((BitVec.toNat (BitVec.ofInt (IntKind.bits .u8) x &&& ~~~(BitVec.ofInt (IntKind.bits .u8) (IntKind.wrap .u8 ((1 : Int) * 2 ^ (min s (IntKind.bits .u8)))))) : Nat) : Int)
def jJn (x s : Nat) : Bool :=
  decide (0 ≤ orV (x : Int) s) && decide (orV (x : Int) s ≤ 255) && decide (0 ≤ clrV (x : Int) s) && decide (clrV (x : Int) s ≤ 255) &&
  (List.range 8).all fun t => ((orV (x : Int) s).toNat / 2 ^ t % 2 == if t = s then 1 else x / 2 ^ t % 2) && ((clrV (x : Int) s).toNat / 2 ^ t % 2 == if t = s then 0 else x / 2 ^ t % 2)
theorem jLT : ((List.range 256).all fun x => (List.range 8).all fun s => jJn x s) = true := by kernel_rfl
theorem bits_ok {x s : Nat} (hx : x < 256) (hs : s < 8) : jJn x s = true := by
  have h := List.all_eq_true.1 jLT x (List.mem_range.2 hx)
  exact List.all_eq_true.1 h s (List.mem_range.2 hs)
def setV (x : Int) (s bit : Nat) : Int := if bit = 1 then orV x s else clrV x s
theorem setV_ok {x : Int} {s bit : Nat} (hx : 0 ≤ x ∧ x ≤ 255) (hs : s < 8) (hb : bit < 2) : (0 ≤ setV x s bit ∧ setV x s bit ≤ 255) ∧ ∀ t, t < 8 → (setV x s bit).toNat / 2 ^ t % 2 = if t = s then bit else x.toNat / 2 ^ t % 2 := by
  have h := bits_ok (x := x.toNat) (s := s) (by omega) hs
  unfold jJn at h
  rw [show ((x.toNat : Nat) : Int) = x by omega] at h
  simp only [Bool.and_eq_true, decide_eq_true_eq, List.all_eq_true, List.mem_range, beq_iff_eq] at h
  obtain ⟨⟨⟨⟨a1, a2⟩, a3⟩, a4⟩, a5⟩ := h
  unfold setV
  by_cases e : bit = 1
  · simp only [if_pos e]
    exact ⟨⟨a1, a2⟩, fun t ht => by rw [(a5 t ht).1, e]⟩
  · simp only [if_neg e]
    exact ⟨⟨a3, a4⟩, fun t ht => by rw [(a5 t ht).2, show bit = 0 by omega]⟩
theorem set_isB {l : List Int} (h : isB l) {i : Nat} {x : Int} (hx : 0 ≤ x ∧ x ≤ 255) : isB (l.set i x) := fun y hy => by
  rcases List.mem_or_eq_of_mem_set hy with h' | h'
  · exact h y h'
  · rw [h']; exact hx
theorem set_bit {l : List Int} (hl : isB l) {at_ bit : Nat} (ha : at_ / 8 < l.length) (hb : bit < 2) : isB (l.set (at_ / 8) (setV (rdd 0 l (at_ / 8)) (7 - at_ % 8) bit)) ∧ ∀ p, jbC (bl (l.set (at_ / 8) (setV (rdd 0 l (at_ / 8)) (7 - at_ % 8) bit))) p = if p = at_ then bit else jbC (bl l) p := by
  obtain ⟨h1, h2⟩ := setV_ok (s := 7 - at_ % 8) (jvt hl (at_ / 8)) (by omega) hb
  refine ⟨set_isB hl h1, fun p => ?_⟩
  by_cases e : p / 8 = at_ / 8
  · have e1 : bl (l.set (at_ / 8) (setV (rdd 0 l (at_ / 8)) (7 - at_ % 8) bit)) (p / 8) = (setV (rdd 0 l (at_ / 8)) (7 - at_ % 8) bit).toNat := by
      unfold bl
      rw [e, jbd (by simpa using ha), List.getElem_set_self]
    unfold jbC
    rw [e1, h2 (7 - p % 8) (by omega)]
    by_cases e2 : p = at_
    · rw [if_pos (by rw [e2]), if_pos e2]
    · rw [if_neg (by omega), if_neg e2, e]; rfl
  · have e1 : bl (l.set (at_ / 8) (setV (rdd 0 l (at_ / 8)) (7 - at_ % 8) bit)) (p / 8) = bl l (p / 8) := by
      unfold bl rdd
      rw [List.getD_eq_getElem?_getD, List.getElem?_set_ne (fun k => e k.symm)]; rfl
    rw [if_neg (fun k => e (by rw [k]))]
    unfold jbC; rw [e1]
end Go.AMach

/- A number put into a packet. -/
namespace Go.AMach
set_option linter.unusedVariables false
set_option linter.unusedSimpArgs false
set_option linter.unnecessarySimpa false
open Go
set_option linter.unusedVariables false

theorem And_one (v : Nat) : ∃ r : Int, jwG (wN v) (((0 : Int), ((1 : Int), ())) : jaW) = some (((r, (((v % 2 : Nat) : Int), ())), ()), ()) := by
  refine ⟨IntKind.wrap .u64 ((BitVec.toNat (BitVec.ofInt (IntKind.bits .u64) (wN v).1 &&& BitVec.ofInt (IntKind.bits .u64) (0 : Int)) : Nat) : Int), fin ?_⟩
  unfold jKu
  have : IntKind.wrap .u64 ((BitVec.toNat (BitVec.ofInt (IntKind.bits .u64) (wN v).2.1 &&& BitVec.ofInt (IntKind.bits .u64) (1 : Int)) : Nat) : Int) = ((v % 2 : Nat) : Int) := by
    have h := andU (v % 18446744073709551616) 1 (Nat.mod_lt _ (by decide)) (by decide)
    rw [Nat.and_one_is_mod] at h
    refine h.trans ?_
    congr 1; omega
  simp only [this]

theorem jRk (k : List Int → Option Res) (v : Nat) (hv : v < 340282366920938463463374607431768211456) (b : List Int) (off w : Nat) (hw : 1 ≤ w ∧ w ≤ 128) (ho : off + w ≤ 8 * b.length) (hl : b.length ≤ 1000000) : ∀ (m i : Nat) (c : List Int), i ≤ w → w - i < m → c.length = b.length → isB c → (∀ p, jbC (bl c) p = if off + w - i ≤ p ∧ p < off + w then v / 2 ^ (off + w - 1 - p) % 2 else jbC (bl b) p) →
    ∃ c', jjG FUEL k (off : Int) (w : Int) b.length (w : Int) (wN v) m (i : Int) c = k c' ∧ c'.length = b.length ∧ isB c' ∧ (∀ p, jbC (bl c') p = jbE b off w v p)
  | 0, _, _, _, h, _, _, _ => by omega
  | m + 1, i, c, hi, hm, hc, hB, hp => by
    show ∃ c', jrC FUEL k (off : Int) (w : Int) b.length (w : Int) (wN v) (jjG FUEL k (off : Int) (w : Int) b.length (w : Int) (wN v) m) (i : Int) c = k c' ∧ _
    unfold jrC
    rw [jao]
    by_cases h : i < w
    · rw [if_pos (by omega)]
      generalize ha : off + w - 1 - i = a
      have e1 : IntKind.wrap .i64 (IntKind.wrap .i64 (IntKind.wrap .i64 ((off : Int) + (w : Int)) - 1) - (i : Int)) = (a : Int) := by
        rw [IntWalk.i64_in ((off : Int) + w) (by omega), IntWalk.i64_in ((off : Int) + w - 1) (by omega), IntWalk.i64_in _ (by omega)]; omega
      have e2 : IntKind.wrap .i64 (7 - Int.tmod (a : Int) 8) = ((7 - a % 8 : Nat) : Int) := by
        rw [Int.tmod_eq_emod_of_nonneg (by omega), IntWalk.i64_in _ (by omega)]; omega
      have e3 : IntKind.wrap .i64 (Int.tdiv (a : Int) 8) = ((a / 8 : Nat) : Int) := by
        rw [Int.tdiv_eq_ediv_of_nonneg (by omega), IntWalk.i64_in _ (by omega)]; omega
      have h8 : ((8 : Int) != 0) = true := by decide
      have hr := Right_N v i (by omega) hv
      obtain ⟨ra, hand⟩ := And_one (v / 2 ^ i)
      have hd : decide ((0 : Int) ≤ ((7 - a % 8 : Nat) : Int)) = true := by rw [decide_eq_true_eq]; omega
      have hd2 : decide ((0 : Int) ≤ ((a / 8 : Nat) : Int) ∧ ((a / 8 : Nat) : Int) < ((b.length : Nat) : Int)) = true := by rw [decide_eq_true_eq]; omega
      simp only [e1, e2, e3, h8, hd, hd2, cond_true, jal, jyF, jKh (wN v) (i : Int) (by omega), hr, jkw, jlS, jKi, jtp, jBx, hand, RS.get, Option.getD_some, Option.isSome_some, jaQ]
      generalize hbit : v / 2 ^ i % 2 = bit
      have hbl : bit < 2 := by rw [← hbit]; exact Nat.mod_lt _ (by decide)
      obtain ⟨s1, s2⟩ := set_bit hB (at_ := a) (bit := bit) (by omega) hbl
      have key := jRk k v hv b off w hw ho hl m (i + 1) (c.set (a / 8) (setV (rdd 0 c (a / 8)) (7 - a % 8) bit)) (by omega) (by omega) (by simpa using hc) s1 fun p => by
        rw [s2 p]
        by_cases e : p = a
        · rw [if_pos e, if_pos (by omega), e, ← hbit]
          congr 3; omega
        · rw [if_neg e, hp p]
          by_cases q : off + w - i ≤ p ∧ p < off + w
          · rw [if_pos q, if_pos (by omega)]
          · rw [if_neg q, if_neg (by omega)]
      rw [jaD (by omega)]
      by_cases hb1 : bit = 1
      · rw [decide_eq_true (by omega), cond_true]
        unfold setV orV at key
        rw [if_pos hb1] at key
        exact key
      · rw [decide_eq_false (by omega), cond_false]
        unfold setV clrV at key
        rw [if_neg hb1] at key
        exact key
    · rw [if_neg (by omega)]
      refine ⟨c, rfl, hc, hB, fun p => ?_⟩
      rw [hp p]
      unfold jbE
      by_cases q : off ≤ p ∧ p < off + w
      · rw [if_pos (by omega), if_pos q]
      · rw [if_neg (by omega), if_neg q]

theorem Q_fPut (v : Nat) (hv : v < 340282366920938463463374607431768211456) {b : List Int} (hb : isB b) (off w : Nat) (hw : 1 ≤ w ∧ w ≤ 128) (ho : off + w ≤ 8 * b.length) (hl : b.length ≤ 1000000) :
    jJD (bytesOf b) (off : Int) (w : Int) (wN v) = some ((bytesOf (putN b off w v), (0, ())), ()) := by
  refine fin ?_
  unfold jKo
  have hm := jQZ (bytesOf b) off w (by rw [jaw]; omega) hw.1 hw.2 (by omega)
  rw [if_pos (by rw [jaw]; exact ho)] at hm
  simp only [jox, jBz, hm, RS.get, Option.getD_some, Option.isSome_some, cond_true, jaV, decide_true, Bool.not_true, cond_false, jaw, jbc hb]
  obtain ⟨c', h1, h2, h3, h4⟩ := jRk (fun y9 => some (jaa jsx jsN (((bytesOf (cutL (0 : Int) y9 0 b.length)), ((0 : Int), ())), ()))) v hv b off w hw ho hl FUEL 0 b (by omega) (by unfold FUEL; omega) rfl hb fun p => by rw [if_neg (by omega)]
  have hc : c' = putN b off w v := juk h3 (jgq _ _ _ _) (by rw [h2, jbG]) fun p hp => by rw [h4, jpQ b off w v p (by omega)]
  refine Eq.trans h1 ?_
  have hcut : cutL (0 : Int) c' 0 b.length = c' := by rw [← h2]; exact jbI _ _
  rw [hc] at hcut
  simp only [hc, hcut]
theorem jKa (s : ByteArray) (off w : Int) (wd : jaW) (hs : s.size < 1000000000) (ho : off ≤ 9223372036854775807)
    (h : ¬ (0 ≤ off ∧ 1 ≤ w ∧ w ≤ 128 ∧ off + w ≤ 8 * (s.size : Int))) : jJD s off w wd = some (((ByteArray.empty), (getE off w, ())), ()) := by
  have hm : jCh s off w = some ((getE off w, ()), ()) := by
    refine fin ?_
    unfold jCq getE
    simp only [jao]
    refine jbU (fun h1 => by rw [if_pos h1]) fun h1 => ?_
    rw [if_neg h1]
    refine jbU (fun h2 => by rw [if_pos h2]) fun h2 => ?_
    rw [if_neg h2]
    refine jbU (fun h3 => by rw [if_pos h3]) fun h3 => ?_
    rw [if_neg h3, IntWalk.i64_in (8 * (s.size : Int)) (by omega), IntWalk.i64_in _ (by omega), if_pos (by omega)]
  refine fin ?_
  unfold jKo
  simp only [jox, jBz, hm, RS.get, Option.getD_some, Option.isSome_some, cond_true, jaV]
  rw [decide_eq_false (jfP off w), Bool.not_false, cond_true]
  rfl

theorem jlW (b : List Int) (hb : isB b) (off w v fr n : Nat) (h1 : fr = off / 8) (h2 : n = (off + w + 7) / 8 - fr) (ho : off + w ≤ 8 * b.length) (hw : 1 ≤ w) :
    b.take fr ++ (putN ((b.drop fr).take n) (off - 8 * fr) w v ++ b.drop (fr + n)) = putN b off w v := by
  have hcl : ((b.drop fr).take n).length = n := by rw [List.length_take, List.length_drop]; omega
  have hB : isB (b.take fr ++ (putN ((b.drop fr).take n) (off - 8 * fr) w v ++ b.drop (fr + n))) := fun x hx => by
    rcases List.mem_append.1 hx with hx | hx
    · exact hb x (List.mem_of_mem_take hx)
    · rcases List.mem_append.1 hx with hx | hx
      · exact jgq _ _ _ _ x hx
      · exact hb x (List.mem_of_mem_drop hx)
  have hL : (b.take fr ++ (putN ((b.drop fr).take n) (off - 8 * fr) w v ++ b.drop (fr + n))).length = b.length := by
    simp only [List.length_append, List.length_take, List.length_drop, jbG, hcl]; omega
  refine juk hB (jgq _ _ _ _) (by rw [hL, jbG]) fun p hp => ?_
  rw [hL] at hp
  rw [jpQ b off w v p hp]
  have hl1 : (b.take fr).length = fr := by rw [List.length_take]; omega
  have hl2 : (putN ((b.drop fr).take n) (off - 8 * fr) w v).length = n := by rw [jbG, hcl]
  by_cases c1 : p / 8 < fr
  · have : bl (b.take fr ++ (putN ((b.drop fr).take n) (off - 8 * fr) w v ++ b.drop (fr + n))) (p / 8) = bl b (p / 8) := by
      unfold bl
      rw [jbd (by rw [hL]; omega), jbd (l := b) (by omega), List.getElem_append_left (by omega), List.getElem_take]
    rw [jhg this]
    unfold jbE; rw [if_neg (by omega)]
  by_cases c2 : p / 8 < fr + n
  · have : bl (b.take fr ++ (putN ((b.drop fr).take n) (off - 8 * fr) w v ++ b.drop (fr + n))) (p / 8) = bl (putN ((b.drop fr).take n) (off - 8 * fr) w v) (p / 8 - fr) := by
      unfold bl
      rw [jbd (by rw [hL]; omega), jbd (l := putN ((b.drop fr).take n) (off - 8 * fr) w v) (by omega), List.getElem_append_right (by omega), List.getElem_append_left (by omega)]
      simp only [hl1]
    have e1 : jbC (bl (b.take fr ++ (putN ((b.drop fr).take n) (off - 8 * fr) w v ++ b.drop (fr + n)))) p = jbC (bl (putN ((b.drop fr).take n) (off - 8 * fr) w v)) (p - 8 * fr) := by
      unfold jbC
      rw [this, show (p - 8 * fr) / 8 = p / 8 - fr by omega, show (p - 8 * fr) % 8 = p % 8 by omega]
    rw [e1, jpQ _ _ _ _ _ (by rw [hcl]; omega)]
    unfold jbE
    by_cases q : off ≤ p ∧ p < off + w
    · rw [if_pos (by omega), if_pos q]
      congr 3; omega
    · rw [if_neg (by omega), if_neg q]
      unfold jbC
      have : bl ((b.drop fr).take n) ((p - 8 * fr) / 8) = bl b (p / 8) := by
        unfold bl
        rw [jbd (by rw [hcl]; omega), jbd (l := b) (by omega), List.getElem_take, List.getElem_drop]
        congr 2; omega
      rw [this, show (p - 8 * fr) % 8 = p % 8 by omega]
  · have : bl (b.take fr ++ (putN ((b.drop fr).take n) (off - 8 * fr) w v ++ b.drop (fr + n))) (p / 8) = bl b (p / 8) := by
      unfold bl
      rw [jbd (by rw [hL]; omega), jbd (l := b) (by omega), List.getElem_append_right (by omega), List.getElem_append_right (by omega), List.getElem_drop]
      simp only [hl1, hl2]
      congr 2; omega
    rw [jhg this]
    unfold jbE; rw [if_neg (by omega)]

def putB (b : List Int) (off w : Int) (v : Nat) : List Int := putN b off.toNat w.toNat v
end Go.AMach

/- A number put into a field of a packet. -/
namespace Go.AMach
set_option linter.unusedVariables false
set_option linter.unusedSimpArgs false
set_option linter.unnecessarySimpa false
open Go
set_option linter.unusedVariables false

def putF (hs : List jan) (b mt : List Int) (f : jaB) (v : Nat) : Int × (List Int × List Int) := match jch hs b mt f with
  | none => (3, (b, mt))
  | some (c, a) => if (getB c (bitV a f.2.2.2.1) f.2.2.2.2.1).isSome then (0, (if f.2.1 = 3 then (b, putB mt (bitV a f.2.2.2.1) f.2.2.2.2.1 v) else (putB b (bitV a f.2.2.2.1) f.2.2.2.2.1 v, mt))) else (1, (b, mt))
theorem jlY (b : List Int) (off w : Int) (v : Nat) : (putB b off w v).length = b.length := jbG _ _ _ _
theorem jeX (hs : List jan) (b mt : List Int) (f : jaB) (v : Nat) : (putF hs b mt f v).2.1.length = b.length ∧ (putF hs b mt f v).2.2.length = mt.length := by
  unfold putF
  split
  · exact ⟨rfl, rfl⟩
  · split
    · split
      · exact ⟨rfl, jlY _ _ _ _⟩
      · exact ⟨jlY _ _ _ _, rfl⟩
    · exact ⟨rfl, rfl⟩
theorem jvp {hs : List jan} {b mt : List Int} (P : PkOk hs b mt) (f : jaB) (v : Nat) : PkOk hs (putF hs b mt f v).2.1 (putF hs b mt f v).2.2 := by
  obtain ⟨l1, l2⟩ := jeX hs b mt f v
  refine ⟨?_, ?_, by rw [l1]; exact P.bl, by rw [l2]; exact P.ml, P.hl, P.at_⟩
  · unfold putF
    split
    · exact P.bB
    · split
      · split
        · exact P.bB
        · exact jgq _ _ _ _
      · exact P.bB
  · unfold putF
    split
    · exact P.mB
    · split
      · split
        · exact jgq _ _ _ _
        · exact P.mB
      · exact P.mB
theorem jLi (hs : List jan) (b mt : List Int) (f : jaB) (v : Nat) : (putF hs b mt f v).1 = match getF hs b mt f with | .ok _ => 0 | .error e => e := by
  unfold putF getF
  cases jch hs b mt f with
  | none => rfl
  | some ca =>
    obtain ⟨c, a⟩ := ca
    simp only
    cases getB c (bitV a f.2.2.2.1) f.2.2.2.2.1 <;> rfl
theorem jvq {hs : List jan} {b mt : List Int} {f : jaB} {v : Nat} (h : (putF hs b mt f v).1 ≠ 0) : (putF hs b mt f v).2 = (b, mt) := by
  unfold putF at h ⊢
  split
  · rfl
  · rename_i c a hw
    rw [hw] at h
    simp only at h
    split
    · rename_i k
      rw [if_pos k] at h; exact absurd rfl h
    · rfl
theorem jij {hs : List jan} {b mt c : List Int} {a : Int} {f : jaB} (h : jch hs b mt f = some (c, a)) : (f.2.1 = 3 ∧ c = mt ∧ a = 0) ∨ (f.2.1 ≠ 3 ∧ c = b ∧ (a = 0 ∨ atOf hs f.2.2.1 = some a)) := by
  unfold jch at h
  by_cases c1 : f.2.1 = 1
  · rw [if_pos c1] at h; cases h; exact .inr ⟨by omega, rfl, .inl rfl⟩
  rw [if_neg c1] at h
  by_cases c3 : f.2.1 = 3
  · rw [if_pos c3] at h; cases h; exact .inl ⟨c3, rfl, rfl⟩
  rw [if_neg c3] at h
  by_cases c2 : f.2.1 = 2
  · rw [if_pos c2] at h
    cases ha : atOf hs f.2.2.1 with
    | none => rw [ha] at h; cases h
    | some x => rw [ha] at h; cases h; exact .inr ⟨c3, rfl, .inr rfl⟩
  · rw [if_neg c2] at h; cases h
end Go.AMach

/- Layer 18: KeyGone, KeyAlike. -/
namespace Go.AMach
set_option linter.unusedVariables false
set_option linter.unusedSimpArgs false
set_option linter.unnecessarySimpa false
open Go
set_option linter.unusedVariables false

def jfq : List Int := mkL 32 fun _ => (0 : Int)
theorem jsi : isB jfq := fun x hx => by
  unfold jfq mkL at hx
  simp at hx
  omega
theorem jul : jax (bytesOf jfq) = jfq := jbc jsi
theorem jnL : (bytesOf jfq).size = 32 := jaw _
theorem dec_n0 {x : HK.sems jgo} : jap jxJ jyn (some (jaa jiv jgo (((), ((), ())), x))) = none := rfl
theorem jRb (s : ByteArray) (h : s.size ≤ 9216) : jCj s = none ∧ jrl s = some (((), ((), ())), ((s.size, ()), (jax s, ()))) := by
  have hM : jwR FUEL s = some (jaa jiv jgo (((), ((), ())), ((s.size, ()), (jax s, ())))) := by
    unfold jwR
    rw [jao, if_neg (by omega)]
  exact ⟨by unfold jCj; rw [hM]; exact dec_n0, fin hM⟩
theorem jKe (s : ByteArray) (h : 9216 < s.size) : jCj s = some (((), ((), ())), ()) := by
  refine fin ?_
  unfold jwR
  rw [jao, if_pos (by omega)]
theorem Q_pNew (n : Int) (s : ByteArray) (h : s.size ≤ 9216) : jCi n s = some (((), ((), ())), (((), ((), ((), (n, ())))), ((s.size, ()), (jax s, ((jfq.length, ()), (jfq, ())))))) := by
  refine fin ?_
  unfold juB
  obtain ⟨a0, a1⟩ := jRb s h
  obtain ⟨b0, b1⟩ := jRb (bytesOf jfq) (by rw [jnL]; omega)
  have d : decide ((0 : Int) ≤ (32 : Int) ∧ (32 : Int) ≤ (32 : Int) ∧ (1 : Nat) * (32 : Int) ≤ (2 : Int) ^ 46) = true := by decide
  have hz : (bytesOf (mkL (Int.toNat (32 : Int)) (fun i => (0 : Int)))) = bytesOf jfq := rfl
  simp only [jyK, jpT, jvn, a0, a1, d, hz, b0, b1, RS.get, Option.getD_some, Option.isSome_some, Option.isSome_none, cond_true, cond_false, jul, jnL]
  rfl
theorem dec_n1 : jap jxI jym (some (jaa jiu jiA (((), ((), ())), ()))) = none := rfl
theorem jJV (n : Int) (s : ByteArray) (h : 9216 < s.size) : jCi n s = none ∧ jrk n s = some (((), ((), ())), ()) := by
  have hM : juB FUEL n s = some (jaa jiu jiA (((), ((), ())), ())) := by
    unfold juB
    simp only [jyK, jKe s h, Option.isSome_some, cond_true]
  exact ⟨by unfold jCi; rw [hM]; exact dec_n1, fin hM⟩
theorem Q_bText {b : List Int} : jJO b.length b = some ((bytesOf b, ()), ((b.length, ()), (b, ()))) := by
  refine fin ?_
  unfold jKx
  rw [jbI]
theorem Q_pWalk (l : List jai) (hl : Nodes l) (n : Int) (b mt : List Int) (h : b.length < 1000000000) : jMW l n b.length b mt.length mt =
    some (((jbg l (bytesOf b)).2.1, ((jbg l (bytesOf b)).2.2, ())), (((), ((jbg l (bytesOf b)).1.length, ((), (n, ())))), ((b.length, ()), (b, ((mt.length, ()), (mt, ((jbg l (bytesOf b)).1, ()))))))) := by
  have hT : jNo n b.length b mt.length mt = some ((bytesOf b, ()), (((), ((), ((), (n, ())))), ((b.length, ()), (b, ((mt.length, ()), (mt, ())))))) := by
    refine fin ?_
    unfold jOx
    simp only [joy, jBA, Q_bText, RS.get, Option.getD_some, Option.isSome_some, cond_true]
  refine fin ?_
  unfold jOk
  simp only [jPh, q_z04, hT, RS.get, Option.getD_some, Option.isSome_some, cond_true, jEs, q_z0x, jKg l hl (bytesOf b) (by rw [jaw]; exact h)]

noncomputable def hdsV (l : List jai) (s : ByteArray) : List jan := (jbg l s).1
theorem pk_ok (l : List jai) (s : ByteArray) (h : s.size ≤ 9216) : PkOk (hdsV l s) (jax s) jfq where
  bB := jgy s
  mB := jsi
  bl := by rw [jba]; omega
  ml := by decide
  hl := by have := jla l s; unfold hdsV; omega
  at_ := fun x hx => by have := jwX l s x hx; omega
end Go.AMach
