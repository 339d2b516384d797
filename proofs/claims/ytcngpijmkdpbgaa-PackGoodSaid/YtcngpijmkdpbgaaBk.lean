/- A number put into bytes; into a packet. -/
import Derived.Test.YtcngpijmkdpbgaaBd
namespace Go.AMach
set_option linter.unusedVariables false
set_option linter.unusedSimpArgs false
set_option linter.unnecessarySimpa false
open Go
set_option linter.unusedVariables false

/-! ### Bits of bytes -/
/-- The number of some bits. -/
def bvG (g : Nat → Nat) (off : Nat) : Nat → Nat
  | 0 => 0
  | w + 1 => 2 * bvG g off w + g (off + w)
theorem bv_bvG (bf : Nat → Nat) (off : Nat) : ∀ w, bv bf off w = bvG (bitOf bf) off w
  | 0 => rfl
  | w + 1 => by simp only [bv, bvG, bv_bvG bf off w]
theorem bvG_congr {g g' : Nat → Nat} {off : Nat} : ∀ w, (∀ i, off ≤ i → i < off + w → g i = g' i) → bvG g off w = bvG g' off w
  | 0, _ => rfl
  | w + 1, h => by
    simp only [bvG]
    rw [bvG_congr w fun i h1 h2 => h i h1 (by omega), h (off + w) (by omega) (by omega)]
theorem bl_bvG {b : List Int} (hb : isB b) (i : Nat) : bl b i = bvG (bitOf (bl b)) (8 * i) 8 := by
  rw [← bv_bvG, bv_byte _ _ _ (by omega), Nat.sub_self, Nat.pow_zero, Nat.div_one, Nat.mod_eq_of_lt (bl_lt hb i)]
theorem bitOf_lt (bf : Nat → Nat) (i : Nat) : bitOf bf i < 2 := Nat.mod_lt _ (by decide)
/-- Bytes are told by their bits. -/
theorem bytes_ext {a b : List Int} (ha : isB a) (hb : isB b) (hl : a.length = b.length) (h : ∀ p, p < 8 * a.length → bitOf (bl a) p = bitOf (bl b) p) : a = b := by
  apply List.ext_getElem hl
  intro i h1 h2
  have e : bl a i = bl b i := by
    rw [bl_bvG ha, bl_bvG hb]
    exact bvG_congr 8 fun p q1 q2 => h p (by omega)
  have ea := bl_cast ha i
  have eb := bl_cast hb i
  rw [rdd_lt h1] at ea
  rw [rdd_lt h2] at eb
  rw [← ea, ← eb, e]

/-- Some of the bits are a number's. -/
def putBit (b : List Int) (off w v : Nat) (p : Nat) : Nat := if off ≤ p ∧ p < off + w then v / 2 ^ (off + w - 1 - p) % 2 else bitOf (bl b) p
def putN (b : List Int) (off w v : Nat) : List Int := mkL b.length fun i => ((bvG (putBit b off w v) (8 * i) 8 : Nat) : Int)
theorem bvG_lt {g : Nat → Nat} {off : Nat} (hg : ∀ i, g i < 2) : ∀ w, bvG g off w < 2 ^ w
  | 0 => by simp [bvG]
  | w + 1 => by
    have := bvG_lt (off := off) hg w
    have := hg (off + w)
    simp only [bvG, Nat.pow_succ]; omega
theorem putBit_lt (b : List Int) (off w v p : Nat) : putBit b off w v p < 2 := by
  unfold putBit
  split
  · exact Nat.mod_lt _ (by decide)
  · exact bitOf_lt _ _
theorem putN_length (b : List Int) (off w v : Nat) : (putN b off w v).length = b.length := mkL_length _ _
theorem putN_isB (b : List Int) (off w v : Nat) : isB (putN b off w v) := fun x hx => by
  unfold putN mkL at hx
  simp only [List.mem_map] at hx
  obtain ⟨i, _, rfl⟩ := hx
  have := bvG_lt (off := 8 * i) (putBit_lt b off w v) 8
  omega
theorem bvG8_bit {g : Nat → Nat} (hg : ∀ i, g i < 2) (o : Nat) {k : Nat} (hk : k < 8) : bvG g o 8 / 2 ^ (7 - k) % 2 = g (o + k) := by
  have h0 := hg (o + 0); have h1 := hg (o + 1); have h2 := hg (o + 2); have h3 := hg (o + 3)
  have h4 := hg (o + 4); have h5 := hg (o + 5); have h6 := hg (o + 6); have h7 := hg (o + 7)
  have e : bvG g o 8 = 128 * g (o + 0) + 64 * g (o + 1) + 32 * g (o + 2) + 16 * g (o + 3) + 8 * g (o + 4) + 4 * g (o + 5) + 2 * g (o + 6) + g (o + 7) := by
    simp only [bvG]; omega
  rw [e]
  match k, hk with
  | 0, _ => show _ / 128 % 2 = _; omega
  | 1, _ => show _ / 64 % 2 = _; omega
  | 2, _ => show _ / 32 % 2 = _; omega
  | 3, _ => show _ / 16 % 2 = _; omega
  | 4, _ => show _ / 8 % 2 = _; omega
  | 5, _ => show _ / 4 % 2 = _; omega
  | 6, _ => show _ / 2 % 2 = _; omega
  | 7, _ => show _ / 1 % 2 = _; omega
theorem putN_bit (b : List Int) (off w v p : Nat) (hp : p < 8 * b.length) : bitOf (bl (putN b off w v)) p = putBit b off w v p := by
  have e : bl (putN b off w v) (p / 8) = bvG (putBit b off w v) (8 * (p / 8)) 8 := by
    unfold bl putN rdd
    rw [List.getD_eq_getElem?_getD, mkL_get (by omega)]
    simp
  unfold bitOf
  rw [e, bvG8_bit (putBit_lt b off w v) _ (Nat.mod_lt p (by decide))]
  congr 1; omega
/-- What is put is there. -/
theorem bvG_val (v off w : Nat) (g : Nat → Nat) (hg : ∀ p, off ≤ p → p < off + w → g p = v / 2 ^ (off + w - 1 - p) % 2) : ∀ k, k ≤ w → bvG g off k = v / 2 ^ (w - k) % 2 ^ k
  | 0, _ => by simp [bvG, Nat.mod_one]
  | k + 1, h => by
    simp only [bvG]
    rw [bvG_val v off w g hg k (by omega), hg (off + k) (by omega) (by omega), show off + w - 1 - (off + k) = w - (k + 1) by omega]
    have e1 : v / 2 ^ (w - k) = v / 2 ^ (w - (k + 1)) / 2 := by rw [Nat.div_div_eq_div_mul, ← Nat.pow_succ]; congr 2; omega
    rw [e1, Nat.pow_succ, Nat.mul_comm (2 ^ k) 2, Nat.mod_mul]; omega
theorem getB_put {b : List Int} {off w : Nat} (v : Nat) (h : off + w ≤ 8 * b.length) (h1 : 1 ≤ w) (h2 : w ≤ 128) : getB (putN b off w v) (off : Int) (w : Int) = some (v % 2 ^ w) := by
  unfold getB
  rw [putN_length, if_pos ⟨by omega, by omega, by omega, by omega⟩, toNat_cast, toNat_cast, bv_bvG]
  congr 1
  rw [bvG_val v off w _ (fun p q1 q2 => by rw [putN_bit b off w v p (by omega)]; unfold putBit; rw [if_pos ⟨q1, q2⟩]) w (Nat.le_refl _), Nat.sub_self, Nat.pow_zero, Nat.div_one]

/-! ### One bit -/
def orV (x : Int) (s : Nat) : Int := IntKind.wrap .u8 ((BitVec.toNat (BitVec.ofInt (IntKind.bits .u8) x ||| BitVec.ofInt (IntKind.bits .u8) (IntKind.wrap .u8 ((1 : Int) * 2 ^ (min s (IntKind.bits .u8))))) : Nat) : Int)
def clrV (x : Int) (s : Nat) : Int := IntKind.wrap .u8 ((BitVec.toNat (BitVec.ofInt (IntKind.bits .u8) x &&& ~~~(BitVec.ofInt (IntKind.bits .u8) (IntKind.wrap .u8 ((1 : Int) * 2 ^ (min s (IntKind.bits .u8)))))) : Nat) : Int)
def bitsOk (x s : Nat) : Bool :=
  decide (0 ≤ orV (x : Int) s) && decide (orV (x : Int) s ≤ 255) && decide (0 ≤ clrV (x : Int) s) && decide (clrV (x : Int) s ≤ 255) &&
  (List.range 8).all fun t => ((orV (x : Int) s).toNat / 2 ^ t % 2 == if t = s then 1 else x / 2 ^ t % 2) && ((clrV (x : Int) s).toNat / 2 ^ t % 2 == if t = s then 0 else x / 2 ^ t % 2)
theorem bits_all : ((List.range 256).all fun x => (List.range 8).all fun s => bitsOk x s) = true := by kernel_rfl
theorem bits_ok {x s : Nat} (hx : x < 256) (hs : s < 8) : bitsOk x s = true := by
  have h := List.all_eq_true.1 bits_all x (List.mem_range.2 hx)
  exact List.all_eq_true.1 h s (List.mem_range.2 hs)
/-- A bit set, or cleared. -/
def setV (x : Int) (s bit : Nat) : Int := if bit = 1 then orV x s else clrV x s
theorem setV_ok {x : Int} {s bit : Nat} (hx : 0 ≤ x ∧ x ≤ 255) (hs : s < 8) (hb : bit < 2) : (0 ≤ setV x s bit ∧ setV x s bit ≤ 255) ∧ ∀ t, t < 8 → (setV x s bit).toNat / 2 ^ t % 2 = if t = s then bit else x.toNat / 2 ^ t % 2 := by
  have h := bits_ok (x := x.toNat) (s := s) (by omega) hs
  unfold bitsOk at h
  rw [show ((x.toNat : Nat) : Int) = x by omega] at h
  simp only [Bool.and_eq_true, decide_eq_true_eq, List.all_eq_true, List.mem_range, beq_iff_eq] at h
  obtain ⟨⟨⟨⟨a1, a2⟩, a3⟩, a4⟩, a5⟩ := h
  unfold setV
  by_cases e : bit = 1
  · simp only [if_pos e]
    exact ⟨⟨a1, a2⟩, fun t ht => by rw [(a5 t ht).1, e]⟩
  · simp only [if_neg e]
    exact ⟨⟨a3, a4⟩, fun t ht => by rw [(a5 t ht).2, show bit = 0 by omega]⟩
theorem set_isB {l : List Int} (h : isB l) {i : Nat} {x : Int} (hx : 0 ≤ x ∧ x ≤ 255) : isB (l.set i x) := fun y hy => by
  rcases List.mem_or_eq_of_mem_set hy with h' | h'
  · exact h y h'
  · rw [h']; exact hx
theorem set_bit {l : List Int} (hl : isB l) {at_ bit : Nat} (ha : at_ / 8 < l.length) (hb : bit < 2) : isB (l.set (at_ / 8) (setV (rdd 0 l (at_ / 8)) (7 - at_ % 8) bit)) ∧ ∀ p, bitOf (bl (l.set (at_ / 8) (setV (rdd 0 l (at_ / 8)) (7 - at_ % 8) bit))) p = if p = at_ then bit else bitOf (bl l) p := by
  obtain ⟨h1, h2⟩ := setV_ok (s := 7 - at_ % 8) (isB_rdd hl (at_ / 8)) (by omega) hb
  refine ⟨set_isB hl h1, fun p => ?_⟩
  by_cases e : p / 8 = at_ / 8
  · have e1 : bl (l.set (at_ / 8) (setV (rdd 0 l (at_ / 8)) (7 - at_ % 8) bit)) (p / 8) = (setV (rdd 0 l (at_ / 8)) (7 - at_ % 8) bit).toNat := by
      unfold bl
      rw [e, rdd_lt (by simpa using ha), List.getElem_set_self]
    unfold bitOf
    rw [e1, h2 (7 - p % 8) (by omega)]
    by_cases e2 : p = at_
    · rw [if_pos (by rw [e2]), if_pos e2]
    · rw [if_neg (by omega), if_neg e2, e]; rfl
  · have e1 : bl (l.set (at_ / 8) (setV (rdd 0 l (at_ / 8)) (7 - at_ % 8) bit)) (p / 8) = bl l (p / 8) := by
      unfold bl rdd
      rw [List.getD_eq_getElem?_getD, List.getElem?_set_ne (fun k => e k.symm)]; rfl
    rw [if_neg (fun k => e (by rw [k]))]
    unfold bitOf; rw [e1]
end Go.AMach
