/- Hashes: a byte taken in, and a number mixed, are told from another. -/
import Derived.Test.YtcngpijmkdpbgaaBa
namespace Go.AMach
set_option linter.unusedVariables false
set_option linter.unusedSimpArgs false
set_option linter.unnecessarySimpa false
open Go
set_option linter.unusedVariables false

abbrev M32 : Nat := 4294967296
theorem wrapu32 (n : Nat) : IntKind.wrap .u32 (n : Int) = ((n % 4294967296 : Nat) : Int) := by
  simp [IntKind.wrap, IntKind.bits, IntKind.signed]
theorem ofIntNat32 (a : Nat) (h : a < 4294967296) : (BitVec.ofInt 32 (a : Int)).toNat = a := by
  simp; omega
theorem xor32 (a b : Nat) (ha : a < 4294967296) (hb : b < 4294967296) :
    IntKind.wrap .u32 ((BitVec.toNat (BitVec.ofInt (IntKind.bits .u32) (a : Int) ^^^ BitVec.ofInt (IntKind.bits .u32) (b : Int)) : Nat) : Int) = ((a ^^^ b : Nat) : Int) := by
  have : BitVec.toNat (BitVec.ofInt (IntKind.bits .u32) (a : Int) ^^^ BitVec.ofInt (IntKind.bits .u32) (b : Int)) = a ^^^ b := by
    show BitVec.toNat (BitVec.ofInt 32 (a : Int) ^^^ BitVec.ofInt 32 (b : Int)) = _
    rw [BitVec.toNat_xor, ofIntNat32 a ha, ofIntNat32 b hb]
  rw [this, wrapu32, Nat.mod_eq_of_lt (Nat.xor_lt_two_pow (n := 32) ha hb)]
theorem xor_cancel {a b c : Nat} (h : a ^^^ c = b ^^^ c) : a = b := by
  have := congrArg (· ^^^ c) h
  simpa [Nat.xor_assoc] using this
theorem xor_shift_inj (k : Nat) (hk : 0 < k) : ∀ (n a b : Nat), a ≤ n → a ^^^ (a / 2 ^ k) = b ^^^ (b / 2 ^ k) → a = b
  | 0, a, b, h, e => by
    have : a = 0 := by omega
    subst this
    rw [Nat.zero_div, Nat.xor_zero] at e
    -- b ^ b / 2^k = 0
    have : b = b / 2 ^ k := by
      have := congrArg (· ^^^ (b / 2 ^ k)) e
      simpa [Nat.xor_assoc] using this.symm
    have h2 : 2 ≤ 2 ^ k := Nat.le_trans (by decide : 2 ≤ 2 ^ 1) (Nat.pow_le_pow_right (by decide) hk)
    by_cases hb : b = 0
    · exact hb.symm
    · have := Nat.div_lt_self (by omega : 0 < b) (by omega : 1 < 2 ^ k); omega
  | n + 1, a, b, h, e => by
    have e2 : a / 2 ^ k ^^^ (a / 2 ^ k / 2 ^ k) = b / 2 ^ k ^^^ (b / 2 ^ k / 2 ^ k) := by
      have := congrArg (· / 2 ^ k) e
      simpa [Nat.xor_div_two_pow] using this
    by_cases ha : a = 0
    · exact xor_shift_inj k hk 0 a b (by omega) e
    · have h2 : 2 ≤ 2 ^ k := Nat.le_trans (by decide : 2 ≤ 2 ^ 1) (Nat.pow_le_pow_right (by decide) hk)
      have hlt := Nat.div_lt_self (by omega : 0 < a) (by omega : 1 < 2 ^ k)
      have := xor_shift_inj k hk n (a / 2 ^ k) (b / 2 ^ k) (by omega) e2
      rw [this] at e
      exact xor_cancel e
theorem mul_inj32 {a b c d : Nat} (hcd : c * d % 4294967296 = 1) (ha : a < 4294967296) (hb : b < 4294967296) (h : a * c % 4294967296 = b * c % 4294967296) : a = b := by
  have k : ∀ x, x < 4294967296 → x * c % 4294967296 * d % 4294967296 = x := fun x hx => by
    rw [Nat.mod_mul_mod, Nat.mul_assoc, Nat.mul_mod, hcd, Nat.mul_one, Nat.mod_mod, Nat.mod_eq_of_lt hx]
  rw [← k a ha, h, k b hb]

/-! -: FNV -/
def fnv (h b : Nat) : Nat := (h ^^^ b) * 16777619 % 4294967296
theorem fnv_lt (h b : Nat) : fnv h b < 4294967296 := Nat.mod_lt _ (by decide)
theorem fnv_inj {h g b : Nat} (hh : h < 4294967296) (hg : g < 4294967296) (hb : b < 4294967296) (e : fnv h b = fnv g b) : h = g :=
  xor_cancel (mul_inj32 (d := 899433627) (by decide) (Nat.xor_lt_two_pow (n := 32) hh hb) (Nat.xor_lt_two_pow (n := 32) hg hb) e)
theorem fnv_inj2 {h b c : Nat} (hh : h < 4294967296) (hb : b < 4294967296) (hc : c < 4294967296) (e : fnv h b = fnv h c) : b = c := by
  have := mul_inj32 (d := 899433627) (by decide) (Nat.xor_lt_two_pow (n := 32) hh hb) (Nat.xor_lt_two_pow (n := 32) hh hc) e
  rw [Nat.xor_comm h b, Nat.xor_comm h c] at this
  exact xor_cancel this
def fnvL (h : Nat) (l : List Nat) : Nat := l.foldl fnv h
theorem fnvL_lt : ∀ (l : List Nat) (h : Nat), h < 4294967296 → fnvL h l < 4294967296
  | [], h, hh => hh
  | b :: r, h, hh => fnvL_lt r _ (fnv_lt h b)
def nats (s : ByteArray) : List Nat := s.data.toList.map fun b => b.toNat
theorem nats_length (s : ByteArray) : (nats s).length = s.size := by simp [nats]
theorem nats_lt (s : ByteArray) {b : Nat} (h : b ∈ nats s) : b < 256 := by
  unfold nats at h
  simp only [List.mem_map] at h
  obtain ⟨x, _, rfl⟩ := h
  exact UInt8.toNat_lt x
theorem nats_inj {s t : ByteArray} (h : nats s = nats t) : s = t := by
  apply ba_ext'
  unfold nats at h
  exact (List.map_inj_right (fun x y e => UInt8.toNat_inj.1 e)).1 h
theorem byteAt_nats (s : ByteArray) {i : Nat} (h : i < s.size) : byteAt s i = (((nats s).getD i 0 : Nat) : Int) := by
  unfold byteAt nats
  rw [List.getD_eq_getElem?_getD, List.getD_eq_getElem?_getD, List.getElem?_map, List.getElem?_eq_getElem (by simpa using h)]
  rfl

def fnv0 : Nat := 2166136261
/-- A number, mixed. -/
def xsh (k a : Nat) : Nat := a ^^^ (a / 2 ^ k)
def mixV (h : Nat) : Nat := xsh 16 (xsh 13 (xsh 16 h * 2246822507 % 4294967296) * 3266489909 % 4294967296)
theorem xsh_lt {k a : Nat} (h : a < 4294967296) : xsh k a < 4294967296 := Nat.xor_lt_two_pow (n := 32) h (Nat.lt_of_le_of_lt (Nat.div_le_self _ _) h)
theorem xsh_inj {k a b : Nat} (hk : 0 < k) (h : xsh k a = xsh k b) : a = b := xor_shift_inj k hk a a b (Nat.le_refl _) h
theorem mixV_inj {a b : Nat} (ha : a < 4294967296) (hb : b < 4294967296) (h : mixV a = mixV b) : a = b := by
  have h1 := xsh_inj (by decide) h
  have h2 := mul_inj32 (d := 2127672349) (by decide) (xsh_lt (Nat.mod_lt _ (by decide))) (xsh_lt (Nat.mod_lt _ (by decide))) h1
  have h3 := xsh_inj (by decide) h2
  have h4 := mul_inj32 (d := 2781581891) (by decide) (xsh_lt ha) (xsh_lt hb) h3
  exact xsh_inj (by decide) h4
/-! ### One byte changed -/
/-- At how many places do lists differ? -/
def diffs : List Nat → List Nat → Nat
  | a :: r, b :: s => (if a = b then 0 else 1) + diffs r s
  | _, _ => 0
theorem diffs_zero : ∀ {l m : List Nat}, l.length = m.length → diffs l m = 0 → l = m
  | [], [], _, _ => rfl
  | [], _ :: _, h, _ => by simp at h
  | _ :: _, [], h, _ => by simp at h
  | a :: r, b :: s, h, e => by
    simp only [diffs] at e
    split at e
    · rename_i hab
      have hrs : r = s := diffs_zero (by simpa using h) (by omega)
      rw [hab, hrs]
    · omega
theorem fnvL_ne (l : List Nat) (hl : ∀ b ∈ l, b < 256) : ∀ {h g : Nat}, h < 4294967296 → g < 4294967296 → h ≠ g → fnvL h l ≠ fnvL g l := by
  induction l with
  | nil => exact fun _ _ hne => hne
  | cons b r ih =>
    intro h g hh hg hne
    have hb := hl b List.mem_cons_self
    exact ih (fun x hx => hl x (List.mem_cons_of_mem _ hx)) (fnv_lt _ _) (fnv_lt _ _) fun e => hne (fnv_inj hh hg (by omega) e)
theorem fnvL_one : ∀ {l m : List Nat}, (∀ b ∈ l, b < 256) → (∀ b ∈ m, b < 256) → l.length = m.length → diffs l m = 1 → ∀ {h : Nat}, h < 4294967296 → fnvL h l ≠ fnvL h m
  | [], _, _, _, _, h, _, _ => by simp [diffs] at h
  | _ :: _, [], _, _, h, _, _, _ => by simp at h
  | a :: r, b :: s, hl, hm, h, e, g, hg => by
    have ha := hl a List.mem_cons_self
    have hb := hm b List.mem_cons_self
    simp only [diffs] at e
    split at e
    · rename_i hab
      subst hab
      exact fnvL_one (fun x hx => hl x (List.mem_cons_of_mem _ hx)) (fun x hx => hm x (List.mem_cons_of_mem _ hx)) (by simpa using h) (by omega) (fnv_lt _ _)
    · rename_i hab
      have hrs := diffs_zero (by simpa using h) (show diffs r s = 0 by omega)
      subst hrs
      exact fnvL_ne r (fun x hx => hl x (List.mem_cons_of_mem _ hx)) (fnv_lt _ _) (fnv_lt _ _) fun e => hab (fnv_inj2 hg (by omega) (by omega) e)
/-- The number of a text. -/
def numT (s : ByteArray) : Nat := mixV (fnvL fnv0 (nats s))
theorem numT_ne {s t : ByteArray} (h : s.size = t.size) (e : diffs (nats s) (nats t) = 1) : numT s ≠ numT t := fun k =>
  fnvL_one (fun b hb => nats_lt s hb) (fun b hb => nats_lt t hb) (by rw [nats_length, nats_length, h]) e (show fnv0 < 4294967296 by decide)
    (mixV_inj (fnvL_lt _ _ (by decide)) (fnvL_lt _ _ (by decide)) k)
end Go.AMach
