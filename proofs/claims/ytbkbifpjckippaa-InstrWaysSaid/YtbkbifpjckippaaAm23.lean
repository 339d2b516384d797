/- The abstract machine: plain lemmas for the printed functions. -/
import Derived.Test.YtbkbifpjckippaaAm21
import Derived.IntWalk
import Derived.KernelRfl
namespace Go.AMach
set_option linter.unusedVariables false
set_option linter.unusedSimpArgs false
set_option linter.unnecessarySimpa false
set_option linter.unusedVariables false

theorem cond_dec {α : Type} {p : Prop} [Decidable p] (a b : α) : cond (decide p) a b = if p then a else b := by by_cases h : p <;> simp [h]
theorem rdd_lt {α : Type} {d : α} {l : List α} {i : Nat} (h : i < l.length) : rdd d l i = l[i] := by
  unfold rdd; rw [List.getD_eq_getElem?_getD, List.getElem?_eq_getElem h]; rfl
theorem rdd_ge {α : Type} {d : α} {l : List α} {i : Nat} (h : l.length ≤ i) : rdd d l i = d := by
  unfold rdd; rw [List.getD_eq_getElem?_getD, List.getElem?_eq_none h]; rfl
theorem rdd_mem {α : Type} {d : α} {l : List α} {i : Nat} (h : i < l.length) : rdd d l i ∈ l := by rw [rdd_lt h]; exact List.getElem_mem h
theorem rdd_zero {α : Type} {d : α} (x : α) (l : List α) : rdd d (x :: l) 0 = x := rfl
theorem drop_rdd {α : Type} (d : α) {l : List α} {i : Nat} (h : i < l.length) : l.drop i = rdd d l i :: l.drop (i + 1) := by
  rw [rdd_lt h]; exact List.drop_eq_getElem_cons h
theorem take_rdd {α : Type} (d : α) {l : List α} {i : Nat} (h : i < l.length) : l.take (i + 1) = l.take i ++ [rdd d l i] := by
  rw [rdd_lt h, List.take_add_one, List.getElem?_eq_getElem h]; rfl
theorem cutL_length' {α : Type} (d : α) (l : List α) (a n : Nat) : (cutL d l a n).length = n := mkL_length _ _
theorem cutL_eq {α : Type} {d : α} {l : List α} {a n : Nat} (h : a + n ≤ l.length) : cutL d l a n = (l.drop a).take n := by
  apply List.ext_getElem?
  intro i
  by_cases hi : i < n
  · unfold cutL
    rw [mkL_get hi, rdd_lt (by omega), List.getElem?_take, if_pos hi, List.getElem?_drop, List.getElem?_eq_getElem (by omega)]
    congr 2; omega
  · rw [List.getElem?_eq_none (by rw [cutL_length']; omega), List.getElem?_eq_none (by simp; omega)]
theorem cutL_all {α : Type} (d : α) (l : List α) : cutL d l 0 l.length = l := by
  rw [cutL_eq (by omega), List.drop_zero, List.take_of_length_le (Nat.le_refl _)]
theorem set_mid {α : Type} (x y : α) (b : List α) : ∀ {a : List α} {n : Nat}, a.length = n → (a ++ x :: b).set n y = a ++ y :: b
  | [], n, h => by subst h; rfl
  | z :: a, n, h => by
    subst h
    show z :: (a ++ x :: b).set a.length y = _
    rw [set_mid x y b rfl]; rfl
theorem toNat_cast (i : Nat) : Int.toNat (i : Int) = i := Int.toNat_natCast i
theorem i64_succ {i : Nat} (h : i < 9223372036854775807) : IntKind.wrap .i64 ((i : Int) + 1) = ((i + 1 : Nat) : Int) := by
  rw [IntWalk.i64_in _ (by omega)]; omega
theorem i64_pred {i : Nat} (h : 0 < i) (h2 : i < 9223372036854775807) : IntKind.wrap .i64 ((i : Int) - 1) = ((i - 1 : Nat) : Int) := by
  rw [IntWalk.i64_in _ (by omega)]; omega
theorem u64_in (n : Int) (h : 0 ≤ n ∧ n ≤ 18446744073709551615) : IntKind.wrap .u64 n = n := by simp [IntKind.wrap, IntKind.bits, IntKind.signed]; omega
theorem fuel_big {n : Nat} (h : n ≤ 9223372036854775808) : n < FUEL := by unfold FUEL; omega
theorem get_some {es : List EK} {hs : List HK} (r : RS es hs) : RS.get (some r) = r := rfl
theorem wf_i64 {x : Int} (h : (Lit.int .i64 x).wf = true) : -9223372036854775808 ≤ x ∧ x ≤ 9223372036854775807 := by
  simpa [Lit.wf, IntKind.min, IntKind.max, IntKind.bits, IntKind.signed] using h
theorem wf_u32 {x : Int} (h : (Lit.int .u32 x).wf = true) : 0 ≤ x ∧ x ≤ 4294967295 := by
  simpa [Lit.wf, IntKind.min, IntKind.max, IntKind.bits, IntKind.signed] using h
theorem wf_u8 {x : Int} (h : (Lit.int .u8 x).wf = true) : 0 ≤ x ∧ x ≤ 255 := by
  simpa [Lit.wf, IntKind.min, IntKind.max, IntKind.bits, IntKind.signed] using h
theorem wf_u64 {x : Int} (h : (Lit.int .u64 x).wf = true) : 0 ≤ x ∧ x ≤ 18446744073709551615 := by
  simpa [Lit.wf, IntKind.min, IntKind.max, IntKind.bits, IntKind.signed] using h
theorem ite_eq {α : Type} {c : Prop} [Decidable c] {a b r : α} (h1 : c → a = r) (h2 : ¬ c → b = r) : (if c then a else b) = r := by
  by_cases h : c
  · rw [if_pos h]; exact h1 h
  · rw [if_neg h]; exact h2 h
theorem int_beq (a b : Int) : (a == b) = decide (a = b) := rfl
theorem int_bne (a b : Int) : (a != b) = !(decide (a = b)) := rfl
theorem noLoop {ls : Loops} {i : Nat} {Q : (St → Cont → Option Res) → Prop} (h : ls i = none) : ∀ L, ls i = some L → Q L := fun L hL => by rw [h] at hL; cases hL
theorem fin {es : List EK} {hs : List HK} {o : Option Res} {r : RS es hs} (h : o = some (encRes es hs r)) (hk : (EK.okks es && HK.okks hs) = true := by rfl) : decRes es hs o = some r := by rw [h]; exact decRes_enc _ _ _ hk
end Go.AMach
